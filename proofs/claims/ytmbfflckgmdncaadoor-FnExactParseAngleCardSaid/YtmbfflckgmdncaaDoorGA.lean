/- A small language of symbolic values and memory for walks: values, types of elements, rows (slices), and what memory they tell. Nothing of the program is in it. -/
import Derived.Calls
import Derived.Control
import Derived.Orders
import Derived.Below
import Derived.Laws.AppendOwn
import Derived.Laws.OwnMore
import Derived.Laws.MakeOwn
import Derived.Laws.BytesArg
import Derived.Laws.IdiomStrings
import Derived.KernelRfl
import Derived.Laws.Sem
import Derived.Laws.StructEq
import Derived.Laws.Cells
import Derived.Laws.Entries
namespace Go.Proofs.YtmbfflckgmdncaaDoor.Fw
open Go Go.RowKit
set_option linter.unusedVariables false
set_option linter.unusedSimpArgs false

/-! ### lists, whnf-friendly -/
def nth {α : Type} : List α → Nat → Option α
  | [], _ => none
  | x :: _, 0 => some x
  | _ :: l, n + 1 => nth l n

def nthj {α : Type _} : List (Option α) → Nat → Option α
  | [], _ => none
  | x :: _, 0 => x
  | _ :: l, n + 1 => nthj l n

theorem nth_eq {α : Type} : ∀ (l : List α) (n : Nat), nth l n = l[n]?
  | [], _ => rfl
  | _ :: _, 0 => rfl
  | _ :: l, n + 1 => by simp [nth, nth_eq l n]

theorem nthj_eq {α : Type _} : ∀ (l : List (Option α)) (n : Nat), nthj l n = (l[n]?).join
  | [], _ => rfl
  | _ :: _, 0 => by simp [nthj]
  | _ :: l, n + 1 => by simp [nthj, nthj_eq l n]

def setK {α : Type _} : List α → Nat → α → (List α → Prop) → Prop
  | [], _, _, k => k []
  | _ :: l, 0, v, k => k (v :: l)
  | x :: l, n + 1, v, k => setK l n v (fun l' => k (x :: l'))

theorem setK_eq {α : Type _} : ∀ (l : List α) (n : Nat) (v : α) (k : List α → Prop), setK l n v k = k (l.set n v)
  | [], _, _, _ => rfl
  | _ :: _, 0, _, _ => rfl
  | x :: l, n + 1, v, k => by simp [setK, setK_eq l n v]

/-- push at the end, laid out -/
def pushK {α : Type _} : List α → α → (List α → Prop) → Prop
  | [], v, k => k [v]
  | x :: l, v, k => pushK l v (fun l' => k (x :: l'))

theorem pushK_eq {α : Type _} : ∀ (l : List α) (v : α) (k : List α → Prop), pushK l v k = k (l ++ [v])
  | [], _, _ => rfl
  | x :: l, v, k => by simp [pushK, pushK_eq l v]

/-- a term, by name -/
def EqK {α : Type _} (e : α) (k : α → Prop) : Prop := ∀ y, y = e → k y
theorem eqK_eq {α : Type _} {e : α} {k : α → Prop} (h : EqK e k) : k e := h e rfl

def lenN {α : Type _} : List α → Nat
  | [] => 0
  | _ :: l => lenN l + 1
theorem lenN_eq {α : Type _} : ∀ l : List α, lenN l = l.length
  | [] => rfl
  | _ :: l => by simp [lenN, lenN_eq l]

/-- the length, as a numeral where it is small -/
def lenK {α : Type _} (l : List α) (k : Nat → Prop) : Prop :=
  match l with
  | [] => k 0
  | [_] => k 1
  | [_, _] => k 2
  | [_, _, _] => k 3
  | [_, _, _, _] => k 4
  | [_, _, _, _, _] => k 5
  | [_, _, _, _, _, _] => k 6
  | [_, _, _, _, _, _, _] => k 7
  | [_, _, _, _, _, _, _, _] => k 8
  | [_, _, _, _, _, _, _, _, _] => k 9
  | [_, _, _, _, _, _, _, _, _, _] => k 10
  | [_, _, _, _, _, _, _, _, _, _, _] => k 11
  | [_, _, _, _, _, _, _, _, _, _, _, _] => k 12
  | [_, _, _, _, _, _, _, _, _, _, _, _, _] => k 13
  | [_, _, _, _, _, _, _, _, _, _, _, _, _, _] => k 14
  | [_, _, _, _, _, _, _, _, _, _, _, _, _, _, _] => k 15
  | [_, _, _, _, _, _, _, _, _, _, _, _, _, _, _, _] => k 16
  | l => k (lenN l)
theorem lenK_eq {α : Type _} (l : List α) (k : Nat → Prop) : lenK l k = k l.length := by
  unfold lenK
  split <;> simp [lenN_eq]

def inL : Nat → List Nat → Bool
  | _, [] => false
  | n, m :: l => match Nat.beq n m with | true => true | false => inL n l
theorem inL_eq : ∀ (n : Nat) (l : List Nat), inL n l = true ↔ n ∈ l
  | n, [] => by simp [inL]
  | n, m :: l => by
    have ih := inL_eq n l
    unfold inL
    cases h : Nat.beq n m
    · have : n ≠ m := fun e => by subst e; simp at h
      simp [ih, this]
    · have : n = m := Nat.eq_of_beq_eq_true h
      simp [this]

/-- a number, laid out -/
def numK (n : Nat) (k : Nat → Prop) : Prop :=
  match n with
  | 0 => k 0
  | 1 => k 1
  | 2 => k 2
  | 3 => k 3
  | 4 => k 4
  | 5 => k 5
  | 6 => k 6
  | 7 => k 7
  | 8 => k 8
  | 9 => k 9
  | 10 => k 10
  | 11 => k 11
  | 12 => k 12
  | 13 => k 13
  | 14 => k 14
  | 15 => k 15
  | 16 => k 16
  | 17 => k 17
  | 18 => k 18
  | 19 => k 19
  | 20 => k 20
  | 21 => k 21
  | 22 => k 22
  | 23 => k 23
  | 24 => k 24
  | 25 => k 25
  | 26 => k 26
  | 27 => k 27
  | 28 => k 28
  | 29 => k 29
  | 30 => k 30
  | 31 => k 31
  | 32 => k 32
  | n => k n
theorem numK_eq (n : Nat) (k : Nat → Prop) : numK n k = k n := by unfold numK; split <;> rfl

/-! ### values -/
inductive AVal where
  | int (k : IntKind) (n : Int)
  | bool (b : Bool)
  | str (s : ByteArray)
  | loc (i off : Nat)
  | ele (k i off sz : Nat)
  | row (k : Nat)
  | irow (k i : Nat)
  | iele (k i j off sz : Nat)
  | vw (k lo n sz : Nat)
  | bsl (i n : Nat)
  | mpr (i : Nat)
  | mps (es : List ((ByteArray × ByteArray) × Int))
  | agg (cs : List AVal)
  | tup (vs : List AVal)
  | fn (f : FuncId) (first cap : List AVal)
  | raw (v : Value)
  | junk

structure Hdr where
  a : Option Addr
  len : Nat
  cap : Nat
def Hdr.val (h : Hdr) : Value := .slice h.a h.len h.cap
/-- n elements of sz cells, from the element lo on. -/
def Hdr.view (h : Hdr) (lo n sz : Nat) : Hdr := ⟨if h.cap = lo then h.a else h.a.map (·.add (lo * sz)), n, h.cap - lo⟩
def Hdr.ptr (h : Hdr) (c : Nat) : Value := .pointer (some ((h.a.getD ⟨0, 0, none⟩).add c))

/-- Which block a level's box is, which slice a level's row is. -/
structure Asg where
  bx : Nat → Nat
  rw : Nat → Hdr
  inn : Nat → Nat → Hdr

def A0 : Asg := ⟨fun _ => 0, fun _ => ⟨none, 0, 0⟩, fun _ _ => ⟨none, 0, 0⟩⟩

mutual
def AVal.den (A : Asg) : AVal → Value
  | .int k n => .int k n
  | .bool b => .bool b
  | .str s => .string s
  | .loc i off => .pointer (some ⟨A.bx i, off, none⟩)
  | .ele k i off sz => (A.rw k).ptr (i * sz + off)
  | .row k => (A.rw k).val
  | .irow k i => (A.inn k i).val
  | .iele k i j off sz => (A.inn k i).ptr (j * sz + off)
  | .vw k lo n sz => ((A.rw k).view lo n sz).val
  | .bsl i n => .slice (some ⟨A.bx i, 0, none⟩) n n
  | .mpr i => .map (some (A.bx i))
  | .mps _ => undef
  | .agg cs => .agg (dens A cs).toArray
  | .tup vs => .tuple (dens A vs).toArray
  | .fn f fs cs => .func (.func f) (dens A fs).toArray (dens A cs).toArray
  | .raw v => v
  | .junk => undef
def dens (A : Asg) : List AVal → List Value
  | [] => []
  | x :: l => x.den A :: dens A l
end

theorem dens_eq (A : Asg) : ∀ l, dens A l = l.map (AVal.den A)
  | [] => by simp [dens]
  | x :: l => by simp [dens, dens_eq A l]

/-- Which levels it names: below nb, nr, or among eb, er. -/
def lvl (n : Nat) (e : List Nat) (i : Nat) : Bool := match Nat.blt i n with | true => true | false => inL i e
theorem lvl_eq (n : Nat) (e : List Nat) (i : Nat) : lvl n e i = true ↔ i < n ∨ i ∈ e := by
  unfold lvl
  cases h : Nat.blt i n
  · have : ¬ i < n := fun h' => by rw [← Nat.blt_eq, h] at h'; cases h'
    simp [inL_eq, this]
  · have : i < n := by rw [← Nat.blt_eq]; exact h
    simp [this]

mutual
def AVal.sc (nb : Nat) (eb : List Nat) (nr : Nat) (er : List Nat) : AVal → Bool
  | .loc i _ | .bsl i _ | .mpr i => lvl nb eb i
  | .ele k _ _ _ | .row k | .irow k _ | .iele k _ _ _ _ | .vw k _ _ _ => lvl nr er k
  | .agg cs => scs nb eb nr er cs
  | .tup vs => scs nb eb nr er vs
  | .fn _ fs cs => match scs nb eb nr er fs with | true => scs nb eb nr er cs | false => false
  | .int _ _ | .bool _ | .str _ | .raw _ | .mps _ | .junk => true
def scs (nb : Nat) (eb : List Nat) (nr : Nat) (er : List Nat) : List AVal → Bool
  | [] => true
  | x :: l => match x.sc nb eb nr er with | true => scs nb eb nr er l | false => false
end

mutual
theorem AVal.den_congr {A B : Asg} {nb nr : Nat} {eb er : List Nat} (hb : ∀ i, (i < nb ∨ i ∈ eb) → A.bx i = B.bx i)
    (hr : ∀ i, (i < nr ∨ i ∈ er) → A.rw i = B.rw i ∧ A.inn i = B.inn i) : ∀ x : AVal, x.sc nb eb nr er = true → x.den A = x.den B
  | .loc i _, h => by simp only [AVal.sc, lvl_eq] at h; simp [AVal.den, hb i h]
  | .ele k _ _ _, h => by simp only [AVal.sc, lvl_eq] at h; simp [AVal.den, (hr k h).1]
  | .row k, h => by simp only [AVal.sc, lvl_eq] at h; simp [AVal.den, (hr k h).1]
  | .irow k _, h => by simp only [AVal.sc, lvl_eq] at h; simp [AVal.den, (hr k h).2]
  | .iele k _ _ _ _, h => by simp only [AVal.sc, lvl_eq] at h; simp [AVal.den, (hr k h).2]
  | .vw k _ _ _, h => by simp only [AVal.sc, lvl_eq] at h; simp [AVal.den, (hr k h).1]
  | .bsl i _, h => by simp only [AVal.sc, lvl_eq] at h; simp [AVal.den, hb i h]
  | .mpr i, h => by simp only [AVal.sc, lvl_eq] at h; simp [AVal.den, hb i h]
  | .mps _, _ => by simp [AVal.den]
  | .agg cs, h => by simp only [AVal.sc] at h; simp [AVal.den, dens_congr hb hr cs h]
  | .tup vs, h => by simp only [AVal.sc] at h; simp [AVal.den, dens_congr hb hr vs h]
  | .fn _ fs cs, h => by
    simp only [AVal.sc] at h
    split at h
    · rename_i h1; simp [AVal.den, dens_congr hb hr fs h1, dens_congr hb hr cs h]
    · cases h
  | .int _ _, _ => by simp [AVal.den]
  | .bool _, _ => by simp [AVal.den]
  | .str _, _ => by simp [AVal.den]
  | .raw _, _ => by simp [AVal.den]
  | .junk, _ => by simp [AVal.den]
theorem dens_congr {A B : Asg} {nb nr : Nat} {eb er : List Nat} (hb : ∀ i, (i < nb ∨ i ∈ eb) → A.bx i = B.bx i)
    (hr : ∀ i, (i < nr ∨ i ∈ er) → A.rw i = B.rw i ∧ A.inn i = B.inn i) : ∀ l : List AVal, scs nb eb nr er l = true → dens A l = dens B l
  | [], _ => by simp [dens]
  | x :: l, h => by
    simp only [scs] at h
    split at h
    · rename_i h1; simp [dens, AVal.den_congr hb hr x h1, dens_congr hb hr l h]
    · cases h
end

/-- A value of one cell that names no level. -/
def AVal.flat : AVal → Bool
  | .int _ _ | .bool _ | .str _ => true
  | .raw v => v.oneCell'
  | _ => false
theorem AVal.flat_den {x : AVal} (h : x.flat = true) (A B : Asg) : x.den A = x.den B := by
  cases x <;> simp_all [AVal.flat, AVal.den]
theorem AVal.flat_sc {x : AVal} (h : x.flat = true) (nb eb nr er) : x.sc nb eb nr er = true := by
  cases x <;> simp_all [AVal.flat, AVal.sc]
theorem dens_flat {l : List AVal} (h : ∀ c ∈ l, c.flat = true) (A B : Asg) : dens A l = dens B l := by
  rw [dens_eq, dens_eq]
  exact List.map_congr_left fun c hc => AVal.flat_den (h c hc) A B
theorem scs_flat {l : List AVal} (h : ∀ c ∈ l, c.flat = true) (nb eb nr er) : scs nb eb nr er l = true := by
  induction l with
  | nil => simp [scs]
  | cons x l ih =>
    simp only [scs, AVal.flat_sc (h x (by simp)) nb eb nr er]
    exact ih fun c hc => h c (by simp [hc])

/-! ### types of elements, rows -/
/-- Codes of the types that lie in slices: whole numbers, bools, strings, functions, headers of slices, pairs of such. -/
inductive TyC where
  | int (k : IntKind)
  | bool
  | str
  | fn
  | sl
  | pair (x y : TyC)
  | lst (c : TyC) (e : TypeId)

@[reducible] def TyC.α : TyC → Type
  | .int _ => Int
  | .bool => Bool
  | .str => ByteArray
  | .fn => FuncId × List Value × List Value
  | .sl => Hdr
  | .pair x y => x.α × y.α
  | .lst c _ => List c.α

def TyC.sz : TyC → Nat
  | .pair x y => x.sz + y.sz
  | _ => 1

def TyC.enc : (c : TyC) → c.α → List AVal
  | .int k, n => [.int k n]
  | .bool, b => [.bool b]
  | .str, s => [.str s]
  | .fn, f => [.raw (.func (.func f.1) f.2.1.toArray f.2.2.toArray)]
  | .sl, h => [.raw h.val]
  | .pair x y, p => x.enc p.1 ++ y.enc p.2
  | .lst _ _, _ => [.raw (.slice none 0 0)]

/-- Does it hold slices whose elements are told? -/
def TyC.isL : TyC → Bool
  | .lst _ _ => true
  | _ => false

def sameK : IntKind → IntKind → Bool
  | .i64, .i64 | .u64, .u64 | .u8, .u8 | .i32, .i32 | .i8, .i8 | .i16, .i16 | .u16, .u16 | .u32, .u32 => true
  | _, _ => false
theorem sameK_eq {a b : IntKind} (h : sameK a b = true) : a = b := by cases a <;> cases b <;> first | rfl | (simp [sameK] at h)

def TyC.decP : (c : TyC) → List AVal → Option (c.α × List AVal)
  | .int k, l => match l with
    | .int k' n :: l => (match sameK k k' with | true => some (n, l) | false => none)
    | _ => none
  | .bool, l => match l with | .bool b :: l => some (b, l) | _ => none
  | .str, l => match l with | .str s :: l => some (s, l) | _ => none
  | .pair x y, l => match x.decP l with
    | some (a, l') => match y.decP l' with
      | some (b, l'') => some ((a, b), l'')
      | none => none
    | none => none
  | .fn, _ => none
  | .sl, _ => none
  | .lst _ _, _ => none
def TyC.dec (c : TyC) (l : List AVal) : Option c.α := match c.decP l with | some (x, []) => some x | _ => none

def TyC.dflt : (c : TyC) → c.α
  | .int _ => (0 : Int)
  | .bool => false
  | .str => ByteArray.empty
  | .fn => (0, [], [])
  | .sl => (⟨none, 0, 0⟩ : Hdr)
  | .pair x y => (x.dflt, y.dflt)
  | .lst _ _ => []

def TyC.same : TyC → TyC → Bool
  | .int a, .int b => sameK a b
  | .bool, .bool | .str, .str | .fn, .fn | .sl, .sl => true
  | .pair a b, .pair c d => match a.same c with | true => b.same d | false => false
  | .lst a e, .lst b f => match a.same b with | true => Nat.beq e f | false => false
  | _, _ => false
theorem TyC.same_eq : ∀ {a b : TyC}, a.same b = true → a = b := by
  intro a
  induction a with
  | int k => intro b h; cases b <;> simp only [TyC.same] at h <;> first | (rw [sameK_eq h]) | cases h
  | bool => intro b h; cases b <;> simp only [TyC.same] at h <;> first | rfl | cases h
  | str => intro b h; cases b <;> simp only [TyC.same] at h <;> first | rfl | cases h
  | fn => intro b h; cases b <;> simp only [TyC.same] at h <;> first | rfl | cases h
  | sl => intro b h; cases b <;> simp only [TyC.same] at h <;> first | rfl | cases h
  | pair x y ihx ihy =>
    intro b h
    cases b <;> simp only [TyC.same] at h
    case pair c d =>
      split at h
      · rename_i h1; rw [ihx h1, ihy h]
      · cases h
    all_goals cases h
  | lst x e ih =>
    intro b h
    cases b <;> simp only [TyC.same] at h
    case lst c f =>
      split at h
      · rename_i h1; rw [ih h1, Nat.eq_of_beq_eq_true h]
      · cases h
    all_goals cases h

theorem TyC.enc_len : ∀ (c : TyC) (x : c.α), (c.enc x).length = c.sz
  | .int _, _ | .bool, _ | .str, _ | .fn, _ | .sl, _ | .lst _ _, _ => rfl
  | .pair a b, p => by simp [TyC.enc, TyC.sz, TyC.enc_len a, TyC.enc_len b]
theorem TyC.pos : ∀ c : TyC, 0 < c.sz
  | .int _ | .bool | .str | .fn | .sl | .lst _ _ => by simp [TyC.sz]
  | .pair a b => by have := TyC.pos a; simp [TyC.sz]; omega
theorem TyC.flat : ∀ (c : TyC) (x : c.α), ∀ v ∈ c.enc x, v.flat = true
  | .int _, _, v, h | .bool, _, v, h | .str, _, v, h | .fn, _, v, h | .sl, _, v, h | .lst _ _, _, v, h => by simp [TyC.enc] at h; subst h; simp [AVal.flat, Hdr.val, Value.oneCell']
  | .pair a b, p, v, h => by
    simp only [TyC.enc, List.mem_append] at h
    rcases h with h | h
    · exact TyC.flat a _ v h
    · exact TyC.flat b _ v h
theorem TyC.decP_enc : ∀ (c : TyC) (l r : List AVal) (x : c.α), c.decP l = some (x, r) → l = c.enc x ++ r
  | .int k, l, r, x, h => by
    simp only [TyC.decP] at h
    split at h
    · split at h
      · rename_i hk
        simp only [Option.some.injEq, Prod.mk.injEq] at h
        obtain ⟨rfl, rfl⟩ := h
        rw [sameK_eq hk]; rfl
      · cases h
    · cases h
  | .bool, l, r, x, h => by
    simp only [TyC.decP] at h
    split at h
    · simp only [Option.some.injEq, Prod.mk.injEq] at h
      obtain ⟨rfl, rfl⟩ := h; rfl
    · cases h
  | .str, l, r, x, h => by
    simp only [TyC.decP] at h
    split at h
    · simp only [Option.some.injEq, Prod.mk.injEq] at h
      obtain ⟨rfl, rfl⟩ := h; rfl
    · cases h
  | .fn, l, r, x, h => by simp [TyC.decP] at h
  | .sl, l, r, x, h => by simp [TyC.decP] at h
  | .lst _ _, l, r, x, h => by simp [TyC.decP] at h
  | .pair a b, l, r, x, h => by
    simp only [TyC.decP] at h
    split at h
    · rename_i a' l' h1
      split at h
      · rename_i b' l'' h2
        simp only [Option.some.injEq, Prod.mk.injEq] at h
        obtain ⟨rfl, rfl⟩ := h
        rw [TyC.decP_enc a _ _ _ h1, TyC.decP_enc b _ _ _ h2]
        simp [TyC.enc]
      · cases h
    · cases h
theorem TyC.dec_enc {c : TyC} {l : List AVal} {x : c.α} (h : c.dec l = some x) : c.enc x = l := by
  unfold TyC.dec at h
  split at h
  · rename_i x' hx
    obtain rfl := Option.some.inj h
    have := TyC.decP_enc c _ _ _ hx
    simpa using this.symm
  · cases h

def castK {x y : TyC} (h : x = y) (l : List x.α) (k : List y.α → Prop) : Prop := match y, h, k with | _, rfl, k => k l

structure Row where
  c : TyC
  e : TypeId
  own : Bool
  xs : List c.α

def Row.cells (r : Row) : List Value := r.xs.flatMap fun x => dens A0 (r.c.enc x)

theorem flatMap_length {α β : Type} (f : α → List β) (n : Nat) (hf : ∀ x, (f x).length = n) : ∀ l : List α, (l.flatMap f).length = l.length * n
  | [] => by simp
  | x :: l => by simp [List.flatMap_cons, hf, flatMap_length f n hf l, Nat.add_mul, Nat.add_comm]

theorem flatMap_get {α β : Type} (f : α → List β) (n : Nat) (hf : ∀ x, (f x).length = n) :
    ∀ (l : List α) (i j : Nat) (x : α) (y : β), l[i]? = some x → (f x)[j]? = some y → (l.flatMap f)[i * n + j]? = some y
  | [], i, j, x, y, h, _ => by simp at h
  | z :: l, 0, j, x, y, h, h' => by
    simp at h
    subst h
    have hj : j < (f z).length := (List.getElem?_eq_some_iff.1 h').1
    simp [List.flatMap_cons, List.getElem?_append_left hj, h']
  | z :: l, i + 1, j, x, y, h, h' => by
    have ih := flatMap_get f n hf l i j x y (by simpa using h) h'
    rw [List.flatMap_cons, List.getElem?_append_right (by rw [hf]; rw [Nat.add_mul]; omega), hf]
    rw [show (i + 1) * n + j - n = i * n + j by rw [Nat.add_mul]; omega]
    exact ih

theorem Row.cells_length (r : Row) : r.cells.length = r.xs.length * r.c.sz :=
  flatMap_length _ _ (fun x => by rw [dens_eq, List.length_map, r.c.enc_len]) _

theorem Row.cells_get (r : Row) {i j : Nat} {x : r.c.α} {c : AVal} (hx : r.xs[i]? = some x) (hc : (r.c.enc x)[j]? = some c) :
    r.cells[i * r.c.sz + j]? = some (c.den A0) :=
  flatMap_get _ _ (fun x => by rw [dens_eq, List.length_map, r.c.enc_len]) _ _ _ _ _ hx (by rw [dens_eq, List.getElem?_map, hc]; rfl)

/-- The slice h reads as the row r in the world w. -/
structure RowAt (w : World) (h : Hdr) (r : Row) : Prop where
  len : h.len = r.xs.length
  cap : h.len ≤ h.cap
  max : h.cap ≤ maxLen
  cell : ∀ i x, r.xs[i]? = some x → ∃ a, h.a = some a ∧ ∀ j c, (r.c.enc x)[j]? = some c → w.cell? (a.add (i * r.c.sz + j)) = some (c.den A0)

/-- It is the walk's own: nobody else's block, which begins with the row's cells. -/
def RowOwn (w : World) (h : Hdr) (r : Row) : Prop := w.ownsRow 0 r.e r.c.sz h.val r.xs.length r.cells

theorem RowOwn.at {w : World} {h : Hdr} {r : Row} (ho : RowOwn w h r) : RowAt w h r := by
  have h2 := ho.2
  rcases h2 with ⟨hv, hn⟩ | ⟨g, cap, cur, hv, _, hg, hle, hm, hsz, htk⟩
  · simp only [Hdr.val, Value.slice.injEq] at hv
    obtain ⟨h1, h2, h3⟩ := hv
    have hx : r.xs = [] := List.eq_nil_of_length_eq_zero hn
    refine ⟨by rw [h2, hn], by omega, by omega, fun i x hi => ?_⟩
    rw [hx] at hi; simp at hi
  · have hv' := hv
    simp only [Hdr.val, Value.slice.injEq] at hv'
    obtain ⟨h1, h2, h3⟩ := hv'
    refine ⟨h2, by omega, by omega, fun i x hi => ⟨_, h1, fun j c hc => ?_⟩⟩
    exact World.ownsRow.cells ho (by simp [Hdr.val, h1, Value.ownBlock]) _ _ (r.cells_get hi hc)

/-- The block that a row needs. -/
def Foot (r : Row) (h : Hdr) (b : Nat) : Prop := (r.own = true ∨ r.xs ≠ []) ∧ ∃ a, h.a = some a ∧ a.block = b

/-- Is it what a map holds? -/
def mapOf : List AVal → Option (List ((ByteArray × ByteArray) × Int))
  | [.mps es] => some es
  | _ => none
/-- the entries of a map that only grew -/
def entsOf : Nat → List ((ByteArray × ByteArray) × Int) → List MapEntry
  | _, [] => []
  | n, e :: l => ⟨.agg #[.string e.1.1, .string e.1.2], .int .i64 e.2, n⟩ :: entsOf (n + 1) l
def objOf (cs : List AVal) (vs : List Value) (t : TypeId) : Obj := match mapOf cs with
  | none => .cells vs.toArray t (0, 0)
  | some es => .map (entsOf 0 es).toArray es.length
theorem objOf_cells {cs : List AVal} (h : mapOf cs = none) (vs : List Value) (t : TypeId) : objOf cs vs t = .cells vs.toArray t (0, 0) := by unfold objOf; rw [h]
theorem mapOf_eq {cs : List AVal} {es : List ((ByteArray × ByteArray) × Int)} (h : mapOf cs = some es) : cs = [.mps es] := by
  unfold mapOf at h
  split at h
  · cases h; rfl
  · cases h
theorem mapOf_flat {cs : List AVal} (h : ∀ c ∈ cs, c.flat = true) : mapOf cs = none := by
  cases hm : mapOf cs with
  | none => rfl
  | some es =>
    have := mapOf_eq hm
    subst this
    have := h _ (List.mem_singleton.2 rfl)
    cases this
def BoxAt (A : Asg) (w : World) (b : Nat) (cs : List AVal) : Prop := ∃ t, w.heap[b]? = some (objOf cs (dens A cs) t)
theorem BoxAt.cells {A : Asg} {w : World} {b : Nat} {cs : List AVal} (h : BoxAt A w b cs) (hm : mapOf cs = none) : ∃ t, w.heap[b]? = some (.cells (dens A cs).toArray t (0, 0)) := by
  obtain ⟨t, ht⟩ := h
  exact ⟨t, by rw [ht, objOf_cells hm]⟩

/-- (Where the program sorts: draws go on.) -/
def Dr (w w' : World) : Prop := True
theorem Dr.of {w w' : World} (h : w.drawn ≤ w'.drawn) : Dr w w' := by first | exact h | exact True.intro
theorem Dr.refl (w : World) : Dr w w := .of (Nat.le_refl _)
theorem Dr.trans {a b c : World} (h : Dr a b) (k : Dr b c) : Dr a c := by first | exact Nat.le_trans h k | exact True.intro

/-- What is kept: the blocks of K, and the streams. -/
structure Kept (K : Nat → Prop) (w w' : World) : Prop where
  os : w'.os = w.os
  tape : w'.tape = w.tape
  output : w'.output = w.output
  size : w.heap.size ≤ w'.heap.size
  block : ∀ k, K k → w'.heap[k]? = w.heap[k]?
  drawn : Dr w w'

/-- Old blocks stand; draws go on. -/
structure Blw (B : Nat) (w w' : World) : Prop extends Below B w w' where
  drawn : Dr w w'
theorem Blw.refl (B : Nat) (w : World) : Blw B w w := ⟨Below.refl B w, Dr.refl _⟩
theorem Blw.alloc {B : Nat} {a b : World} (h : Blw B a b) (hle : B ≤ b.heap.size) (o : Obj) : Blw B a (b.alloc o) := ⟨h.toBelow.alloc hle o, h.drawn⟩
theorem Blw.drew {B : Nat} {a b : World} (h : Blw B a b) : Blw B a b.drew := ⟨h.toBelow.drew, h.drawn.trans (.of (Nat.le_succ _))⟩

theorem Kept.refl (K : Nat → Prop) (w : World) : Kept K w w := ⟨rfl, rfl, rfl, Nat.le_refl _, fun _ _ => rfl, Dr.refl _⟩
theorem Kept.trans {K : Nat → Prop} {a b c : World} (h : Kept K a b) (k : Kept K b c) : Kept K a c :=
  ⟨k.os.trans h.os, k.tape.trans h.tape, k.output.trans h.output, Nat.le_trans h.size k.size, fun i hi => (k.block i hi).trans (h.block i hi), h.drawn.trans k.drawn⟩
theorem Kept.of_below {K : Nat → Prop} {w w' : World} {B : Nat} (h : Blw B w w') (hK : ∀ k, K k → k < B) : Kept K w w' :=
  ⟨h.os, h.tape, h.output, h.size, fun k hk => h.block k (hK k hk), h.drawn⟩
theorem Kept.below {w w' : World} {B : Nat} (h : Kept (· < B) w w') : Blw B w w' := ⟨⟨h.os, h.tape, h.output, h.size, h.block⟩, h.drawn⟩

theorem lt_of_heap {w : World} {b : Nat} {o : Obj} (h : w.heap[b]? = some o) : b < w.heap.size := (Array.getElem?_eq_some_iff.1 h).1
theorem lt_of_cell {w : World} {a : Addr} {v : Value} (h : w.cell? a = some v) : a.block < w.heap.size := by
  unfold World.cell? at h
  split at h
  · rename_i he; exact lt_of_heap he
  · cases h

theorem add_block (a : Addr) (n : Nat) : (a.add n).block = a.block := by unfold Addr.add; split <;> rfl

theorem RowAt.foot_lt {w : World} {h : Hdr} {r : Row} (hr : RowAt w h r) (hx : r.xs ≠ []) {b : Nat} (hb : ∃ a, h.a = some a ∧ a.block = b) : b < w.heap.size := by
  obtain ⟨a, ha, rfl⟩ := hb
  obtain ⟨x, l, hl⟩ := List.exists_cons_of_ne_nil hx
  obtain ⟨a', ha', hc⟩ := hr.cell 0 x (by rw [hl]; rfl)
  rw [ha] at ha'
  obtain rfl := Option.some.inj ha'
  have h0 : 0 < (r.c.enc x).length := by rw [r.c.enc_len]; exact r.c.pos
  have := lt_of_cell (hc 0 _ (List.getElem?_eq_getElem h0))
  rwa [add_block] at this

theorem RowAt.keep {w w' : World} {h : Hdr} {r : Row} (hr : RowAt w h r) (hk : ∀ b, Foot r h b → w'.heap[b]? = w.heap[b]?) : RowAt w' h r := by
  refine ⟨hr.len, hr.cap, hr.max, fun i x hi => ?_⟩
  obtain ⟨a, ha, hc⟩ := hr.cell i x hi
  refine ⟨a, ha, fun j c hj => ?_⟩
  have hne : r.xs ≠ [] := fun e => by rw [e] at hi; simp at hi
  rw [World.cell?_of_block (w := w) (by rw [add_block]; exact hk _ ⟨.inr hne, a, ha, rfl⟩)]
  exact hc j c hj

theorem RowOwn.keep {w w' : World} {h : Hdr} {r : Row} (hr : RowOwn w h r) (hk : ∀ a, h.a = some a → w'.heap[a.block]? = w.heap[a.block]?) : RowOwn w' h r := by
  refine ⟨hr.1, ?_⟩
  rcases hr.2 with hn | ⟨g, cap, cur, hv, h0, hg, rest⟩
  · exact .inl hn
  · have hv' := hv
    simp only [Hdr.val, Value.slice.injEq] at hv'
    refine .inr ⟨g, cap, cur, hv, h0, ?_, rest⟩
    have := hk _ hv'.1
    exact this.trans hg

theorem RowOwn.foot_lt {w : World} {h : Hdr} {r : Row} (hr : RowOwn w h r) {b : Nat} (hb : ∃ a, h.a = some a ∧ a.block = b) : b < w.heap.size := by
  obtain ⟨a, ha, rfl⟩ := hb
  exact (World.ownsRow.lt hr _ (by simp [Hdr.val, ha, Value.ownBlock])).2

/-! ### rows with rows in them -/
/-- The slices of which a row is made: itself, or itself and those in it. -/
def Row.parts (h : Hdr) (ih : Nat → Hdr) : Row → List (Hdr × Row)
  | ⟨.lst c e', e, own, yss⟩ => (h, ⟨.sl, e, own, (List.range (@List.length (List c.α) yss)).map ih⟩) :: (List.range (@List.length (List c.α) yss)).map fun i => (ih i, ⟨c, e', own, @List.getD (List c.α) yss i []⟩)
  | r => [(h, r)]

structure RowsAt (w : World) (h : Hdr) (ih : Nat → Hdr) (r : Row) : Prop where
  all : ∀ p ∈ r.parts h ih, RowAt w p.1 p.2

structure RowsOwn (w : World) (h : Hdr) (ih : Nat → Hdr) (r : Row) : Prop where
  all : ∀ p ∈ r.parts h ih, RowOwn w p.1 p.2
  dis : ∀ (i j : Nat) (p q : Hdr × Row), (r.parts h ih)[i]? = some p → (r.parts h ih)[j]? = some q → i ≠ j → ∀ a b, p.1.a = some a → q.1.a = some b → a.block ≠ b.block

def Feet (r : Row) (h : Hdr) (ih : Nat → Hdr) (b : Nat) : Prop := ∃ p ∈ r.parts h ih, Foot p.2 p.1 b

theorem parts_flat {h : Hdr} {ih : Nat → Hdr} {c : TyC} {e : TypeId} {own : Bool} {xs : List c.α} (hc : c.isL = false) : (⟨c, e, own, xs⟩ : Row).parts h ih = [(h, ⟨c, e, own, xs⟩)] := by
  cases c <;> first | rfl | cases hc

theorem parts_own {h : Hdr} {ih : Nat → Hdr} {r : Row} {p : Hdr × Row} (hp : p ∈ r.parts h ih) : p.2.own = r.own := by
  obtain ⟨c, e, own, xs⟩ := r
  by_cases hc : c.isL = true
  · cases c <;> simp only [TyC.isL] at hc <;> first | cases hc | skip
    simp only [Row.parts, List.mem_cons, List.mem_map] at hp
    rcases hp with rfl | ⟨i, _, rfl⟩ <;> rfl
  · rw [parts_flat (by simpa using hc)] at hp
    simp only [List.mem_singleton] at hp
    subst hp; rfl

/-- The slice itself. -/
theorem parts_head (h : Hdr) (ih : Nat → Hdr) (r : Row) : ∃ r0 : Row, (r.parts h ih)[0]? = some (h, r0) ∧ r0.xs.length = r.xs.length ∧ r0.own = r.own ∧ r0.c.sz = r.c.sz ∧ r0.e = r.e := by
  obtain ⟨c, e, own, xs⟩ := r
  by_cases hc : c.isL = true
  · cases c <;> simp only [TyC.isL] at hc <;> first | cases hc | skip
    refine ⟨_, rfl, ?_, rfl, rfl, rfl⟩
    show (List.map ih (List.range _)).length = _
    rw [List.length_map, List.length_range]
    try rfl
  · rw [parts_flat (by simpa using hc)]
    exact ⟨_, rfl, rfl, rfl, rfl, rfl⟩

theorem RowsAt.head {w : World} {h : Hdr} {ih : Nat → Hdr} {r : Row} (hr : RowsAt w h ih r) : ∃ r0 : Row, RowAt w h r0 ∧ r0.xs.length = r.xs.length ∧ r0.own = r.own ∧ r0.c.sz = r.c.sz ∧ (h, r0) ∈ r.parts h ih := by
  obtain ⟨r0, h1, h2, h3, h4, _⟩ := parts_head h ih r
  have hm := List.mem_of_getElem? h1
  exact ⟨r0, hr.all _ hm, h2, h3, h4, hm⟩
theorem RowsAt.len {w : World} {h : Hdr} {ih : Nat → Hdr} {r : Row} (hr : RowsAt w h ih r) : h.len = r.xs.length := by
  obtain ⟨r0, h1, h2, _⟩ := hr.head; rw [h1.len, h2]
theorem RowsAt.cap {w : World} {h : Hdr} {ih : Nat → Hdr} {r : Row} (hr : RowsAt w h ih r) : h.len ≤ h.cap := by
  obtain ⟨r0, h1, _⟩ := hr.head; exact h1.cap
theorem RowsAt.max {w : World} {h : Hdr} {ih : Nat → Hdr} {r : Row} (hr : RowsAt w h ih r) : h.cap ≤ maxLen := by
  obtain ⟨r0, h1, _⟩ := hr.head; exact h1.max
theorem RowAt.there {w : World} {h : Hdr} {r : Row} (hr : RowAt w h r) {i : Nat} (hi : i < r.xs.length) : ∃ a, h.a = some a := by
  obtain ⟨a, ha, _⟩ := hr.cell i _ (List.getElem?_eq_getElem hi)
  exact ⟨a, ha⟩
theorem RowsAt.there {w : World} {h : Hdr} {ih : Nat → Hdr} {r : Row} (hr : RowsAt w h ih r) {i : Nat} (hi : i < r.xs.length) : ∃ a, h.a = some a := by
  obtain ⟨r0, h1, h2, _⟩ := hr.head
  exact h1.there (i := i) (by omega)
theorem RowsAt.flat {w : World} {h : Hdr} {ih : Nat → Hdr} {c : TyC} {e : TypeId} {own : Bool} {xs : List c.α} (hr : RowsAt w h ih ⟨c, e, own, xs⟩) (hc : c.isL = false) : RowAt w h ⟨c, e, own, xs⟩ :=
  hr.all (h, ⟨c, e, own, xs⟩) (by rw [parts_flat hc]; simp)
theorem RowAt.rows {w : World} {h : Hdr} {ih : Nat → Hdr} {c : TyC} {e : TypeId} {own : Bool} {xs : List c.α} (hr : RowAt w h ⟨c, e, own, xs⟩) (hc : c.isL = false) : RowsAt w h ih ⟨c, e, own, xs⟩ :=
  ⟨fun p hp => by rw [parts_flat hc] at hp; simp only [List.mem_singleton] at hp; subst hp; exact hr⟩
theorem RowsOwn.flat {w : World} {h : Hdr} {ih : Nat → Hdr} {c : TyC} {e : TypeId} {own : Bool} {xs : List c.α} (hr : RowsOwn w h ih ⟨c, e, own, xs⟩) (hc : c.isL = false) : RowOwn w h ⟨c, e, own, xs⟩ :=
  hr.all (h, ⟨c, e, own, xs⟩) (by rw [parts_flat hc]; simp)
theorem RowOwn.rows {w : World} {h : Hdr} {ih : Nat → Hdr} {c : TyC} {e : TypeId} {own : Bool} {xs : List c.α} (hr : RowOwn w h ⟨c, e, own, xs⟩) (hc : c.isL = false) : RowsOwn w h ih ⟨c, e, own, xs⟩ :=
  ⟨fun p hp => by rw [parts_flat hc] at hp; simp only [List.mem_singleton] at hp; subst hp; exact hr, fun i j p q hi hj hij => by
    rw [parts_flat hc] at hi hj
    cases i with
    | zero => cases j with
      | zero => exact absurd rfl hij
      | succ j => simp at hj
    | succ i => simp at hi⟩
theorem Feet.flat {r : Row} {h : Hdr} {ih : Nat → Hdr} {b : Nat} (hf : Feet r h ih b) (hc : r.c.isL = false) : Foot r h b := by
  obtain ⟨c, e, own, xs⟩ := r
  obtain ⟨p, hp, hf⟩ := hf
  rw [parts_flat hc] at hp
  simp only [List.mem_singleton] at hp
  subst hp; exact hf
theorem Foot.feet {r : Row} {h : Hdr} {ih : Nat → Hdr} {b : Nat} (hf : Foot r h b) (hc : r.c.isL = false) : Feet r h ih b := by
  obtain ⟨c, e, own, xs⟩ := r
  exact ⟨(h, ⟨c, e, own, xs⟩), by rw [parts_flat hc]; simp, hf⟩
/-- The slice's own block is among its blocks, if it is the walk's own. -/
theorem Feet.head {r : Row} {h : Hdr} {ih : Nat → Hdr} (ho : r.own = true) {a : Addr} (ha : h.a = some a) : Feet r h ih a.block := by
  obtain ⟨r0, h1, _, h3, _⟩ := parts_head h ih r
  exact ⟨_, List.mem_of_getElem? h1, .inl (by simpa [ho] using h3), a, ha, rfl⟩
theorem Feet.part {r : Row} {h : Hdr} {ih : Nat → Hdr} (ho : r.own = true) {p : Hdr × Row} (hp : p ∈ r.parts h ih) {a : Addr} (ha : p.1.a = some a) : Feet r h ih a.block :=
  ⟨p, hp, .inl (by rw [parts_own hp, ho]), a, ha, rfl⟩

theorem RowsOwn.at {w : World} {h : Hdr} {ih : Nat → Hdr} {r : Row} (hr : RowsOwn w h ih r) : RowsAt w h ih r := ⟨fun p hp => (hr.all p hp).at⟩
theorem RowsAt.keep {w w' : World} {h : Hdr} {ih : Nat → Hdr} {r : Row} (hr : RowsAt w h ih r) (hk : ∀ b, Feet r h ih b → w'.heap[b]? = w.heap[b]?) : RowsAt w' h ih r :=
  ⟨fun p hp => (hr.all p hp).keep fun b hb => hk b ⟨p, hp, hb⟩⟩
theorem RowsOwn.keep {w w' : World} {h : Hdr} {ih : Nat → Hdr} {r : Row} (hr : RowsOwn w h ih r) (ho : r.own = true) (hk : ∀ b, Feet r h ih b → w'.heap[b]? = w.heap[b]?) : RowsOwn w' h ih r :=
  ⟨fun p hp => (hr.all p hp).keep fun a ha => hk _ (Feet.part ho hp ha), hr.dis⟩
theorem RowsAt.foot_lt {w : World} {h : Hdr} {ih : Nat → Hdr} {r : Row} (hr : RowsAt w h ih r) (ho : r.own = false) {b : Nat} (hb : Feet r h ih b) : b < w.heap.size := by
  obtain ⟨p, hp, h1, h2⟩ := hb
  rcases h1 with h1 | h1
  · rw [parts_own hp, ho] at h1; cases h1
  · exact (hr.all p hp).foot_lt h1 h2
theorem RowsOwn.foot_lt {w : World} {h : Hdr} {ih : Nat → Hdr} {r : Row} (hr : RowsOwn w h ih r) {b : Nat} (hb : Feet r h ih b) : b < w.heap.size := by
  obtain ⟨p, hp, _, h2⟩ := hb
  exact RowOwn.foot_lt (hr.all p hp) h2

/-! ### rows of rows -/
section
variable {c : TyC} {e' e : TypeId} {own : Bool} {yss : List (List c.α)} {h : Hdr} {ih : Nat → Hdr} {w : World}
theorem parts_lst : (⟨.lst c e', e, own, yss⟩ : Row).parts h ih = (h, ⟨.sl, e, own, (List.range yss.length).map ih⟩) :: (List.range yss.length).map fun i => (ih i, ⟨c, e', own, yss.getD i []⟩) := rfl
theorem mem_inner {i : Nat} (hi : i < yss.length) : (ih i, (⟨c, e', own, yss.getD i []⟩ : Row)) ∈ (⟨.lst c e', e, own, yss⟩ : Row).parts h ih := by
  rw [parts_lst]
  exact List.mem_cons_of_mem _ (List.mem_map.2 ⟨i, List.mem_range.2 hi, rfl⟩)
theorem mem_outer : (h, (⟨.sl, e, own, (List.range yss.length).map ih⟩ : Row)) ∈ (⟨.lst c e', e, own, yss⟩ : Row).parts h ih := by
  rw [parts_lst]; simp
theorem RowsAt.inner (hr : RowsAt w h ih ⟨.lst c e', e, own, yss⟩) {i : Nat} (hi : i < yss.length) : RowAt w (ih i) ⟨c, e', own, yss.getD i []⟩ := hr.all _ (mem_inner hi)
theorem RowsAt.outer (hr : RowsAt w h ih ⟨.lst c e', e, own, yss⟩) : RowAt w h ⟨.sl, e, own, (List.range yss.length).map ih⟩ := hr.all _ mem_outer
theorem RowsAt.hdr (hr : RowsAt w h ih ⟨.lst c e', e, own, yss⟩) {i : Nat} (hi : i < yss.length) : ∃ a, h.a = some a ∧ w.cell? (a.add i) = some (ih i).val := by
  obtain ⟨a, ha, hc⟩ := hr.outer.cell i (ih i) (by show (List.map ih (List.range yss.length))[i]? = _; rw [List.getElem?_map, List.getElem?_range hi]; rfl)
  refine ⟨a, ha, ?_⟩
  have := hc 0 (.raw (ih i).val) rfl
  simpa [TyC.sz, AVal.den] using this
theorem RowsOwn.inner (hr : RowsOwn w h ih ⟨.lst c e', e, own, yss⟩) {i : Nat} (hi : i < yss.length) : RowOwn w (ih i) ⟨c, e', own, yss.getD i []⟩ := hr.all _ (mem_inner hi)
theorem RowsOwn.outer (hr : RowsOwn w h ih ⟨.lst c e', e, own, yss⟩) : RowOwn w h ⟨.sl, e, own, (List.range yss.length).map ih⟩ := hr.all _ mem_outer
end

end Go.Proofs.YtmbfflckgmdncaaDoor.Fw

/- What memory tells of a symbolic state: boxes (variables of the walk's own), rows (slices), and what is kept of the world at the start. -/
namespace Go.Proofs.YtmbfflckgmdncaaDoor.Fw
open Go Go.RowKit
set_option linter.unusedVariables false
set_option linter.unusedSimpArgs false

/-- What a walk starts from: the program, the world at the start, the blocks that are to stay, and the first n0 rows' slices. -/
structure Env where
  P : Program
  w0 : World
  K : Nat → Prop
  r0 : Nat → Hdr
  n0 : Nat
  b0 : Nat
  x0 : Nat → Nat
  tn : Nat → Bool

/-- Is the box at a level the walk's own, or one of its caller's that it turns? -/
def Env.owB (E : Env) (i : Nat) : Bool := match Nat.ble E.b0 i with | true => true | false => E.tn i
def Env.ow (E : Env) (i : Nat) : Prop := E.owB i = true
theorem Env.ow_b0 {E : Env} {i : Nat} (h : E.ow i) (ht : E.tn i = false) : E.b0 ≤ i := by
  unfold Env.ow Env.owB at h
  cases hb : Nat.ble E.b0 i with
  | true => exact Nat.le_of_ble_eq_true hb
  | false => rw [hb] at h; simp only at h; rw [ht] at h; cases h
theorem Env.ow_b1 {E : Env} {i : Nat} (h : E.ow i) (ht : ∀ i, i < E.b0 → E.tn i = false) : E.b0 ≤ i := by
  rcases Nat.lt_or_ge i E.b0 with hl | hl
  · exact Env.ow_b0 h (ht i hl)
  · exact hl
theorem Env.ow_of {E : Env} {i : Nat} (h : E.b0 ≤ i) : E.ow i := by unfold Env.ow Env.owB; rw [Nat.ble_eq_true_of_le h]

structure Mem (E : Env) (A : Asg) (hp : Nat → Option (List AVal)) (rw : Nat → Option Row) (w : World) : Prop where
  kept : Kept E.K E.w0 w
  box : ∀ i cs, hp i = some cs → BoxAt A w (A.bx i) cs ∧ (i < E.b0 → A.bx i = E.x0 i ∧ (E.tn i = false → E.K (A.bx i))) ∧ (E.ow i → ¬ E.K (A.bx i))
  row : ∀ k r, rw k = some r → RowsAt w (A.rw k) (A.inn k) r ∧ (r.own = true → RowsOwn w (A.rw k) (A.inn k) r ∧ ∀ b, Feet r (A.rw k) (A.inn k) b → ¬ E.K b)
  bb : ∀ i j ci cj, E.ow i → hp i = some ci → hp j = some cj → i ≠ j → A.bx i ≠ A.bx j
  br : ∀ i ci k r b, E.ow i → hp i = some ci → rw k = some r → Feet r (A.rw k) (A.inn k) b → A.bx i ≠ b
  rr : ∀ k k' r r' b, rw k = some r → rw k' = some r' → k ≠ k' → r.own = true → Feet r (A.rw k) (A.inn k) b → ¬ Feet r' (A.rw k') (A.inn k') b
  args : ∀ k, k < E.n0 → A.rw k = E.r0 k

section
variable {E : Env} {A : Asg} {hp : Nat → Option (List AVal)} {rw_ : Nat → Option Row} {w w' : World}

theorem Mem.kOr (h : Mem E A hp rw_ w) {i : Nat} {cs : List AVal} (hi : hp i = some cs) : E.K (A.bx i) ∨ E.ow i := by
  rcases Nat.lt_or_ge i E.b0 with hlt | hge
  · cases ht : E.tn i with
    | false => exact .inl (((h.box i cs hi).2.1 hlt).2 ht)
    | true =>
      refine .inr ?_
      unfold Env.ow Env.owB
      cases Nat.ble E.b0 i <;> simp [ht]
  · exact .inr (Env.ow_of hge)
theorem Mem.box_lt (h : Mem E A hp rw_ w) {i : Nat} {cs : List AVal} (hi : hp i = some cs) : A.bx i < w.heap.size := by
  obtain ⟨⟨t, ht⟩, _⟩ := h.box i cs hi
  exact lt_of_heap ht

theorem Mem.foot_lt (h : Mem E A hp rw_ w) {k : Nat} {r : Row} (hk : rw_ k = some r) {b : Nat} (hb : Feet r (A.rw k) (A.inn k) b) : b < w.heap.size := by
  obtain ⟨hr, ho⟩ := h.row k r hk
  cases hown : r.own with
  | true => exact RowsOwn.foot_lt (ho hown).1 hb
  | false => exact hr.foot_lt hown hb

/-- What is told stays, if the blocks that it needs stay. -/
theorem Mem.keep (h : Mem E A hp rw_ w) (hkept : Kept E.K w w') (hb : ∀ i cs, hp i = some cs → w'.heap[A.bx i]? = w.heap[A.bx i]?)
    (hr : ∀ k r b, rw_ k = some r → Feet r (A.rw k) (A.inn k) b → w'.heap[b]? = w.heap[b]?) : Mem E A hp rw_ w' where
  kept := h.kept.trans hkept
  box i cs hi := by
    obtain ⟨⟨t, ht⟩, hn⟩ := h.box i cs hi
    exact ⟨⟨t, by rw [hb i cs hi]; exact ht⟩, hn⟩
  row k r hk := by
    obtain ⟨h1, ho⟩ := h.row k r hk
    refine ⟨h1.keep fun b hb => hr k r b hk hb, fun hown => ?_⟩
    obtain ⟨h2, h3⟩ := ho hown
    exact ⟨h2.keep hown fun b hb => hr k r b hk hb, h3⟩
  bb := h.bb
  br := h.br
  rr := h.rr
  args := h.args

/-- New blocks, draws: all that was stays. -/
theorem Mem.grow (h : Mem E A hp rw_ w) (hB : Blw w.heap.size w w') (hK : ∀ b, E.K b → b < w.heap.size) : Mem E A hp rw_ w' :=
  h.keep (Kept.of_below hB hK) (fun i cs hi => hB.block _ (h.box_lt hi)) fun k r b hk hb => hB.block b (h.foot_lt hk hb)

/-- Fewer facts. -/
theorem Mem.sub (h : Mem E A hp rw_ w) {hp' : Nat → Option (List AVal)} {rw' : Nat → Option Row} (hb : ∀ i c, hp' i = some c → hp i = some c) (hr : ∀ k r, rw' k = some r → rw_ k = some r) : Mem E A hp' rw' w where
  kept := h.kept
  box i cs hi := h.box i cs (hb _ _ hi)
  row k r hk := h.row k r (hr _ _ hk)
  bb i j ci cj h0 hi hj := h.bb i j ci cj h0 (hb _ _ hi) (hb _ _ hj)
  br i ci k r b h0 hi hk := h.br i ci k r b h0 (hb _ _ hi) (hr _ _ hk)
  rr k k' r r' b hk hk' := h.rr k k' r r' b (hr _ _ hk) (hr _ _ hk')
  args := h.args

def upd {α : Type} (f : Nat → α) (n : Nat) (x : α) : Nat → α := fun i => if i = n then x else f i
theorem upd_same {α : Type} (f : Nat → α) (n : Nat) (x : α) : upd f n x n = x := by simp [upd]
theorem upd_ne {α : Type} (f : Nat → α) (n : Nat) (x : α) {i : Nat} (h : i ≠ n) : upd f n x i = f i := by simp [upd, h]

def Asg.setBx (A : Asg) (l b : Nat) : Asg := { A with bx := upd A.bx l b }
def Asg.setRw (A : Asg) (l : Nat) (h : Hdr) (ih : Nat → Hdr) : Asg := { A with rw := upd A.rw l h, inn := upd A.inn l ih }

/-- A new box at a free level. -/
theorem Mem.addBox (h : Mem E A hp rw_ w) (l : Nat) (cs : List AVal) (t : TypeId) (hl0 : E.b0 ≤ l) (hl : hp l = none) (hsc : ∀ i c, hp i = some c → dens (A.setBx l w.heap.size) c = dens A c)
    (hcs : dens (A.setBx l w.heap.size) cs = dens A cs) (hK : ∀ b, E.K b → b < w.heap.size)
    (hw : w' = { w with heap := w.heap.push (objOf cs (dens A cs) t) }) : Mem E (A.setBx l w.heap.size) (upd hp l (some cs)) rw_ w' := by
  have hB : Blw w.heap.size w w' := by
    subst hw
    exact ⟨⟨rfl, rfl, rfl, by simp, fun k hk => by show (w.heap.push _)[k]? = _; rw [Array.getElem?_push, if_neg (by omega)]⟩, Dr.of (Nat.le_refl w.drawn)⟩
  have hg := h.grow hB hK
  have hne : ∀ i c, hp i = some c → i ≠ l := fun i c hi e => by rw [e, hl] at hi; cases hi
  have hbx : ∀ i c, hp i = some c → (A.setBx l w.heap.size).bx i = A.bx i := fun i c hi => upd_ne _ _ _ (hne i c hi)
  have cases' : ∀ i c, upd hp l (some cs) i = some c → (i = l ∧ c = cs) ∨ (i ≠ l ∧ hp i = some c) := fun i c hi => by
    by_cases e : i = l
    · subst e; rw [upd_same] at hi; exact .inl ⟨rfl, (Option.some.inj hi).symm⟩
    · rw [upd_ne _ _ _ e] at hi; exact .inr ⟨e, hi⟩
  refine ⟨hg.kept, fun i c hi => ?_, hg.row, fun i j ci cj h0 hi hj hij => ?_, fun i ci k r b h0 hi hk hf => ?_, hg.rr, hg.args⟩
  · rcases cases' i c hi with ⟨rfl, rfl⟩ | ⟨_, hi'⟩
    · have hbl : (A.setBx i w.heap.size).bx i = w.heap.size := upd_same _ _ _
      rw [hbl]
      refine ⟨⟨t, ?_⟩, fun hk => absurd hl0 (by omega), fun _ hk => by have := hK _ hk; omega⟩
      rw [hcs]; subst hw; simp
    · rw [hbx i c hi']
      obtain ⟨⟨t', ht⟩, hn⟩ := hg.box i c hi'
      exact ⟨⟨t', by rw [hsc i c hi']; exact ht⟩, hn⟩
  · rcases cases' i ci hi with ⟨rfl, rfl⟩ | ⟨hi0, hi'⟩ <;> rcases cases' j cj hj with ⟨rfl, rfl⟩ | ⟨hj0, hj'⟩
    · exact absurd rfl hij
    · rw [hbx j cj hj']
      have hbl : (A.setBx i w.heap.size).bx i = w.heap.size := upd_same _ _ _
      rw [hbl]
      have := h.box_lt hj'
      omega
    · rw [hbx i ci hi']
      have hbl : (A.setBx j w.heap.size).bx j = w.heap.size := upd_same _ _ _
      rw [hbl]
      have := h.box_lt hi'
      omega
    · rw [hbx i ci hi', hbx j cj hj']
      exact h.bb i j ci cj h0 hi' hj' hij
  · rcases cases' i ci hi with ⟨rfl, rfl⟩ | ⟨hi0, hi'⟩
    · have hbl : (A.setBx i w.heap.size).bx i = w.heap.size := upd_same _ _ _
      rw [hbl]
      have := h.foot_lt hk hf
      omega
    · rw [hbx i ci hi']
      exact h.br i ci k r b h0 hi' hk hf

/-- A new row at a free level: blocks that nobody else needs (own), or read only. -/
theorem Mem.addRow (h : Mem E A hp rw_ w) (l : Nat) (hd : Hdr) (ih : Nat → Hdr) (r : Row) (hl : rw_ l = none) (hn0 : E.n0 ≤ l) (hsc : ∀ i c, hp i = some c → dens (A.setRw l hd ih) c = dens A c)
    (hr : RowsAt w hd ih r) (ho : r.own = true → RowsOwn w hd ih r ∧ ∀ b, Feet r hd ih b → ¬ E.K b)
    (hbr : ∀ i ci b, E.ow i → hp i = some ci → Feet r hd ih b → A.bx i ≠ b)
    (hrr : ∀ k' r' b, rw_ k' = some r' → (r.own = true ∨ r'.own = true) → Feet r hd ih b → ¬ Feet r' (A.rw k') (A.inn k') b) :
    Mem E (A.setRw l hd ih) hp (upd rw_ l (some r)) w := by
  have hne : ∀ i c, rw_ i = some c → i ≠ l := fun i c hi e => by rw [e, hl] at hi; cases hi
  have hrw : ∀ i c, rw_ i = some c → (A.setRw l hd ih).rw i = A.rw i := fun i c hi => upd_ne _ _ _ (hne i c hi)
  have hin : ∀ i c, rw_ i = some c → (A.setRw l hd ih).inn i = A.inn i := fun i c hi => upd_ne _ _ _ (hne i c hi)
  have cases' : ∀ i c, upd rw_ l (some r) i = some c → (i = l ∧ c = r) ∨ (i ≠ l ∧ rw_ i = some c) := fun i c hi => by
    by_cases e : i = l
    · subst e; rw [upd_same] at hi; exact .inl ⟨rfl, (Option.some.inj hi).symm⟩
    · rw [upd_ne _ _ _ e] at hi; exact .inr ⟨e, hi⟩
  have hll : (A.setRw l hd ih).rw l = hd := upd_same _ _ _
  have hil : (A.setRw l hd ih).inn l = ih := upd_same _ _ _
  refine ⟨h.kept, fun i c hi => ?_, fun k c hk => ?_, h.bb, fun i ci k c b h0 hi hk hf => ?_, fun k k' c c' b hk hk' hkk hown hf hf' => ?_, fun k hk => ?_⟩
  · obtain ⟨⟨t', ht⟩, hn⟩ := h.box i c hi
    exact ⟨⟨t', by rw [hsc i c hi]; exact ht⟩, hn⟩
  · rcases cases' k c hk with ⟨rfl, rfl⟩ | ⟨_, hk'⟩
    · rw [hll, hil]; exact ⟨hr, ho⟩
    · rw [hrw k c hk', hin k c hk']; exact h.row k c hk'
  · rcases cases' k c hk with ⟨rfl, rfl⟩ | ⟨_, hk'⟩
    · rw [hll, hil] at hf; exact hbr i ci b h0 hi hf
    · rw [hrw k c hk', hin k c hk'] at hf; exact h.br i ci k c b h0 hi hk' hf
  · rcases cases' k c hk with ⟨rfl, rfl⟩ | ⟨hk0, hkk'⟩ <;> rcases cases' k' c' hk' with ⟨rfl, rfl⟩ | ⟨hk0', hkk''⟩
    · exact hkk rfl
    · rw [hll, hil] at hf; rw [hrw k' c' hkk'', hin k' c' hkk''] at hf'
      exact hrr k' c' b hkk'' (.inl hown) hf hf'
    · rw [hll, hil] at hf'; rw [hrw k c hkk', hin k c hkk'] at hf
      exact hrr k c b hkk' (.inr hown) hf' hf
    · rw [hrw k c hkk', hin k c hkk'] at hf; rw [hrw k' c' hkk'', hin k' c' hkk''] at hf'
      exact h.rr k k' c c' b hkk' hkk'' hkk hown hf hf'
  · have : k ≠ l := by omega
    show upd A.rw l hd k = _
    rw [upd_ne _ _ _ this]
    exact h.args k hk

end

/-- The symbolic state of a walk. -/
structure St where
  fr : List AVal
  hp : List (Option (List AVal))
  rows : List (Option Row)

structure Sat (E : Env) (A : Asg) (σ : St) (a : Act) (w : World) : Prop where
  defers : a.defers = []
  size : a.tmps.size = σ.fr.length
  fr : ∀ (t : Nat) (x : AVal), σ.fr[t]? = some x → x = .junk ∨ a.tmps.getD t undef = x.den A
  sc : ∀ (t : Nat) (x : AVal), σ.fr[t]? = some x → x.sc σ.hp.length [] σ.rows.length [] = true
  hsc : ∀ i cs, nthj σ.hp i = some cs → scs σ.hp.length [] σ.rows.length [] cs = true
  mem : Mem E A (nthj σ.hp) (nthj σ.rows) w
  klt : ∀ b, E.K b → b < w.heap.size
  n0 : E.n0 ≤ σ.rows.length
  b0 : E.b0 ≤ σ.hp.length

theorem nthj_none {α : Type _} {l : List (Option α)} {n : Nat} (h : l.length ≤ n) : nthj l n = none := by
  rw [nthj_eq, List.getElem?_eq_none h]; rfl

theorem nthj_snoc {α : Type _} (l : List (Option α)) (x : Option α) : ∀ n, nthj (l ++ [x]) n = if n = l.length then x else nthj l n := by
  intro n
  rw [nthj_eq, nthj_eq]
  by_cases h : n = l.length
  · subst h; simp
  · rw [if_neg h, List.getElem?_append]
    split
    · rfl
    · rw [List.getElem?_eq_none (by simp; omega), List.getElem?_eq_none (by omega)]

/-- Operands. -/
def ev (fr : List AVal) : Operand → Option AVal
  | .tmp t => match nth fr t with | some .junk => none | x => x
  | .const v => match v with
    | .int k n => some (.int k n)
    | .bool b => some (.bool b)
    | .string s => some (.str s)
    | v => some (.raw v)
  | .func f => some (.fn f [] [])
  | .global _ => none

theorem ev_sound {E : Env} {A : Asg} {σ : St} {a : Act} {w : World} (h : Sat E A σ a w) {x : Operand} {v : AVal} (hv : ev σ.fr x = some v) : a.eval x = v.den A := by
  cases x with
  | tmp t =>
    simp only [ev, nth_eq] at hv
    split at hv
    · cases hv
    · rename_i x hx
      rcases h.fr t v hv with rfl | h'
      · exact absurd hv (by simpa using hx)
      · exact h'
  | const v' => cases v' <;> simp [ev] at hv <;> subst hv <;> simp [Act.eval, AVal.den]
  | global g => simp [ev] at hv
  | func f => simp [ev] at hv; subst hv; simp [Act.eval, AVal.den, dens]

theorem ev_sc {E : Env} {A : Asg} {σ : St} {a : Act} {w : World} (h : Sat E A σ a w) {x : Operand} {v : AVal} (hv : ev σ.fr x = some v) : v.sc σ.hp.length [] σ.rows.length [] = true := by
  cases x with
  | tmp t =>
    simp only [ev, nth_eq] at hv
    split at hv
    · cases hv
    · exact h.sc t v hv
  | const v' => cases v' <;> simp [ev] at hv <;> subst hv <;> simp [AVal.sc]
  | global g => simp [ev] at hv
  | func f => simp [ev] at hv; subst hv; simp [AVal.sc, scs]

end Go.Proofs.YtmbfflckgmdncaaDoor.Fw

/- What each operation does in a symbolic state, and that it does so in the machine. -/
namespace Go.Proofs.YtmbfflckgmdncaaDoor.Fw
open Go Go.RowKit
set_option linter.unusedVariables false
set_option linter.unusedSimpArgs false

/-- What is known of a type. -/
structure TInfo where
  desc : TypeDesc
  agg : Bool
  size : Nat
  bytes : Nat
  zero : List AVal
  ty : Option TyC
  eqOk : Bool
  wf : Bool

structure TInfoOk (P : Program) (t : TypeId) (i : TInfo) : Prop where
  und : P.underlying t = some i.desc
  info : ∃ z, (P.info? t).map (fun x => (x.size, x.bytes, x.zero)) = some (i.size, i.bytes, some z) ∧ z.cells = (dens A0 i.zero).toArray ∧ z = (if i.agg then .agg (dens A0 i.zero).toArray else (dens A0 i.zero).head?.getD undef)
  agg : i.agg = (match i.desc with | .struct _ | .array _ _ => true | _ => false)
  flat : i.zero.all AVal.flat = true
  zlen : i.zero.length = i.size
  ty : ∀ c, i.ty = some c → c.sz = i.size ∧ c.enc c.dflt = i.zero ∧ c.isL = false
  eqOk : i.eqOk = true → P.stoodInHeld t = false ∧ P.eqGuardType P.depth t = false ∧ (match i.desc with | .struct fs => fs.toList.all (·.name != "_") | _ => true) = true

def TOk (P : Program) (T : TypeId → Option TInfo) : Prop := ∀ t i, T t = some i → TInfoOk P t i

def lookT : List (TypeId × TInfo) → TypeId → Option TInfo
  | [], _ => none
  | (g, c) :: l, f => match Nat.beq g f with | true => some c | false => lookT l f
theorem TOk.list {P : Program} {l : List (TypeId × TInfo)} (h : ∀ p ∈ l, TInfoOk P p.1 p.2) : TOk P (lookT l) := by
  intro t i hl
  induction l with
  | nil => cases hl
  | cons p l ih =>
    unfold lookT at hl
    split at hl
    · rename_i hb
      have := Nat.eq_of_beq_eq_true hb
      subst this
      obtain rfl := Option.some.inj hl
      exact h p (by simp)
    · exact ih (fun q hq => h q (by simp [hq])) hl

/-! ### the symbolic side -/
def Rng : IntKind → Int → Prop
  | .i8, n => -128 ≤ n ∧ n ≤ 127
  | .i16, n => -32768 ≤ n ∧ n ≤ 32767
  | .i32, n => -2147483648 ≤ n ∧ n ≤ 2147483647
  | .i64, n => -9223372036854775808 ≤ n ∧ n ≤ 9223372036854775807
  | .u8, n => 0 ≤ n ∧ n ≤ 255
  | .u16, n => 0 ≤ n ∧ n ≤ 65535
  | .u32, n => 0 ≤ n ∧ n ≤ 4294967295
  | .u64, n => 0 ≤ n ∧ n ≤ 18446744073709551615

theorem wrap_of_rng {k : IntKind} {n : Int} (h : Rng k n) : k.wrap n = n := by
  cases k <;> simp only [Rng] at h <;> simp [IntKind.wrap, IntKind.bits, IntKind.signed] <;> omega

/-- Does the arithmetic of a type wrap around here? -/
def wfT (T : TypeId → Option TInfo) (t : TypeId) : Bool := match T t with | some i => i.wf | none => false

/-- Two ways. -/
def bcond (b : Bool) (X Y : Prop) : Prop := match b with | true => X | false => Y
theorem bcond_split {b : Bool} {X Y : Prop} (h1 : b = true → X) (h2 : b = false → Y) : bcond b X Y := by cases b with | false => exact h2 rfl | true => exact h1 rfl
theorem bcond_dec {p : Prop} [Decidable p] {X Y : Prop} (h1 : p → X) (h2 : ¬ p → Y) : bcond (decide p) X Y :=
  bcond_split (fun h => h1 (of_decide_eq_true h)) (fun h => h2 (of_decide_eq_false h))
theorem bcond_ndec {p : Prop} [Decidable p] {X Y : Prop} (h1 : ¬ p → X) (h2 : p → Y) : bcond (!decide p) X Y :=
  bcond_split (fun h => h1 (by simpa using h)) (fun h => h2 (by simpa using h))
theorem bcond_not {b : Bool} {X Y : Prop} (h1 : b = false → X) (h2 : b = true → Y) : bcond (!b) X Y := by cases b with | false => exact h1 rfl | true => exact h2 rfl

def with1 (fr : List AVal) (x : Operand) (k : AVal → Prop) : Prop := match ev fr x with | some v => k v | none => False
def withs (fr : List AVal) : List Operand → (List AVal → Prop) → Prop
  | [], k => k []
  | x :: l, k => with1 fr x fun v => withs fr l fun vs => k (v :: vs)

/-- the cells of a value -/
def cellsA : AVal → (List AVal → Prop) → Prop
  | .agg cs, k => k cs
  | .int a b, k => k [.int a b]
  | .bool b, k => k [.bool b]
  | .str s, k => k [.str s]
  | .loc i o, k => k [.loc i o]
  | .ele a b c d, k => k [.ele a b c d]
  | .row r, k => k [.row r]
  | .irow r i, k => k [.irow r i]
  | .vw r lo n sz, k => k [.vw r lo n sz]
  | .bsl i n, k => k [.bsl i n]
  | .mpr i, k => k [.mpr i]
  | .fn f a b, k => k [.fn f a b]
  | .raw (.slice a b c), k => k [.raw (.slice a b c)]
  | .raw (.func a b c), k => k [.raw (.func a b c)]
  | .raw (.pointer a), k => k [.raw (.pointer a)]
  | .raw (.map a), k => k [.raw (.map a)]
  | .raw .nilFunc, k => k [.raw .nilFunc]
  | _, _ => False

/-- n cells from the cell off on -/
def sub : List AVal → Nat → Nat → (List AVal → Prop) → Prop
  | _, 0, 0, k => k []
  | [], _, _, _ => False
  | _ :: l, o + 1, n, k => sub l o n k
  | x :: l, 0, n + 1, k => sub l 0 n fun l' => k (x :: l')

/-- a part of some cells as a value -/
def partA (agg : Bool) (size : Nat) (cs : List AVal) (off : Nat) (k : AVal → Prop) : Prop :=
  match agg with
  | true => sub cs off size fun l => k (.agg l)
  | false => match nth cs off with | some v => k v | none => False

/-- what lies at an address -/
def ldA (hg : Nat → Option (List AVal)) (rg : Nat → Option Row) (agg : Bool) (size : Nat) (x : AVal) (k : AVal → Prop) : Prop :=
  match x with
  | .loc i off => match hg i with | some cs => (match mapOf cs with | none => partA agg size cs off k | some _ => False) | none => False
  | .ele r i off sz => match rg r with
    | some ⟨.lst c e', e, own, yss⟩ => match agg, off, sz with
      | false, 0, 1 => i < (@List.length (List c.α) yss) ∧ k (.irow r i)
      | _, _, _ => False
    | some ⟨c, e, own, xs⟩ => match Nat.beq sz c.sz with
      | true => i < xs.length ∧ partA agg size (c.enc (xs.getD i c.dflt)) off k
      | false => False
    | none => False
  | .iele r i j off sz => match rg r with
    | some ⟨.lst c e', e, own, yss⟩ => match c.isL, Nat.beq sz c.sz with
      | false, true => (i < (@List.length (List c.α) yss) ∧ j < (@List.getD (List c.α) yss i []).length) ∧ partA agg size (c.enc ((@List.getD (List c.α) yss i []).getD j c.dflt)) off k
      | _, _ => False
    | _ => False
  | _ => False

def fieldA (i : TInfo) (f : Nat) (k : Field → Prop) : Prop :=
  match i.desc with | .struct fs => (match nth fs.toList f with | some f => k f | none => False) | _ => False

/-- A sum, difference, product: of uint64 it wraps around; of the others it has to be within its range. -/
def wrapK (wf : Bool) (a : IntKind) (n : Int) (k : AVal → Prop) : Prop := match a with
  | .u64 => k (.int .u64 (n % 18446744073709551616))
  | a => (match wf with | true => k (.int a (a.wrap n)) | false => Rng a n ∧ k (.int a n))
theorem wrapK_inv {wf : Bool} {a : IntKind} {n : Int} {k : AVal → Prop} (h : wrapK wf a n k) : k (.int a (a.wrap n)) := by
  cases wf <;> cases a <;> simp only [wrapK] at h
  all_goals first
    | exact h
    | (rw [wrap_of_rng h.1]; exact h.2)
    | (have e : IntKind.u64.wrap n = n % 18446744073709551616 := by simp [IntKind.wrap, IntKind.bits, IntKind.signed]
       rw [e]; exact h)

def evBin (wf : Bool) (op : BinOp) (x y : AVal) (k : AVal → Prop) : Prop :=
  match x, y with
  | .int a x, .int b y =>
    match op with
    | .shl => match a with
      | .i64 => 0 ≤ y ∧ y < 64 ∧ Rng .i64 (x * 2 ^ y.toNat) ∧ k (.int .i64 (x * 2 ^ y.toNat))
      | .u64 => 0 ≤ y ∧ y < 64 ∧ Rng .u64 (x * 2 ^ y.toNat) ∧ k (.int .u64 (x * 2 ^ y.toNat))
      | _ => False
    | .shr => match a with
      | .i64 => 0 ≤ y ∧ y < 64 ∧ k (.int .i64 (x.fdiv (2 ^ y.toNat)))
      | .u64 => 0 ≤ y ∧ y < 64 ∧ k (.int .u64 (x.fdiv (2 ^ y.toNat)))
      | _ => False
    | _ => match sameK a b with
      | false => False
      | true => match op with
        | .add => wrapK wf a (x + y) k
        | .sub => wrapK wf a (x - y) k
        | .mul => wrapK wf a (x * y) k
        | .quo => y ≠ 0 ∧ (match wf with | true => k (.int a (a.wrap (x.tdiv y))) | false => Rng a (x.tdiv y) ∧ k (.int a (x.tdiv y)))
        | .rem => y ≠ 0 ∧ k (.int a (x.tmod y))
        | .eql => k (.bool (decide (x = y)))
        | .neq => k (.bool (!decide (x = y)))
        | .lss => k (.bool (decide (x < y)))
        | .leq => k (.bool (decide (x ≤ y)))
        | .gtr => k (.bool (decide (y < x)))
        | .geq => k (.bool (decide (y ≤ x)))
        | .and => k (.int a (a.wrap ((BitVec.ofInt a.bits x) &&& (BitVec.ofInt a.bits y)).toNat))
        | .or => k (.int a (a.wrap ((BitVec.ofInt a.bits x) ||| (BitVec.ofInt a.bits y)).toNat))
        | _ => False
  | .str x, .str y =>
    match op with
    | .add => x.size + y.size ≤ 9223372036854775807 ∧ k (.str (x ++ y))
    | .eql => k (.bool (decide (x = y)))
    | .neq => k (.bool (!decide (x = y)))
    | _ => False
  | _, _ => False

def evUn (wf : Bool) (op : UnOp) (x : AVal) (k : AVal → Prop) : Prop :=
  match op, x with
  | .not, .bool b => k (.bool (!b))
  | .neg, .int a n => (match wf with | true => k (.int a (a.wrap (-n))) | false => Rng a (-n) ∧ k (.int a (-n)))
  | _, _ => False

/-- Equality of two values of a type, as a Bool. -/
def eqFs (T : TypeId → Option TInfo) (go : TypeId → AVal → AVal → (Bool → Prop) → Prop) (xs ys : List AVal) : List Field → (Bool → Prop) → Prop
  | [], k => k true
  | f :: fs, k => match T f.type with
    | some i => partA i.agg i.size xs f.offset fun a => partA i.agg i.size ys f.offset fun b => go f.type a b fun r => (match fs with
      | [] => k r
      | _ :: _ => eqFs T go xs ys fs fun r' => k (r && r'))
    | none => False
def eqV (T : TypeId → Option TInfo) : Nat → TypeId → AVal → AVal → (Bool → Prop) → Prop
  | 0, _, _, _, _ => False
  | d + 1, t, x, y, k => match T t with
    | some i => match i.desc with
      | .struct fs => (match i.eqOk with
        | true => (match x, y with | .agg xs, .agg ys => eqFs T (eqV T d) xs ys fs.toList k | _, _ => False)
        | false => False)
      | .int _ => (match x, y with | .int a x, .int b y => (match sameK a b with | true => k (decide (x = y)) | false => False) | _, _ => False)
      | .bool => (match x, y with | .bool x, .bool y => k (x == y) | _, _ => False)
      | .string => (match x, y with | .str x, .str y => k (decide (x = y)) | _, _ => False)
      | _ => False
    | none => False

/-- new cells over old ones from the cell off on -/
def over : List AVal → Nat → List AVal → (List AVal → Prop) → Prop
  | l, 0, [], k => k l
  | _ :: l, 0, v :: vs, k => over l 0 vs fun l' => k (v :: l')
  | x :: l, o + 1, vs, k => over l o vs fun l' => k (x :: l')
  | [], _, _, _ => False

def byteAt (s : ByteArray) (n : Nat) : Nat := (s.data.toList.getD n 0).toNat

structure Eff where
  box : Option (List AVal)
  rows : List Row
  v : AVal
def val (v : AVal) : Eff := ⟨none, [], v⟩

/-- A contract of a function that turns nothing that was there: given what boxes and rows hold, the level of its first new row and the arguments: the new rows and the result. -/
def PCtr : Type := (Nat → Option (List AVal)) → (Nat → Option Row) → Nat → List AVal → (List Row → AVal → Prop) → Prop

/-- A contract of a function that turns rows of its caller's own: behind it each of these rows is gone, or told anew. -/
def MCtr : Type := (Nat → Option (List AVal)) → (Nat → Option Row) → Nat → List AVal → (List (Nat × Option Row) → List Row → AVal → Prop) → Prop

/-- A contract of a function that hands back a new box, perhaps, and new rows: like PCtr, with the level of the box. -/
def BCtr : Type := (Nat → Option (List AVal)) → (Nat → Option Row) → Nat → Nat → List AVal → (Option (List AVal) → List Row → AVal → Prop) → Prop

/-- A contract of a function that turns what lies in one of its caller's own rows (of rows, say): the level, the row as it is behind the call, the result. -/
def LCtr : Type := (Nat → Option (List AVal)) → (Nat → Option Row) → List AVal → (Nat → Row → AVal → Prop) → Prop

/-- A contract of a function that turns one of its caller's boxes: the level, what it holds behind the call, the result. -/
def XCtr : Type := (Nat → Option (List AVal)) → (Nat → Option Row) → List AVal → (Nat → List AVal → AVal → Prop) → Prop

/-- A contract of a function that hands back some new boxes whose cells name no level. -/
def KCtr : Type := (Nat → Option (List AVal)) → (Nat → Option Row) → Nat → List AVal → (List (List AVal) → AVal → Prop) → Prop

inductive Ctr where
  | p (c : PCtr)
  | m (c : MCtr)
  | b (c : BCtr)
  | l (c : LCtr)
  | x (c : XCtr)
  | k (c : KCtr)
  | r (c : BCtr)

def look : List (FuncId × Ctr) → FuncId → Option Ctr
  | [], _ => none
  | (g, c) :: l, f => match Nat.beq g f with | true => some c | false => look l f

/-! ### the machine's side -/
/-- What an operation, run, comes to. -/
def Runs (P : Program) (K : Value → World → Prop) : Result Next → Prop
  | .ok (.value v) w => K v w
  | .ok (.enter f args) w => Calls P f args w fun e w' => ∃ v, e = .returned v ∧ K v w'
  | _ => False

theorem wp_of_runs {P : Program} {o : Oper} {a : Act} {w : World} {next : Act → World → Prop} {Q : Exit → Act → World → Prop} {K : Value → World → Prop}
    (h : Runs P K ((execOp a.eval o).run P w)) (hk : ∀ v w', K v w' → next (a.put o.dst v) w') : o.wp P a w next Q := by
  unfold Oper.wp
  generalize (execOp a.eval o).run P w = r at h
  match r, h with
  | .ok (.value v) w', h => exact hk _ _ h
  | .ok (.enter f args) w', h =>
    exact Calls.mono h fun e w'' ⟨v, he, hv⟩ => by subst he; exact hk _ _ hv

theorem wrapF {P : Program} (s : Sem Value) (w w' : World) (v : Value) (h : s.run P w = .ok v w') :
    (do pure (Next.value (← s)) : Sem Next).run P w = .ok (.value v) w' := by
  simp [h]

structure HdrN where
  h : Hdr
  ih : Nat → Hdr
def hdr0 : HdrN := ⟨⟨none, 0, 0⟩, fun _ => ⟨none, 0, 0⟩⟩
def Asg.setRws (A : Asg) (n : Nat) (hs : List HdrN) : Asg :=
  { A with rw := fun i => if n ≤ i ∧ i < n + hs.length then (hs.getD (i - n) hdr0).h else A.rw i, inn := fun i => if n ≤ i ∧ i < n + hs.length then (hs.getD (i - n) hdr0).ih else A.inn i }

def updL (f : Nat → Option Row) (n : Nat) (xs : List Row) : Nat → Option Row := fun i => if n ≤ i ∧ i < n + xs.length then xs[i - n]? else f i
def updO (f : Nat → Option (List AVal)) (n : Nat) (x : Option (List AVal)) : Nat → Option (List AVal) := fun i => match x with | some c => (if i = n then some c else f i) | none => f i

/-- Two readings of levels that differ at new levels alone. -/
structure Agr (lb : Nat) (bo : Bool) (lr m : Nat) (A B : Asg) : Prop where
  bx : ∀ i, (bo = true → i ≠ lb) → A.bx i = B.bx i
  rw : ∀ k, (k < lr ∨ lr + m ≤ k) → A.rw k = B.rw k ∧ A.inn k = B.inn k

structure Post (E : Env) (A : Asg) (hp : Nat → Option (List AVal)) (rw : Nat → Option Row) (lb lr : Nat) (w : World) (eff : Eff) (u : Value) (w' : World) : Prop where
  out : ∃ B, Agr lb eff.box.isSome lr eff.rows.length A B ∧ u = eff.v.den B ∧ Mem E B (updO hp lb eff.box) (updL rw lr eff.rows) w' ∧ w.heap.size ≤ w'.heap.size

/-- New rows: own, of blocks that are free, apart from each other. -/
structure NewRows (rows : List Row) (hs : List HdrN) (w' : World) (free : Nat → Prop) : Prop where
  len : hs.length = rows.length
  new : ∀ (i : Nat) (r : Row) (h : HdrN), rows[i]? = some r → hs[i]? = some h → r.own = true ∧ RowsOwn w' h.h h.ih r ∧ ∀ b, Feet r h.h h.ih b → free b
  dis : ∀ (i j : Nat) (h h' : HdrN) (r r' : Row) (b : Nat), i ≠ j → hs[i]? = some h → hs[j]? = some h' → rows[i]? = some r → rows[j]? = some r' → Feet r h.h h.ih b → ¬ Feet r' h'.h h'.ih b

/-- What a call under a contract leaves: the new rows, the result, nothing old turned. -/
def CPost (A : Asg) (lr : Nat) (rows : List Row) (v : AVal) (w : World) (e : Ending) (w' : World) : Prop :=
  ∃ hs : List HdrN, e = .returned (v.den (A.setRws lr hs)) ∧ Blw w.heap.size w w' ∧ NewRows rows hs w' (w.heap.size ≤ ·)

/-- The contract holds of function f. -/
structure PCtrOk (P : Program) (f : FuncId) (c : PCtr) : Prop where
  enter : ∀ args w, (callFunc f args).run P w = .ok (.enter f args) w
  calls : ∀ hg rg lr vals k, c hg rg lr vals k → ∃ rows v, k rows v ∧ ∀ A w,
    (∀ i cs, hg i = some cs → BoxAt A w (A.bx i) cs) → (∀ i r, rg i = some r → RowsAt w (A.rw i) (A.inn i) r) →
    Calls P f (dens A vals).toArray w (CPost A lr rows v w)

/-- What memory tells a callee that turns rows. -/
structure CMem (A : Asg) (hg : Nat → Option (List AVal)) (rg : Nat → Option Row) (w : World) : Prop where
  box : ∀ i cs, hg i = some cs → BoxAt A w (A.bx i) cs
  row : ∀ k r, rg k = some r → RowsAt w (A.rw k) (A.inn k) r ∧ (r.own = true → RowsOwn w (A.rw k) (A.inn k) r)
  br : ∀ i ci k r b, hg i = some ci → rg k = some r → r.own = true → Feet r (A.rw k) (A.inn k) b → A.bx i ≠ b
  rr : ∀ k k' r r' b, rg k = some r → rg k' = some r' → k ≠ k' → r.own = true → Feet r (A.rw k) (A.inn k) b → ¬ Feet r' (A.rw k') (A.inn k') b

/-- The rows that are turned were the caller's own; what is told anew is flat. -/
structure UpsOk (rg : Nat → Option Row) (ups : List (Nat × Option Row)) : Prop where
  own : ∀ i u, (i, u) ∈ ups → ∃ r, rg i = some r ∧ r.own = true ∧ ∀ r', u = some r' → r'.own = true ∧ r'.c.isL = false ∧ r.c.isL = false
  nodup : (ups.map Prod.fst).Nodup

def touched (A : Asg) (rg : Nat → Option Row) (ups : List (Nat × Option Row)) (b : Nat) : Prop := ∃ i u r, (i, u) ∈ ups ∧ rg i = some r ∧ Feet r (A.rw i) (A.inn i) b
def freed (A : Asg) (rg : Nat → Option Row) (ups : List (Nat × Option Row)) (b : Nat) : Prop := ∃ i r, (i, none) ∈ ups ∧ rg i = some r ∧ Feet r (A.rw i) (A.inn i) b

def MPost (A : Asg) (rg : Nat → Option Row) (lr : Nat) (ups : List (Nat × Option Row)) (rows : List Row) (v : AVal) (w : World) (e : Ending) (w' : World) : Prop :=
  ∃ hs : List HdrN, e = .returned (v.den (A.setRws lr hs)) ∧ Kept (fun b => b < w.heap.size ∧ ¬ touched A rg ups b) w w' ∧ (∀ i r', (i, some r') ∈ ups → RowOwn w' (A.rw i) r') ∧
    NewRows rows hs w' (fun b => w.heap.size ≤ b ∨ freed A rg ups b)

structure MCtrOk (P : Program) (f : FuncId) (c : MCtr) : Prop where
  enter : ∀ args w, (callFunc f args).run P w = .ok (.enter f args) w
  calls : ∀ hg rg lr vals k, c hg rg lr vals k → ∃ ups rows v, k ups rows v ∧ UpsOk rg ups ∧ ∀ A w, CMem A hg rg w → Calls P f (dens A vals).toArray w (MPost A rg lr ups rows v w)

/-- What a call leaves that hands back a new box and new rows. -/
def BPost (A : Asg) (lb lr : Nat) (box : Option (List AVal)) (rows : List Row) (v : AVal) (w : World) (e : Ending) (w' : World) : Prop :=
  ∃ (hs : List HdrN) (bb : Nat), e = .returned (v.den ((A.setRws lr hs).setBx lb bb)) ∧ Blw w.heap.size w w' ∧ NewRows rows hs w' (w.heap.size ≤ ·) ∧ (box = none → bb = A.bx lb) ∧
    ∀ cs, box = some cs → w.heap.size ≤ bb ∧ BoxAt ((A.setRws lr hs).setBx lb bb) w' bb cs ∧ ∀ (i : Nat) (r : Row) (h : HdrN), rows[i]? = some r → hs[i]? = some h → ¬ Feet r h.h h.ih bb

structure BCtrOk (P : Program) (f : FuncId) (c : BCtr) : Prop where
  enter : ∀ args w, (callFunc f args).run P w = .ok (.enter f args) w
  calls : ∀ hg rg lb lr vals k, c hg rg lb lr vals k → ∃ box rows v, k box rows v ∧ ∀ A w,
    (∀ i cs, hg i = some cs → BoxAt A w (A.bx i) cs) → (∀ i r, rg i = some r → RowsAt w (A.rw i) (A.inn i) r) →
    Calls P f (dens A vals).toArray w (BPost A lb lr box rows v w)

/-- What a call leaves that turns what lies in a row: the slice is the same, those in it may be others. -/
def LPost (A : Asg) (i : Nat) (r r' : Row) (v : AVal) (w : World) (e : Ending) (w' : World) : Prop :=
  ∃ ih' : Nat → Hdr, e = .returned (v.den A) ∧ Kept (fun b => b < w.heap.size ∧ ¬ Feet r (A.rw i) (A.inn i) b) w w' ∧ RowsOwn w' (A.rw i) ih' r' ∧ ∀ b, Feet r' (A.rw i) ih' b → w.heap.size ≤ b ∨ Feet r (A.rw i) (A.inn i) b

structure LCtrOk (P : Program) (f : FuncId) (c : LCtr) : Prop where
  enter : ∀ args w, (callFunc f args).run P w = .ok (.enter f args) w
  calls : ∀ hg rg vals k, c hg rg vals k → ∃ i r r' v, k i r' v ∧ rg i = some r ∧ r.own = true ∧ r'.own = true ∧ ∀ A w, CMem A hg rg w → Calls P f (dens A vals).toArray w (LPost A i r r' v w)

/-- What memory tells a callee that turns the box at the level i: nobody else needs its block. -/
structure XMem (A : Asg) (hg : Nat → Option (List AVal)) (rg : Nat → Option Row) (i : Nat) (w : World) : Prop where
  box : ∀ j cs, hg j = some cs → BoxAt A w (A.bx j) cs
  row : ∀ k r, rg k = some r → RowsAt w (A.rw k) (A.inn k) r
  bb : ∀ j cj, hg j = some cj → j ≠ i → A.bx j ≠ A.bx i
  br : ∀ k r b, rg k = some r → Feet r (A.rw k) (A.inn k) b → A.bx i ≠ b

def XPost (A : Asg) (i : Nat) (cs : List AVal) (v : AVal) (w : World) (e : Ending) (w' : World) : Prop :=
  e = .returned (v.den A) ∧ Kept (fun b => b < w.heap.size ∧ b ≠ A.bx i) w w' ∧ BoxAt A w' (A.bx i) cs

/-- One of the ends that a contract allows. -/
def XRPost (k : Nat → List AVal → AVal → Prop) (A : Asg) (i : Nat) (w : World) (e : Ending) (w' : World) : Prop := ∃ cs v, k i cs v ∧ XPost A i cs v w e w'
def RPost (k : Option (List AVal) → List Row → AVal → Prop) (A : Asg) (lb lr : Nat) (w : World) (e : Ending) (w' : World) : Prop := ∃ box rows v, k box rows v ∧ BPost A lb lr box rows v w e w'
/-- A contract that allows more than one end: a box perhaps, new rows. -/
structure RCtrOk (P : Program) (f : FuncId) (c : BCtr) : Prop where
  enter : ∀ args w, (callFunc f args).run P w = .ok (.enter f args) w
  calls : ∀ hg rg lb lr vals k, c hg rg lb lr vals k → ∀ A w,
    (∀ i cs, hg i = some cs → BoxAt A w (A.bx i) cs) → (∀ i r, rg i = some r → RowsAt w (A.rw i) (A.inn i) r) →
    Calls P f (dens A vals).toArray w (RPost k A lb lr w)

structure XCtrOk (P : Program) (f : FuncId) (c : XCtr) : Prop where
  enter : ∀ args w, (callFunc f args).run P w = .ok (.enter f args) w
  calls : ∀ hg rg vals k, c hg rg vals k → ∃ i cs0, (∃ cs v, k i cs v) ∧ hg i = some cs0 ∧ ∀ A w, XMem A hg rg i w → Calls P f (dens A vals).toArray w (XRPost k A i w)

def Asg.setBxs (A : Asg) : Nat → List Nat → Asg
  | _, [] => A
  | l, b :: bs => (Asg.mk (fun i => if i = l then b else A.bx i) A.rw A.inn).setBxs (l + 1) bs
def flatB : List (List AVal) → Bool
  | [] => true
  | c :: l => match c.all AVal.flat with | true => flatB l | false => false
def KPost (A : Asg) (lb : Nat) (boxes : List (List AVal)) (v : AVal) (w : World) (e : Ending) (w' : World) : Prop :=
  ∃ bbs : List Nat, bbs.length = boxes.length ∧ e = .returned (v.den (A.setBxs lb bbs)) ∧ Blw w.heap.size w w' ∧ (∀ (i : Nat) (cs : List AVal) (b : Nat), boxes[i]? = some cs → bbs[i]? = some b → w.heap.size ≤ b ∧ BoxAt A w' b cs) ∧ bbs.Nodup

structure KCtrOk (P : Program) (f : FuncId) (c : KCtr) : Prop where
  enter : ∀ args w, (callFunc f args).run P w = .ok (.enter f args) w
  calls : ∀ hg rg lb vals k, c hg rg lb vals k → ∃ boxes v, k boxes v ∧ ∀ A w,
    (∀ i cs, hg i = some cs → BoxAt A w (A.bx i) cs) → (∀ i r, rg i = some r → RowsAt w (A.rw i) (A.inn i) r) →
    Calls P f (dens A vals).toArray w (KPost A lb boxes v w)

def CtrOk (P : Program) (f : FuncId) : Ctr → Prop
  | .p c => PCtrOk P f c
  | .m c => MCtrOk P f c
  | .b c => BCtrOk P f c
  | .l c => LCtrOk P f c
  | .x c => XCtrOk P f c
  | .k c => KCtrOk P f c
  | .r c => RCtrOk P f c
def GOk (P : Program) (G : List (FuncId × Ctr)) : Prop := ∀ f c, look G f = some c → CtrOk P f c
theorem GOk.nil {P : Program} : GOk P [] := fun _ _ h => by cases h
theorem GOk.add {P : Program} {f : FuncId} {c : Ctr} {G : List (FuncId × Ctr)} (h : CtrOk P f c) (hG : GOk P G) : GOk P ((f, c) :: G) := fun g c' hl => by
  unfold look at hl
  split at hl
  · rename_i hb
    have := Nat.eq_of_beq_eq_true hb
    subst this
    obtain rfl := Option.some.inj hl
    exact h
  · exact hG g c' hl
theorem GOk.cons {P : Program} {f : FuncId} {c : PCtr} {G : List (FuncId × Ctr)} (h : PCtrOk P f c) (hG : GOk P G) : GOk P ((f, .p c) :: G) := GOk.add (c := .p c) h hG
theorem GOk.bcons {P : Program} {f : FuncId} {c : BCtr} {G : List (FuncId × Ctr)} (h : BCtrOk P f c) (hG : GOk P G) : GOk P ((f, .b c) :: G) := GOk.add (c := .b c) h hG
theorem GOk.lcons {P : Program} {f : FuncId} {c : LCtr} {G : List (FuncId × Ctr)} (h : LCtrOk P f c) (hG : GOk P G) : GOk P ((f, .l c) :: G) := GOk.add (c := .l c) h hG
theorem GOk.kcons {P : Program} {f : FuncId} {c : KCtr} {G : List (FuncId × Ctr)} (h : KCtrOk P f c) (hG : GOk P G) : GOk P ((f, .k c) :: G) := GOk.add (c := .k c) h hG
theorem GOk.rcons {P : Program} {f : FuncId} {c : BCtr} {G : List (FuncId × Ctr)} (h : RCtrOk P f c) (hG : GOk P G) : GOk P ((f, .r c) :: G) := GOk.add (c := .r c) h hG
theorem GOk.xcons {P : Program} {f : FuncId} {c : XCtr} {G : List (FuncId × Ctr)} (h : XCtrOk P f c) (hG : GOk P G) : GOk P ((f, .x c) :: G) := GOk.add (c := .x c) h hG
theorem GOk.mcons {P : Program} {f : FuncId} {c : MCtr} {G : List (FuncId × Ctr)} (h : MCtrOk P f c) (hG : GOk P G) : GOk P ((f, .m c) :: G) := GOk.add (c := .m c) h hG

end Go.Proofs.YtmbfflckgmdncaaDoor.Fw

/- The effects of the operations that are taken by themselves. -/
namespace Go.Proofs.YtmbfflckgmdncaaDoor.Fw
open Go Go.RowKit
set_option linter.unusedVariables false
set_option linter.unusedSimpArgs false

def copyK : List AVal → (List AVal → Prop) → Prop
  | [], k => k []
  | x :: l, k => copyK l fun l' => k (x :: l')
theorem copyK_eq : ∀ (l : List AVal) (k : List AVal → Prop), copyK l k = k l
  | [], _ => rfl
  | x :: l, k => by simp [copyK, copyK_eq l]

/-- the elements of a slice literal -/
def elems {α : Type} (fr : List AVal) (dec : List AVal → Option α) : Nat → List (Nat × Operand) → (List α → Prop) → Prop
  | _, [], k => k []
  | n, (i, x) :: l, k => match Nat.beq i n with
    | true => with1 fr x fun v => cellsA v fun cs => match dec cs with | some y => elems fr dec (n + 1) l fun ys => k (y :: ys) | none => False
    | false => False

def knownF (T : TypeId → Option TInfo) : List Field → Bool
  | [] => true
  | f :: l => match T f.type with | some _ => knownF T l | none => false

/-- the parts of a struct literal, over its zero value -/
def parts (T : TypeId → Option TInfo) (fr : List AVal) (fs : List Field) : List (Nat × Operand) → List AVal → (List AVal → Prop) → Prop
  | [], cs, k => k cs
  | (i, x) :: l, cs, k => match nth fs i with
    | some f => with1 fr x fun v => cellsA v fun vs => (match T f.type with
      | some ti => (match Nat.beq (lenN vs) ti.size with
        | true => over cs f.offset vs fun cs' => parts T fr fs l cs' k
        | false => False)
      | none => False)
    | none => False

def faddrA (v : AVal) (off : Nat) (k : AVal → Prop) : Prop :=
  match v with
  | .loc b o => numK (o + off) fun o' => k (.loc b o')
  | .ele r i o sz => numK (o + off) fun o' => k (.ele r i o' sz)
  | _ => False

/-- the elements of a slice literal whose elements are slices -/
def elemsB (fr : List AVal) : Nat → List (Nat × Operand) → (List AVal → Prop) → Prop
  | _, [], k => k []
  | n, (i, x) :: l, k => match Nat.beq i n with
    | true => with1 fr x fun v => (match v with
      | .row r => elemsB fr (n + 1) l fun vs => k (.row r :: vs)
      | .irow r j => elemsB fr (n + 1) l fun vs => k (.irow r j :: vs)
      | .raw (.slice none 0 0) => elemsB fr (n + 1) l fun vs => k (.raw (.slice none 0 0) :: vs)
      | .fn f a b => elemsB fr (n + 1) l fun vs => k (.fn f a b :: vs)
      | _ => False)
    | false => False

/-- Is a slice among the arguments that is no row? -/
def hasV : List AVal → Bool
  | [] => false
  | .vw _ _ _ _ :: _ => true
  | .irow _ _ :: _ => true
  | _ :: l => hasV l
def rgV (rg : Nat → Option Row) (m : Nat) (r : Row) : Nat → Option Row := fun i => match Nat.beq i m with | true => some r | false => rg i
/-- the arguments, each part of a row as a row of its own -/
def matz (rg : Nat → Option Row) : Nat → List AVal → (Nat → Option Row) → (List AVal → (Nat → Option Row) → Prop) → Prop
  | _, [], rg', k => k [] rg'
  | m, x :: l, rg', k => match x with
    | .vw r lo n sz => (match rg r with
      | some ⟨c, e, own, xs⟩ => (match c.isL, Nat.beq sz c.sz with
        | false, true => lo + n ≤ xs.length ∧ matz rg (m + 1) l (rgV rg' m ⟨c, e, false, (xs.drop lo).take n⟩) fun l' rg2 => k (.row m :: l') rg2
        | _, _ => False)
      | none => False)
    | .irow r i => (match rg r with
      | some ⟨.lst c e', e, own, yss⟩ => (match c.isL with
        | false => i < (@List.length (List c.α) yss) ∧ matz rg (m + 1) l (rgV rg' m ⟨c, e', false, @List.getD (List c.α) yss i []⟩) fun l' rg2 => k (.row m :: l') rg2
        | true => False)
      | _ => False)
    | x => matz rg m l rg' fun l' rg2 => k (x :: l') rg2

/-- a call under a contract -/
def callA (c : PCtr) (hg : Nat → Option (List AVal)) (rg : Nat → Option Row) (lb lr : Nat) (vs : List AVal) (k : Eff → Prop) : Prop :=
  match hasV vs with
  | false => c hg rg lr vs fun rows v => k ⟨none, rows, v⟩
  | true => (match scs lb [] lr [] vs with
    | true => matz rg (lr + 1000) vs rg fun vs' rg' => c hg rg' lr vs' fun rows v => (match Nat.ble (lenN rows) 1000 with
      | true => (match v.sc lb [] (lr + lenN rows) [] with | true => k ⟨none, rows, v⟩ | false => False)
      | false => False)
    | false => False)

/-- the bounds of a slice expression over n elements, m at most -/
def boundsK (fr : List AVal) (n m : Nat) (lo hi : Option Operand) (k : Nat → Nat → Prop) : Prop :=
  match lo, hi with
  | none, none => k 0 n
  | some lo, none => with1 fr lo fun l => (match l with | .int _ l => (0 ≤ l ∧ l ≤ (n : Int)) ∧ k l.toNat n | _ => False)
  | none, some hi => with1 fr hi fun h => (match h with | .int _ h => (0 ≤ h ∧ h ≤ (m : Int)) ∧ k 0 h.toNat | _ => False)
  | some lo, some hi => with1 fr lo fun l => with1 fr hi fun h => (match l, h with | .int _ l, .int _ h => (0 ≤ l ∧ l ≤ h ∧ h ≤ (m : Int)) ∧ k l.toNat h.toNat | _, _ => False)

/-! ### maps from pairs of texts to whole numbers -/
def entB (a b : ByteArray) (e : (ByteArray × ByteArray) × Int) : Bool := decide (a = e.1.1) && decide (b = e.1.2)
def valM (es : List ((ByteArray × ByteArray) × Int)) (a b : ByteArray) : Int := match es.find? (entB a b) with | some e => e.2 | none => 0
def hasM (es : List ((ByteArray × ByteArray) × Int)) (a b : ByteArray) : Bool := (es.find? (entB a b)).isSome
/-- Is it a struct of two texts? -/
def keyOk (T : TypeId → Option TInfo) (kt : TypeId) : Prop := match T kt with
  | some ki => (match ki.desc with
    | .struct fs => (match fs.toList with
      | [f0, f1] => (match T f0.type, T f1.type with
        | some i0, some i1 => (match i0.desc, i1.desc, i0.agg, i1.agg with
          | .string, .string, false, false => (match f0.offset, f1.offset with | 0, 1 => True | _, _ => False)
          | _, _, _, _ => False)
        | _, _ => False)
      | _ => False)
    | _ => False)
  | none => False
def eqKey (T : TypeId → Option TInfo) (kt : TypeId) (a b : ByteArray) : Prop := ∀ c d, eqV T 6 kt (.agg [.str a, .str b]) (.agg [.str c, .str d]) (fun r => r = (decide (a = c) && decide (b = d)))
/-- What a map's look-up has to meet. -/
def mapT (T : TypeId → Option TInfo) (t : TypeId) (a b : ByteArray) (k : Prop) : Prop := match T t with
  | some ti => (match ti.desc with
    | .map kt et => (match T et with
      | some ei => (match ei.zero, ei.agg with
        | [.int .i64 z], false => (z = 0 ∧ keyOk T kt ∧ eqKey T kt a b) ∧ k
        | _, _ => False)
      | none => False)
    | _ => False)
  | none => False

def opEff (T : TypeId → Option TInfo) (G : List (FuncId × Ctr)) (hg : Nat → Option (List AVal)) (rg : Nat → Option Row) (lb lr : Nat) (fr : List AVal) (o : Op) (k : Eff → Prop) : Prop :=
  match o with
  | .move x => with1 fr x fun v => k (val v)
  | .assign x => with1 fr x fun v => k (val v)
  | .pick c a b => with1 fr c fun c => match c with
    | .bool b0 => bcond b0 (with1 fr a fun v => k (val v)) (with1 fr b fun v => k (val v))
    | _ => False
  | .alloc t => match T t with | some i => copyK i.zero fun z => k ⟨some z, [], .loc lb 0⟩ | none => False
  | .box _ x => with1 fr x fun v => cellsA v fun cs => (match mapOf cs with | none => k ⟨some cs, [], .loc lb 0⟩ | some _ => False)
  | .build t ps => match T t with
    | some i => match i.desc with
      | .struct fs => (match knownF T fs.toList with
        | true => copyK i.zero fun z => parts T fr fs.toList ps.toList z fun cs => k (val (.agg cs))
        | false => False)
      | _ => False
    | none => False
  | .buildSlice t n ps => match T t with
    | some i => match i.desc with
      | .slice e => match T e with
        | some ie => match ie.ty with
          | some c => elems fr c.dec 0 ps.toList fun xs => (match Nat.beq (lenN xs) n with
            | true => n * ie.size ≤ 16777216 ∧ k ⟨none, [⟨c, e, true, xs⟩], .row lr⟩
            | false => False)
          | none => (match ie.size, ie.desc with
            | 1, .slice e2 => (match ps.toList, n with
              | [], 0 => (match T e2 with
                | some i2 => (match i2.ty with
                  | some c => k ⟨none, [⟨.lst c e2, e, true, @List.nil (List c.α)⟩], .row lr⟩
                  | none => False)
                | none => False)
              | l, n => elemsB fr 0 l fun cs => (match Nat.beq (lenN cs) n with
                | true => (match mapOf cs with | none => n * 1 ≤ 16777216 ∧ k ⟨some cs, [], .bsl lb n⟩ | some _ => False)
                | false => False))
            | 1, .func _ _ _ => elemsB fr 0 ps.toList fun cs => (match Nat.beq (lenN cs) n with
                | true => (match mapOf cs with | none => n * 1 ≤ 16777216 ∧ k ⟨some cs, [], .bsl lb n⟩ | some _ => False)
                | false => False)
            | _, _ => False)
        | none => False
      | _ => False
    | none => False
  | .load t x => with1 fr x fun v => match T t with | some i => ldA hg rg i.agg i.size v fun u => k (val u) | none => False
  | .fieldAddr s x f => with1 fr x fun v => match T s with
    | some i => fieldA i f fun fd => (match T fd.type with
      | some fi => (match fi.size with
        | 0 => False
        | _ + 1 => faddrA v fd.offset fun u => k (val u))
      | none => False)
    | none => False
  | .field s x f => with1 fr x fun v => match v with
    | .agg cs => (match T s with
      | some i => fieldA i f fun fd => (match T fd.type with | some fi => partA fi.agg fi.size cs fd.offset fun u => k (val u) | none => False)
      | none => False)
    | _ => False
  | .indexAddr t x i => with1 fr x fun v => with1 fr i fun n => match n with
    | .int _ n => (match T t with
      | some ti => (match ti.desc with
        | .slice e' => (match T e' with
          | some ei => (match v with
            | .row r => (match rg r with
              | some ⟨c, e, own, xs⟩ => (match Nat.beq ei.size c.sz with | true => (0 ≤ n ∧ n < (xs.length : Int)) ∧ k (val (.ele r n.toNat 0 ei.size)) | false => False)
              | none => False)
            | .vw r lo m sz => (match rg r with
              | some ⟨c, e, own, xs⟩ => (match Nat.beq ei.size c.sz, Nat.beq sz c.sz with | true, true => (0 ≤ n ∧ n < (m : Int) ∧ lo + m ≤ xs.length) ∧ k (val (.ele r (lo + n.toNat) 0 ei.size)) | _, _ => False)
              | none => False)
            | .irow r i => (match rg r with
              | some ⟨.lst c e1, e, own, yss⟩ => (match Nat.beq ei.size c.sz with | true => (0 ≤ n ∧ n < ((@List.getD (List c.α) yss i []).length : Int) ∧ i < (@List.length (List c.α) yss)) ∧ k (val (.iele r i n.toNat 0 ei.size)) | false => False)
              | _ => False)
            | .bsl b m => (match ei.size with
              | 1 => (0 ≤ n ∧ n < (m : Int)) ∧ numK n.toNat fun o => k (val (.loc b o))
              | _ => False)
            | _ => False)
          | none => False)
        | _ => False)
      | none => False)
    | _ => False
  | .index t x i => with1 fr x fun v => with1 fr i fun n => match v, n with
    | .str s, .int _ n => (match T t with
      | some ti => (match ti.desc with | .string => (0 ≤ n ∧ n < (s.size : Int)) ∧ k (val (.int .u8 (byteAt s n.toNat : Int))) | _ => False)
      | none => False)
    | _, _ => False
  | .binOp op t x y _ => with1 fr x fun v => with1 fr y fun u => match v, u with
    | .agg xs, .agg ys => (match op with
      | .eql => eqV T 6 t (.agg xs) (.agg ys) fun r => k (val (.bool r))
      | .neq => eqV T 6 t (.agg xs) (.agg ys) fun r => k (val (.bool (!r)))
      | _ => False)
    | .bool a, .bool b => (match op with
      | .eql => eqV T 6 t (.bool a) (.bool b) fun r => k (val (.bool r))
      | .neq => eqV T 6 t (.bool a) (.bool b) fun r => k (val (.bool (!r)))
      | _ => False)
    | v, u => evBin (wfT T t) op v u fun r => k (val r)
  | .unOp op t x => with1 fr x fun v => evUn (wfT T t) op v fun r => k (val r)
  | .convert s d x => with1 fr x fun v => (match T s with
    | some si => (match T d with
      | some di => (match di.desc, v with
        | .int kd, .int _ n => Rng kd n ∧ k (val (.int kd n))
        | .string, .row r => (match si.desc with
          | .slice e => (match T e with
            | some ei => (match ei.desc with
              | .int .u8 => (match rg r with | some ⟨.int .u8, _, _, xs⟩ => k (val (.str (strOfNums xs))) | _ => False)
              | _ => False)
            | none => False)
          | _ => False)
        | .string, .vw r lo n 1 => (match si.desc with
          | .slice e => (match T e with
            | some ei => (match ei.desc with
              | .int .u8 => (match rg r with | some ⟨.int .u8, _, _, xs⟩ => lo + n ≤ (@List.length Int xs) ∧ k (val (.str (strOfNums ((@List.drop Int lo xs).take n)))) | _ => False)
              | _ => False)
            | none => False)
          | _ => False)
        | .slice e, .str b => (match T e with
          | some ei => (match ei.desc with
            | .int .u8 => (match si.desc with | .string => b.size ≤ 9223372036854775807 ∧ k ⟨none, [⟨.int .u8, e, false, b.data.toList.map fun x => (x.toNat : Int)⟩], .row lr⟩ | _ => False)
            | _ => False)
          | none => False)
        | _, _ => False)
      | none => False)
    | none => False)
  | .makeFunc (.func f) first cap => withs fr first.toList fun fs => withs fr cap.toList fun cs => k (val (.fn f fs cs))
  | .extract x n => with1 fr x fun v => match v with
    | .tup vs => (match nth vs n with | some u => k (val u) | none => False)
    | _ => False
  | .slice t x lo hi none => with1 fr x fun v => match v with
    | .str s => (match T t with
      | some ti => (match ti.desc with
        | .string => (match lo, hi with
          | none, none => k (val (.str (s.extract 0 s.size)))
          | some lo, none => with1 fr lo fun l => (match l with | .int _ l => (0 ≤ l ∧ l ≤ (s.size : Int)) ∧ k (val (.str (s.extract l.toNat s.size))) | _ => False)
          | none, some hi => with1 fr hi fun h => (match h with | .int _ h => (0 ≤ h ∧ h ≤ (s.size : Int)) ∧ k (val (.str (s.extract 0 h.toNat))) | _ => False)
          | some lo, some hi => with1 fr lo fun l => with1 fr hi fun h => (match l, h with | .int _ l, .int _ h => (0 ≤ l ∧ l ≤ h ∧ h ≤ (s.size : Int)) ∧ k (val (.str (s.extract l.toNat h.toNat))) | _, _ => False))
        | _ => False)
      | none => False)
    | .row r => (match T t with
      | some ti => (match ti.desc with
        | .slice e' => (match T e' with
          | some ei => (match rg r with
            | some ⟨c, e, own, xs⟩ => (match c.isL, Nat.beq ei.size c.sz with
              | false, true => (match own with
                | false => boundsK fr xs.length xs.length lo hi fun l h => k ⟨none, [⟨c, e, false, (xs.take h).drop l⟩], .row lr⟩
                | true => boundsK fr xs.length xs.length lo hi fun l h => k (val (.vw r l (h - l) ei.size)))
              | _, _ => False)
            | none => False)
          | none => False)
        | _ => False)
      | none => False)
    | .vw r a n sz => (match T t with
      | some ti => (match ti.desc with
        | .slice e' => (match T e' with
          | some ei => (match rg r with
            | some ⟨c, e, own, xs⟩ => (match c.isL, Nat.beq ei.size c.sz, Nat.beq sz c.sz with
              | false, true, true => a + n ≤ xs.length ∧ boundsK fr n (xs.length - a) lo hi fun l h => (l = 0 ∨ a = 0 ∨ a + l < xs.length) ∧ k (val (.vw r (a + l) (h - l) ei.size))
              | _, _, _ => False)
            | none => False)
          | none => False)
        | _ => False)
      | none => False)
    | _ => False
  | .makeSlice t l c => with1 fr l fun l => with1 fr c fun c' => match l, c' with
    | .int _ n, .int _ m => (match T t with
      | some i => (match i.desc with
        | .slice e => (match T e with
          | some ie => (match ie.ty with
            | some c => (0 ≤ n ∧ m = n ∧ (ie.bytes : Int) * n ≤ 281474976710656 ∧ n ≤ 9223372036854775807) ∧ k ⟨none, [⟨c, e, true, List.replicate n.toNat c.dflt⟩], .row lr⟩
            | none => (match ie.desc with
              | .slice e2 => (match T e2 with
                | some ie2 => (match ie2.ty with
                  | some c => (match ie.zero with
                    | [.raw (.slice none 0 0)] => (0 ≤ n ∧ m = n ∧ (ie.bytes : Int) * n ≤ 281474976710656 ∧ n ≤ 9223372036854775807) ∧ k ⟨none, [⟨.lst c e2, e, true, @List.replicate (List c.α) n.toNat []⟩], .row lr⟩
                    | _ => False)
                  | none => False)
                | none => False)
              | _ => False))
          | none => False)
        | _ => False)
      | none => False)
    | _, _ => False
  | .nilCheck x => with1 fr x fun v => match v with
    | .loc b o => k (val (.loc b o))
    | _ => False
  | .call { callee := .value f, args, argTypes } => with1 fr f fun g => withs fr args.toList fun vs => (match g with
    | .fn g fs cs => (match look G g with
      | some (.p c) => callA c hg rg lb lr (fs ++ (vs ++ cs)) k
      | some (.b c) => c hg rg lb lr (fs ++ (vs ++ cs)) fun box rows v => k ⟨box, rows, v⟩
      | _ => False)
    | _ => False)
  | .makeMap t none => match T t with
    | some ti => (match ti.desc with
      | .map _ _ => k ⟨some [.mps []], [], .mpr lb⟩
      | _ => False)
    | none => False
  | .lookup t x i true => with1 fr x fun v => with1 fr i fun key => (match v, key with
    | .mpr b, .agg [.str p, .str q] => (match hg b with
      | some cs => (match mapOf cs with
        | some es => mapT T t p q (k (val (.tup [.int .i64 (valM es p q), .bool (hasM es p q)])))
        | none => False)
      | none => False)
    | _, _ => False)
  | .call { callee := .builtin .len, args, argTypes } => withs fr args.toList fun vs => (match vs with
    | [v] => (match nth argTypes.toList 0 with
      | some t => (match T t with
        | some ti => (match v, ti.desc with
          | .row r, .slice _ => (match rg r with
            | some ⟨c, e, own, xs⟩ => k (val (.int .i64 (xs.length : Int)))
            | none => False)
          | .vw r lo n sz, .slice _ => k (val (.int .i64 (n : Int)))
          | .bsl i n, .slice _ => k (val (.int .i64 (n : Int)))
          | .irow r i, .slice _ => (match rg r with
            | some ⟨.lst c e1, e, own, yss⟩ => i < (@List.length (List c.α) yss) ∧ k (val (.int .i64 ((@List.getD (List c.α) yss i []).length : Int)))
            | _ => False)
          | .str s, .string => k (val (.int .i64 (s.size : Int)))
          | .raw (.slice none 0 0), .slice _ => k (val (.int .i64 0))
          | _, _ => False)
        | none => False)
      | none => False)
    | _ => False)
  | .call { callee := .builtin .min, args, argTypes } => withs fr args.toList fun vs => (match vs with
    | [.int a x, .int b y] => (match sameK a b with | true => k (val (.int a (if y < x then y else x))) | false => False)
    | _ => False)
  | .call { callee := .builtin .max, args, argTypes } => withs fr args.toList fun vs => (match vs with
    | [.int a x, .int b y] => (match sameK a b with | true => k (val (.int a (if y > x then y else x))) | false => False)
    | _ => False)
  | _ => False

end Go.Proofs.YtmbfflckgmdncaaDoor.Fw

/- The walk: what is to be shown of a piece of code from a symbolic state, found by reckoning. -/
namespace Go.Proofs.YtmbfflckgmdncaaDoor.Fw
open Go Go.RowKit
set_option linter.unusedVariables false
set_option linter.unusedSimpArgs false

def At (E : Env) (Q : Exit → Act → World → Prop) (e : Exit) (σ : St) : Prop := ∀ A a w, Sat E A σ a w → Q e a w

/-- What is left to do of a list of operations. -/
structure VO (E : Env) (all rest : List Oper) (σ : St) (kN : St → Prop) : Prop where
  out : ∀ Q : Exit → Act → World → Prop, (∀ σ', kN σ' → At E Q .normal σ') → ∀ A a w, Sat E A σ a w → wpList E.P all.toArray Q rest a w

/-- What is left to do of a piece of code. -/
structure V (E : Env) (c : Code) (kN : St → Prop) (kE : Nat → St → Prop) (kR : St → Prop) (σ : St) : Prop where
  out : ∀ Q : Exit → Act → World → Prop, (∀ σ', kN σ' → At E Q .normal σ') → (∀ i σ', kE i σ' → At E Q (.exit i) σ') → (∀ σ', kR σ' → At E Q .ret σ') →
    ∀ A a w, Sat E A σ a w → c.wp E.P Q a w

def pushO (l : List (Option (List AVal))) (x : Option (List AVal)) (k : List (Option (List AVal)) → Prop) : Prop :=
  match x with
  | none => k l
  | some x => pushK l (some x) k

def pushR : List (Option Row) → List Row → (List (Option Row) → Prop) → Prop
  | l, [], k => k l
  | l, r :: rs, k => pushK l (some r) fun l' => pushR l' rs k

/-- the state behind an operation's effect -/
def putE (σ : St) (dst : Option Tmp) (e : Eff) (k : St → Prop) : Prop :=
  match σ, e with
  | ⟨fr, hp, rows⟩, ⟨box, rs, v⟩ =>
    pushO hp box fun hp' => pushR rows rs fun rows' =>
      match v.sc (lenN hp') [] (lenN rows') [] with
      | true => (match (match box with | some cs => scs (lenN hp) [] (lenN rows') [] cs | none => true) with
        | true => (match dst with
          | none => k ⟨fr, hp', rows'⟩
          | some d => setK fr d v fun fr' => k ⟨fr', hp', rows'⟩)
        | false => False)
      | false => False

/-- Is an operation taken by itself? -/
def auto (G : List (FuncId × Ctr)) (fr : List AVal) : Op → Bool
  | .move _ | .assign _ | .pick _ _ _ | .alloc _ | .box _ _ | .build _ _ | .buildSlice _ _ _ | .load _ _ | .fieldAddr _ _ _ | .field _ _ _ | .indexAddr _ _ _ | .index _ _ _
  | .binOp _ _ _ _ _ | .unOp _ _ _ | .convert _ _ _ | .extract _ _ | .makeFunc (.func _) _ _ | .nilCheck _ | .makeSlice _ _ _ | .makeMap _ none | .lookup _ _ _ true => true
  | .slice _ x _ _ none => match ev fr x with | some (.str _) => true | some (.row _) => true | some (.vw _ _ _ _) => true | _ => false
  | .call { callee := .value f, .. } => match ev fr f with | some (.fn g _ _) => (match look G g with | some (.p _) => true | some (.b _) => true | _ => false) | _ => false
  | .call { callee := .builtin .len, .. } | .call { callee := .builtin .min, .. } | .call { callee := .builtin .max, .. } => true
  | _ => false

def AVal.one : AVal → Bool
  | .agg _ | .tup _ | .mps _ | .junk => false
  | .raw v => v.oneCell'
  | _ => true
def allOne : List AVal → Bool
  | [] => true
  | x :: l => match x.one with | true => allOne l | false => false

/-- what a row's level becomes -/
def setRowK (rows : List (Option Row)) (r : Nat) (x : Option Row) (k : List (Option Row) → Prop) : Prop := setK rows r x k

/-- a store into a box, into a row -/
def stA (T : TypeId → Option TInfo) (ow : Nat → Bool) (σ : St) (t : TypeId) (x v : Operand) (k : St → Prop) : Prop :=
  match σ with
  | ⟨fr, hp, rows⟩ => with1 fr x fun x => with1 fr v fun v => match x with
    | .loc i off => (match ow i with
      | true => (match nthj hp i with
        | some cs => (match T t with
          | some ti => cellsA v fun vs => (match Nat.beq (lenN vs) ti.size with
            | true => (match allOne vs with
              | true => over cs off vs fun cs' => (match mapOf cs, mapOf cs' with
                | none, none => setK hp i (some cs') fun hp' => k ⟨fr, hp', rows⟩
                | _, _ => False)
              | false => False)
            | false => False)
          | none => False)
        | none => False)
      | false => False)
    | .ele r i off sz => (match nthj rows r with
      | some ⟨c, e, true, xs⟩ => (match T t with
        | some ti => (match c.isL with
          | false => cellsA v fun vs => (match Nat.beq (lenN vs) ti.size with
            | true => (match Nat.beq sz c.sz with
              | true => over (c.enc (xs.getD i c.dflt)) off vs fun cs' => (match c.dec cs' with
                | some x' => i < xs.length ∧ EqK (xs.set i x') fun ys => setK rows r (some ⟨c, e, true, ys⟩) fun rows' => k ⟨fr, hp, rows'⟩
                | none => False)
              | false => False)
            | false => False)
          | true => False)
        | none => False)
      | _ => False)
    | .iele r i j off sz => (match nthj rows r with
      | some ⟨.lst c e', e, true, yss⟩ => (match T t with
        | some ti => (match c.isL with
          | false => cellsA v fun vs => (match Nat.beq (lenN vs) ti.size with
            | true => (match Nat.beq sz c.sz with
              | true => over (c.enc ((@List.getD (List c.α) yss i []).getD j c.dflt)) off vs fun cs' => (match c.dec cs' with
                | some x' => (i < (@List.length (List c.α) yss) ∧ j < (@List.getD (List c.α) yss i []).length) ∧ EqK (@List.set (List c.α) yss i ((@List.getD (List c.α) yss i []).set j x')) fun zss => setK rows r (some ⟨.lst c e', e, true, zss⟩) fun rows' => k ⟨fr, hp, rows'⟩
                | none => False)
              | false => False)
            | false => False)
          | true => False)
        | none => False)
      | _ => False)
    | _ => False

-- Does a value name no row in the row of rows r?
mutual
def AVal.noI (r : Nat) : AVal → Bool
  | .irow k _ | .iele k _ _ _ _ => match Nat.beq k r with | true => false | false => true
  | .agg cs => noIs r cs
  | .tup vs => noIs r vs
  | .fn _ fs cs => match noIs r fs with | true => noIs r cs | false => false
  | .loc _ _ | .bsl _ _ | .mpr _ | .mps _ | .ele _ _ _ _ | .row _ | .vw _ _ _ _ | .int _ _ | .bool _ | .str _ | .raw _ | .junk => true
def noIs (r : Nat) : List AVal → Bool
  | [] => true
  | x :: l => match x.noI r with | true => noIs r l | false => false
end
def cleanI (r : Nat) : List AVal → (List AVal → Prop) → Prop
  | [], k => k []
  | x :: l, k => match x.noI r with | true => cleanI r l fun l' => k (x :: l') | false => cleanI r l fun l' => k (.junk :: l')
def noIb (r : Nat) : List (Option (List AVal)) → Bool
  | [] => true
  | none :: l => noIb r l
  | some c :: l => match noIs r c with | true => noIb r l | false => false

/-- a row put into a row of rows: it is a level of its own no more; the row of rows lies at a new level -/
def putA (T : TypeId → Option TInfo) (n0 : Nat) (σ : St) (t : TypeId) (x v : Operand) (k : St → Prop) : Prop :=
  match σ with
  | ⟨fr, hp, rows⟩ => with1 fr x fun x => with1 fr v fun v => match x, v with
    | .ele r i 0 1, .row j => (match Nat.beq r j, Nat.ble n0 r with
      | false, true => (match nthj rows r, nthj rows j with
        | some ⟨.lst c e', e, true, yss⟩, some ⟨c2, e2, true, ys⟩ => (match T t with
          | some ti => (match c.isL, ti.size, Nat.beq e2 e' with
            | false, 1, true => (match h : TyC.same c2 c with
              | true => castK (TyC.same_eq h) ys fun ys => i < (@List.length (List c.α) yss) ∧ EqK (@List.set (List c.α) yss i ys) fun zss => setK rows r (some ⟨.lst c e', e, true, zss⟩) fun rows' => setK rows' j none fun rows' => (match noIb r hp with | true => cleanI r fr fun fr' => k ⟨fr', hp, rows'⟩ | false => False)
              | false => False)
            | _, _, _ => False)
          | none => False)
        | _, _ => False)
      | _, _ => False)
    | _, _ => False

/-- what is appended -/
def srcA (rows : List (Option Row)) (c : TyC) (x : AVal) (k : List c.α → Prop) : Prop :=
  match x with
  | .row r => (match nthj rows r with
    | some ⟨c', _, _, ys⟩ => (match h : TyC.same c' c with | true => castK (TyC.same_eq h) ys k | false => False)
    | none => False)
  | .vw r lo n sz => (match nthj rows r with
    | some ⟨c', _, _, ys⟩ => (match Nat.beq sz c'.sz with
      | true => (match h : TyC.same c' c with | true => castK (TyC.same_eq h) ys fun ys => lo + n ≤ ys.length ∧ k ((ys.drop lo).take n) | false => False)
      | false => False)
    | none => False)
  | .raw (.slice none 0 0) => k []
  | _ => False
/-- to what it is appended -/
def dstA (rows : List (Option Row)) (c : TyC) (e : TypeId) (s : AVal) (k : List (Option Row) → List c.α → Prop) : Prop :=
  match s with
  | .row r => (match nthj rows r with
    | some ⟨c', e', true, xs⟩ => (match Nat.beq e' e with
      | true => (match h : TyC.same c' c with | true => castK (TyC.same_eq h) xs fun xs => setK rows r none fun rows' => k rows' xs | false => False)
      | false => False)
    | _ => False)
  | .vw r lo n sz => (match nthj rows r with
    | some ⟨c', e', true, xs⟩ => (match Nat.beq e' e with
      | true => (match lo with
        | 0 => (match c'.isL, Nat.beq sz c'.sz with
          | false, true => (match h : TyC.same c' c with | true => castK (TyC.same_eq h) xs fun xs => n ≤ xs.length ∧ setK rows r none fun rows' => k rows' (xs.take n) | false => False)
          | _, _ => False)
        | _ + 1 => False)
      | false => False)
    | _ => False)
  | .raw (.slice none 0 0) => k rows []
  | _ => False
/-- rows that are put into a row of rows -/
def takeR (c : TyC) (e' : TypeId) : List (Option Row) → List AVal → (List (Option Row) → List (List c.α) → Prop) → Prop
  | rows, [], k => k rows []
  | rows, .row r :: l, k => (match nthj rows r with
    | some ⟨c', e2, true, ys⟩ => (match Nat.beq e2 e' with
      | true => (match h : TyC.same c' c with | true => castK (TyC.same_eq h) ys fun ys => setK rows r none fun rows' => takeR c e' rows' l fun rows2 yss => k rows2 (ys :: yss) | false => False)
      | false => False)
    | _ => False)
  | rows, .irow r i :: l, k => (match nthj rows r with
    | some ⟨.lst c' e2, _, true, yss⟩ => (match Nat.beq e2 e' with
      | true => (match h : TyC.same (.lst c' e2) (.lst c e2) with
        | true => castK (TyC.same_eq h) yss fun (yss : List (List c.α)) => i < yss.length ∧ setK rows r none fun rows' => takeR c e' rows' l fun rows2 zss => k rows2 (yss.getD i [] :: zss)
        | false => False)
      | false => False)
    | _ => False)
  | rows, .raw (.slice none 0 0) :: l, k => takeR c e' rows l fun rows2 yss => k rows2 ([] :: yss)
  | _, _, _ => False
/-- the slots of a row that was put into a row of rows -/
def reV (r nr i : Nat) (x : AVal) : AVal := match x with
  | .row q => (match Nat.beq q r with | true => .irow nr i | false => .row q)
  | x => x
def reK (r nr i : Nat) : List AVal → (List AVal → Prop) → Prop
  | [], k => k []
  | x :: l, k => match x with
    | .row q => (match Nat.beq q r with | true => reK r nr i l fun l' => k (.irow nr i :: l') | false => reK r nr i l fun l' => k (.row q :: l'))
    | x => reK r nr i l fun l' => k (x :: l')
theorem reK_eq (r nr i : Nat) : ∀ (l : List AVal) (k : List AVal → Prop), reK r nr i l k = k (l.map (reV r nr i))
  | [], _ => rfl
  | x :: l, k => by
    unfold reK
    split
    · rename_i q
      simp only [List.map_cons, reV]
      split <;> simp only [reK_eq r nr i l]
    · rename_i hx
      rw [reK_eq r nr i l, List.map_cons]
      have : reV r nr i x = x := by cases x <;> first | rfl | exact (hx _ rfl).elim
      rw [this]
def reS (fl : Bool) (cs : List AVal) (nr n : Nat) (fr : List AVal) (k : List AVal → Prop) : Prop :=
  match fl with
  | false => k fr
  | true => (match cs with | [.row r] => reK r nr n fr k | _ => False)
/-- Is an operation one that a function's walk was told to take in the other way? -/
def flB (E : Env) (o : Oper) : Bool := match o.op, o.dst with | .buildSlice _ _ _, some d => E.tn (1000000 + d) | _, _ => false
/-- a literal of one slice, taken as a row of rows -/
def litA (T : TypeId → Option TInfo) (σ : St) (o : Op) (dst : Option Tmp) (k : St → Prop) : Prop :=
  match σ with
  | ⟨fr, hp, rows⟩ => match o, dst with
  | .buildSlice t n ps, some d => (match T t with
    | some ti => (match ti.desc with
      | .slice e => (match T e with
        | some ei => (match ei.desc, ei.size with
          | .slice e', 1 => (match T e' with
            | some ei' => (match ei'.ty with
              | some c => (match c.isL, ps.toList, n with
                | false, [(0, x)], 1 => with1 fr x fun x => (match x with
                  | .row r => takeR c e' rows [.row r] fun rows1 zss => lenK rows fun nr => pushK rows1 (some ⟨.lst c e', e, true, zss⟩) fun rows2 => setK fr d (.row nr) fun fr1 => reK r nr 0 fr1 fun fr2 => k ⟨fr2, hp, rows2⟩
                  | _ => False)
                | _, _, _ => False)
              | none => False)
            | none => False)
          | _, _ => False)
        | none => False)
      | _ => False)
    | none => False)
  | _, _ => False
/-- an append: the row it goes to is gone, a new one is there -/
def appA (fl : Bool) (T : TypeId → Option TInfo) (σ : St) (t : TypeId) (s x : Operand) (d : Nat) (k : St → Prop) : Prop :=
  match σ with
  | ⟨fr, hp, rows⟩ => with1 fr s fun s => with1 fr x fun x => (match T t with
    | some ti => (match ti.desc with
      | .slice e => (match T e with
        | some ei => (match ei.ty with
          | some c => (match c.isL with
            | false => dstA rows c e s fun rows1 xs => srcA rows c x fun ys =>
              ((xs.length : Int) + ys.length ≤ 9223372036854775807 ∧ ((xs.length : Int) + ys.length) * ei.bytes ≤ 140737488355328) ∧
              EqK (xs ++ ys) fun zs => lenK rows fun nr => pushK rows1 (some ⟨c, e, true, zs⟩) fun rows2 => setK fr d (.row nr) fun fr' => k ⟨fr', hp, rows2⟩
            | true => False)
          | none => (match ei.desc, ei.size with
            | .slice e', 1 => (match T e' with
              | some ei' => (match ei'.ty with
                | some c => (match c.isL with
                  | false => (match x with
                    | .bsl b m => (match nthj hp b with
                      | some cs => (match (match mapOf cs with | none => Nat.beq (lenN cs) m | some _ => false) with
                        | true => dstA rows (.lst c e') e s fun rows1 yss => takeR c e' rows1 cs fun rows2 zss =>
                          ((List.length (α := List c.α) yss : Int) + zss.length ≤ 9223372036854775807 ∧ ((List.length (α := List c.α) yss : Int) + zss.length) * ei.bytes ≤ 140737488355328) ∧
                          EqK (List.append (α := List c.α) yss zss) fun xss => lenK rows fun nr => pushK rows2 (some ⟨.lst c e', e, true, xss⟩) fun rows3 => setK fr d (.row nr) fun fr1 => reS fl cs nr (List.length (α := List c.α) yss) fr1 fun fr' => k ⟨fr', hp, rows3⟩
                        | false => False)
                      | none => False)
                    | _ => False)
                  | true => False)
                | none => False)
              | none => False)
            | _, _ => False))
        | none => False)
      | _ => False)
    | none => False)

/-- an append in place: what is appended lies within the row -/
def appI (T : TypeId → Option TInfo) (σ : St) (t : TypeId) (s x : Operand) (d : Nat) (k : St → Prop) : Prop :=
  match σ with
  | ⟨fr, hp, rows⟩ => with1 fr s fun s => with1 fr x fun x => (match T t with
    | some ti => (match ti.desc with
      | .slice e => (match T e with
        | some ei => (match s with
          | .vw r lo n sz => (match nthj rows r with
            | some ⟨c, e1, true, xs⟩ => (match c.isL, Nat.beq sz c.sz, Nat.beq ei.size c.sz with
              | false, true, true => srcA rows c x fun ys => lo + n + ys.length ≤ xs.length ∧ EqK (xs.take (lo + n) ++ (ys ++ xs.drop (lo + n + ys.length))) fun zs =>
                setK rows r (some ⟨c, e1, true, zs⟩) fun rows' => setK fr d (.vw r lo (n + ys.length) sz) fun fr' => k ⟨fr', hp, rows'⟩
              | _, _, _ => False)
            | _ => False)
          | _ => False)
        | none => False)
      | _ => False)
    | none => False)
/-- a slice expression with three bounds, whose value is not looked at -/
def sl3A (T : TypeId → Option TInfo) (σ : St) (t : TypeId) (x lo hi mx : Operand) (d : Nat) (k : St → Prop) : Prop :=
  match σ with
  | ⟨fr, hp, rows⟩ => with1 fr x fun x => with1 fr lo fun l => with1 fr hi fun h => with1 fr mx fun m => (match l, h, m with
    | .int _ l, .int _ h, .int _ m => (match T t with
      | some ti => (match ti.desc with
        | .slice e => (match T e with
          | some _ => (match x with
            | .row r => (match nthj rows r with
              | some ⟨c, e1, own, xs⟩ => (0 ≤ l ∧ l ≤ h ∧ h ≤ m ∧ m ≤ (xs.length : Int)) ∧ setK fr d .junk fun fr' => k ⟨fr', hp, rows⟩
              | none => False)
            | .vw r a n sz => (match nthj rows r with
              | some ⟨c, e1, own, xs⟩ => (0 ≤ l ∧ l ≤ h ∧ h ≤ m ∧ m ≤ (n : Int) ∧ a + n ≤ xs.length) ∧ setK fr d .junk fun fr' => k ⟨fr', hp, rows⟩
              | none => False)
            | _ => False)
          | none => False)
        | _ => False)
      | none => False)
    | _, _, _ => False)

/-- clear of a part of a row -/
def clrA (T : TypeId → Option TInfo) (σ : St) (t : TypeId) (x : Operand) (dst : Option Tmp) (k : St → Prop) : Prop :=
  match σ with
  | ⟨fr, hp, rows⟩ => with1 fr x fun x => (match T t with
    | some ti => (match ti.desc with
      | .slice e => (match T e with
        | some ei => (match x with
          | .vw r lo n sz => (match nthj rows r with
            | some ⟨c, e1, true, xs⟩ => (match h : ei.ty with
              | some c' => (match c.isL, TyC.same c' c, Nat.beq sz c.sz with
                | false, true, true => lo + n ≤ xs.length ∧ EqK (xs.take lo ++ (List.replicate n c.dflt ++ xs.drop (lo + n))) fun ys => setK rows r (some ⟨c, e1, true, ys⟩) fun rows' => (match dst with
                  | none => k ⟨fr, hp, rows'⟩
                  | some d => setK fr d (.raw (.tuple #[])) fun fr' => k ⟨fr', hp, rows'⟩)
                | _, _, _ => False)
              | none => False)
            | _ => False)
          | _ => False)
        | none => False)
      | _ => False)
    | none => False)

/-- the rows behind a call that turns rows -/
def upsK : List (Nat × Option Row) → List (Option Row) → (List (Option Row) → Prop) → Prop
  | [], rows, k => k rows
  | (i, u) :: l, rows, k => setK rows i u fun rows' => upsK l rows' k
def bcallA (c : BCtr) (fr : List AVal) (hp : List (Option (List AVal))) (rows : List (Option Row)) (vs : List AVal) (dst : Option Tmp) (k : St → Prop) : Prop :=
  lenK hp fun nb => lenK rows fun nr => c (nthj hp) (nthj rows) nb nr vs fun box new v => pushO hp box fun hp2 => pushR rows new fun rows2 =>
    match v.sc (lenN hp2) [] (lenN rows2) [] with
    | true => (match (match box with | some cs => scs (lenN hp) [] (lenN rows2) [] cs | none => true) with
      | true => (match dst with
        | none => k ⟨fr, hp2, rows2⟩
        | some d => setK fr d v fun fr' => k ⟨fr', hp2, rows2⟩)
      | false => False)
    | false => False
def mcallM (c : MCtr) (fr : List AVal) (hp : List (Option (List AVal))) (rows : List (Option Row)) (vs : List AVal) (dst : Option Tmp) (k : St → Prop) : Prop :=
  lenK rows fun nr => c (nthj hp) (nthj rows) nr vs fun ups new v => upsK ups rows fun rows1 => pushR rows1 new fun rows2 =>
    (match v.sc (lenN hp) [] (lenN rows2) [] with
    | true => (match dst with
      | none => k ⟨fr, hp, rows2⟩
      | some d => setK fr d v fun fr' => k ⟨fr', hp, rows2⟩)
    | false => False)
def putD (fr : List AVal) (hp : List (Option (List AVal))) (rows : List (Option Row)) (dst : Option Tmp) (v : AVal) (k : St → Prop) : Prop :=
  match dst with
  | none => k ⟨fr, hp, rows⟩
  | some d => setK fr d v fun fr' => k ⟨fr', hp, rows⟩
def rgI (rg : Nat → Option Row) (r m : Nat) (x : Row) : Nat → Option Row := fun i => match Nat.beq i m with | true => some x | false => (match Nat.beq i r with | true => none | false => rg i)
/-- a call that turns a row in a row of rows -/
def mcallV (c : MCtr) (fr : List AVal) (hp : List (Option (List AVal))) (rows : List (Option Row)) (vs : List AVal) (dst : Option Tmp) (k : St → Prop) : Prop :=
  match vs with
  | .irow r i :: vs' => (match hasV vs', scs (lenN hp) [] (lenN rows) [] vs', nthj rows r with
    | false, true, some ⟨.lst c0 e', e, true, yss⟩ => (match c0.isL with
      | false => i < (@List.length (List c0.α) yss) ∧ lenK rows fun nr => c (nthj hp) (rgI (nthj rows) r (nr + 1000) ⟨c0, e', true, @List.getD (List c0.α) yss i []⟩) nr (.row (nr + 1000) :: vs') fun ups new v =>
        (match ups, new, v.flat with
        | [(m, some ⟨c1, e1, true, ys⟩)], [], true => (match Nat.beq m (nr + 1000), Nat.beq e1 e' with
          | true, true => (match h : TyC.same c1 c0 with
            | true => castK (TyC.same_eq h) ys fun ys => EqK (@List.set (List c0.α) yss i ys) fun zss => setK rows r (some ⟨.lst c0 e', e, true, zss⟩) fun rows' => putD fr hp rows' dst v k
            | false => False)
          | _, _ => False)
        | _, _, _ => False)
      | true => False)
    | _, _, _ => False)
  | _ => False
/-- a call that turns what lies in a row -/
def lcallA (n0 : Nat) (c : LCtr) (fr : List AVal) (hp : List (Option (List AVal))) (rows : List (Option Row)) (vs : List AVal) (dst : Option Tmp) (k : St → Prop) : Prop :=
  c (nthj hp) (nthj rows) vs fun i r' v => (match Nat.ble n0 i, v.flat, noIb i hp with
    | true, true, true => setK rows i (some r') fun rows' => cleanI i fr fun fr' => putD fr' hp rows' dst v k
    | _, _, _ => False)
/-- a call that turns a box -/
def xcallA (ow : Nat → Bool) (c : XCtr) (fr : List AVal) (hp : List (Option (List AVal))) (rows : List (Option Row)) (vs : List AVal) (dst : Option Tmp) (k : St → Prop) : Prop :=
  c (nthj hp) (nthj rows) vs fun i cs v => (match ow i, scs (lenN hp) [] (lenN rows) [] cs, v.sc (lenN hp) [] (lenN rows) [] with
    | true, true, true => setK hp i (some cs) fun hp' => putD fr hp' rows dst v k
    | _, _, _ => False)
/-- a call that hands back new boxes -/
def pushOs : List (Option (List AVal)) → List (List AVal) → (List (Option (List AVal)) → Prop) → Prop
  | l, [], k => k l
  | l, c :: cs, k => pushK l (some c) fun l' => pushOs l' cs k
def kcallA (c : KCtr) (fr : List AVal) (hp : List (Option (List AVal))) (rows : List (Option Row)) (vs : List AVal) (dst : Option Tmp) (k : St → Prop) : Prop :=
  lenK hp fun nb => c (nthj hp) (nthj rows) nb vs fun boxes v => pushOs hp boxes fun hp2 => (match flatB boxes, v.sc (lenN hp2) [] (lenN rows) [] with
    | true, true => putD fr hp2 rows dst v k
    | _, _ => False)
/-- a map's new entry -/
def mapA (T : TypeId → Option TInfo) (ow : Nat → Bool) (σ : St) (t : TypeId) (m key v : Operand) (k : St → Prop) : Prop :=
  match σ with
  | ⟨fr, hp, rows⟩ => with1 fr m fun m => with1 fr key fun key => with1 fr v fun v => (match m, key, v with
    | .mpr b, .agg [.str p, .str q], .int .i64 n => (match ow b with
      | true => (match nthj hp b with
        | some cs => (match mapOf cs with
          | some es => mapT T t p q (hasM es p q = false ∧ setK hp b (some [.mps (es ++ [((p, q), n)])]) fun hp' => k ⟨fr, hp', rows⟩)
          | none => False)
        | none => False)
      | false => False)
    | _, _, _ => False)
def isI1 : List AVal → Bool
  | .irow _ _ :: _ => true
  | _ => false
def mcallA (E : Env) (G : List (FuncId × Ctr)) (σ : St) (f : Operand) (args : Array Operand) (dst : Option Tmp) (k : St → Prop) : Prop :=
  match σ with
  | ⟨fr, hp, rows⟩ => with1 fr f fun g => withs fr args.toList fun vs => (match g with
    | .fn g fs cs => (match look G g with
      | some (.m c) => (match isI1 (fs ++ (vs ++ cs)) with
        | false => mcallM c fr hp rows (fs ++ (vs ++ cs)) dst k
        | true => mcallV c fr hp rows (fs ++ (vs ++ cs)) dst k)
      | some (.b c) => bcallA c fr hp rows (fs ++ (vs ++ cs)) dst k
      | some (.r c) => bcallA c fr hp rows (fs ++ (vs ++ cs)) dst k
      | some (.l c) => lcallA E.n0 c fr hp rows (fs ++ (vs ++ cs)) dst k
      | some (.x c) => xcallA E.owB c fr hp rows (fs ++ (vs ++ cs)) dst k
      | some (.k c) => kcallA c fr hp rows (fs ++ (vs ++ cs)) dst k
      | _ => False)
    | _ => False)

/-- what an operation does that turns what is there -/
def heavy (E : Env) (T : TypeId → Option TInfo) (G : List (FuncId × Ctr)) (σ : St) (o : Oper) (k : St → Prop) (alt : Prop) : Prop :=
  match o.op, o.dst with
  | .store t x v, none => (match σ with
    | ⟨fr, hp, rows⟩ => (match ev fr x, ev fr v with
      | some (.loc _ _), _ => stA T E.owB ⟨fr, hp, rows⟩ t x v k
      | some (.iele _ _ _ _ _), _ => stA T E.owB ⟨fr, hp, rows⟩ t x v k
      | some (.ele _ _ _ _), some (.row _) => putA T E.n0 ⟨fr, hp, rows⟩ t x v k
      | some (.ele _ _ _ _), _ => stA T E.owB ⟨fr, hp, rows⟩ t x v k
      | _, _ => alt))
  | .call { callee := .builtin .append, args, argTypes }, some d => (match args.toList, argTypes.toList with
    | [s, x], [t, t'] => (match Nat.beq t t' with
      | true => (match ev σ.fr s with | some (.vw _ _ _ _) => appI T σ t s x d k ∨ appA (E.tn (1000000 + d)) T σ t s x d k | _ => appA (E.tn (1000000 + d)) T σ t s x d k)
      | false => alt)
    | _, _ => alt)
  | .call { callee := .builtin .clear, args, argTypes }, dst => (match args.toList, argTypes.toList with
    | [x], [t] => clrA T σ t x dst k
    | _, _ => alt)
  | .call { callee := .value f, args, argTypes }, dst => mcallA E G σ f args dst k
  | .slice t x (some lo) (some hi) (some mx), some d => sl3A T σ t x lo hi mx d k
  | .mapUpdate t m key v, none => mapA T E.owB σ t m key v k
  | _, _ => alt

/-- one operation, where its guard lets it be carried out -/
def vcOne (E : Env) (T : TypeId → Option TInfo) (G : List (FuncId × Ctr)) (all rest : List Oper) (o : Oper) (fr : List AVal) (hp : List (Option (List AVal))) (rows : List (Option Row)) (kN : St → Prop) (k : St → Prop) : Prop :=
  match flB E o with
  | true => litA T ⟨fr, hp, rows⟩ o.op o.dst k
  | false => match auto G fr o.op with
    | true => lenK hp fun nb => lenK rows fun nr => opEff T G (nthj hp) (nthj rows) nb nr fr o.op fun e => putE ⟨fr, hp, rows⟩ o.dst e k
    | false => heavy E T G ⟨fr, hp, rows⟩ o k (VO E all (o :: rest) ⟨fr, hp, rows⟩ kN)

/-- what stands where an operation was not carried out -/
def uV : AVal := .raw (.tuple #[])
/-- what a guard's operation yielded -/
def gk : AVal → Option (Option Bool)
  | .bool b => some (some b)
  | .raw v => match v with | .bool _ => none | _ => some none
  | _ => none
theorem gk_raw {v : Value} (h : ∀ b, v = .bool b → False) : gk (.raw v) = some none := by
  cases v <;> first | rfl | exact (h _ rfl).elim
theorem gk_junk {x : AVal} {ob : Option Bool} (h : gk x = some ob) : x ≠ .junk := fun e => by subst e; cases h
theorem gk_yield {x : AVal} {ob : Option Bool} (h : gk x = some ob) {L : Array Oper} {tmps : Array Value} {g d : Nat} {og : Oper} (h1 : L[g]? = some og) (h2 : og.dst = some d) {A : Asg} (h3 : tmps[d]? = some (x.den A)) : yielded L tmps g = ob := by
  cases x <;> simp only [gk] at h
  all_goals first
    | (cases h; done)
    | (cases h; simp [yielded, h1, h2, h3, AVal.den]; done)
    | skip
  rename_i v
  simp only [AVal.den] at h3
  cases v <;> simp only at h <;> first | (cases h; done) | (cases h; simp [yielded, h1, h2, h3])

def vcOps (E : Env) (T : TypeId → Option TInfo) (G : List (FuncId × Ctr)) (all : List Oper) : List Oper → St → (St → Prop) → Prop
  | [], σ, kN => kN σ
  | o :: rest, ⟨fr, hp, rows⟩, kN =>
    match o.guard with
    | none => vcOne E T G all rest o fr hp rows kN fun σ' => vcOps E T G all rest σ' kN
    | some (j, want) => (match nth all j with
      | some oj => (match oj.dst, o.dst with
        | some d, some d' => (match nth fr d with
          | some (.bool b) => (match want with
            | true => bcond b
              (setK fr d (.bool true) fun fr1 => vcOne E T G all rest o fr1 hp rows kN fun σ' => vcOps E T G all rest σ' kN)
              (setK fr d (.bool false) fun fr1 => setK fr1 d' uV fun fr2 => vcOps E T G all rest ⟨fr2, hp, rows⟩ kN)
            | false => bcond b
              (setK fr d (.bool true) fun fr1 => setK fr1 d' uV fun fr2 => vcOps E T G all rest ⟨fr2, hp, rows⟩ kN)
              (setK fr d (.bool false) fun fr1 => vcOne E T G all rest o fr1 hp rows kN fun σ' => vcOps E T G all rest σ' kN))
          | some (.raw v) => (match v with
            | .bool _ => False
            | _ => setK fr d' uV fun fr2 => vcOps E T G all rest ⟨fr2, hp, rows⟩ kN)
          | _ => False)
        | _, _ => False)
      | none => False)

def vcCode (E : Env) (T : TypeId → Option TInfo) (G : List (FuncId × Ctr)) : Code → (St → Prop) → (Nat → St → Prop) → (St → Prop) → St → Prop
  | .skip, kN, _, _, σ => kN σ
  | .seq a b, kN, kE, kR, σ => vcCode E T G a (fun σ' => V E b kN kE kR σ') kE kR σ
  | .block id c, kN, kE, kR, σ => vcCode E T G c kN (fun j σ' => match Nat.beq j id with | true => kN σ' | false => kE j σ') kR σ
  | .exit id, _, kE, _, σ => kE id σ
  | .ret, _, _, kR, σ => kR σ
  | .cond c x y, kN, kE, kR, σ => (match σ with
    | ⟨fr, hp, rows⟩ => (match c with
      | .tmp t => (match nth fr t with
        | some (.bool b) => bcond b (setK fr t (.bool true) fun fr' => vcCode E T G x kN kE kR ⟨fr', hp, rows⟩) (setK fr t (.bool false) fun fr' => vcCode E T G y kN kE kR ⟨fr', hp, rows⟩)
        | _ => False)
      | .const (.bool b) => bcond b (vcCode E T G x kN kE kR ⟨fr, hp, rows⟩) (vcCode E T G y kN kE kR ⟨fr, hp, rows⟩)
      | _ => False))
  | .region id ops draw, kN, kE, kR, σ => (match draw with
    | false => vcOps E T G ops.toList ops.toList σ kN
    | true => V E (.region id ops true) kN kE kR σ)
  | c, kN, kE, kR, σ => V E c kN kE kR σ

/-- Code whose first step is reckoned. -/
def canStep : Code → Bool
  | .seq _ _ | .block _ _ | .cond _ _ _ | .skip | .exit _ | .ret => true
  | .region _ _ d => !d
  | _ => false

end Go.Proofs.YtmbfflckgmdncaaDoor.Fw

/- That the machine does what the symbolic side says. -/
namespace Go.Proofs.YtmbfflckgmdncaaDoor.Fw
open Go Go.RowKit
set_option linter.unusedVariables false
set_option linter.unusedSimpArgs false

section
variable {P : Program} {t : TypeId} {i : TInfo}

theorem run_und (h : TInfoOk P t i) (w : World) : (underlying t).run P w = .ok i.desc w := run_underlying h.und w
theorem info_of (h : TInfoOk P t i) : ∃ inf z, P.info? t = some inf ∧ inf.size = i.size ∧ inf.bytes = i.bytes ∧ inf.zero = some z ∧ z.cells = (dens A0 i.zero).toArray := by
  obtain ⟨z, h1, h2, _⟩ := h.info
  cases hi : P.info? t with
  | none => simp [hi] at h1
  | some inf =>
    simp [hi] at h1
    exact ⟨inf, z, rfl, h1.1, h1.2.1, h1.2.2, h2⟩
theorem run_size (h : TInfoOk P t i) (w : World) : (sizeOf t).run P w = .ok i.size w := by
  obtain ⟨inf, z, h1, h2, _⟩ := info_of h
  simp [sizeOf, typeInfo, h1, h2]
theorem run_agg (h : TInfoOk P t i) (w : World) : (isAgg t).run P w = .ok i.agg w := by
  unfold isAgg
  simp only [Sem.run_bind, run_und h, Result.andThen_ok]
  rw [h.agg]
  cases i.desc <;> rfl
theorem run_zero (h : TInfoOk P t i) (w : World) : ∃ z, (zeroValue t).run P w = .ok z w ∧ z.cells = (dens A0 i.zero).toArray := by
  obtain ⟨inf, z, h1, h2, h3, h4, h5⟩ := info_of h
  exact ⟨z, by simp [zeroValue, typeInfo, h1, h4], h5⟩

theorem sub_eq : ∀ (l : List AVal) (o n : Nat) (k : List AVal → Prop), sub l o n k → o + n ≤ l.length ∧ k ((l.drop o).take n)
  | l, 0, 0, k, h => by cases l <;> simpa [sub] using h
  | [], 0, n + 1, k, h => by simp [sub] at h
  | [], o + 1, n, k, h => by simp [sub] at h
  | x :: l, o + 1, n, k, h => by
    simp only [sub] at h
    obtain ⟨h1, h2⟩ := sub_eq l o n k h
    exact ⟨by simp; omega, by simpa using h2⟩
  | x :: l, 0, n + 1, k, h => by
    simp only [sub] at h
    obtain ⟨h1, h2⟩ := sub_eq l 0 n _ h
    exact ⟨by simp; omega, by simpa using h2⟩

theorem part_sound (h : TInfoOk P t i) {cs : List AVal} {off : Nat} {k : AVal → Prop} (hp : partA i.agg i.size cs off k) :
    ∃ v, k v ∧ ∀ A w, (part t (dens A cs).toArray off).run P w = .ok (v.den A) w := by
  unfold partA at hp
  cases ha : i.agg
  · simp only [ha] at hp
    rw [nth_eq] at hp
    cases hc : cs[off]? with
    | none => simp [hc] at hp
    | some v =>
      simp only [hc] at hp
      refine ⟨v, hp, fun A w => ?_⟩
      unfold part
      simp only [Sem.run_bind, run_agg h, Result.andThen_ok, ha]
      simp [dens_eq, hc]
  · simp only [ha] at hp
    obtain ⟨h1, h2⟩ := sub_eq _ _ _ _ hp
    refine ⟨_, h2, fun A w => ?_⟩
    unfold part
    simp only [Sem.run_bind, run_agg h, Result.andThen_ok, ha]
    simp [run_size h, AVal.den, dens_eq, List.extract_eq_take_drop, List.map_drop, List.map_take]

theorem loadVar_sound (h : TInfoOk P t i) {cs : List AVal} {off : Nat} {k : AVal → Prop} (hp : partA i.agg i.size cs off k) :
    ∃ v, k v ∧ ∀ (A : Asg) (w : World) (a : Addr), (∀ (j : Nat) (c : AVal), cs[j]? = some c → w.cell? (a.add j) = some (c.den A)) → (loadVar t (a.add off)).run P w = .ok (v.den A) w := by
  have add_add : ∀ (a : Addr) (m n : Nat), (a.add m).add n = a.add (m + n) := fun a m n => by
    unfold Addr.add
    by_cases h1 : m = 0 <;> by_cases h2 : n = 0 <;> simp [h1, h2] <;> omega
  unfold partA at hp
  cases ha : i.agg
  · simp only [ha] at hp
    rw [nth_eq] at hp
    cases hc : cs[off]? with
    | none => simp [hc] at hp
    | some v =>
      simp only [hc] at hp
      refine ⟨v, hp, fun A w a hcell => ?_⟩
      unfold loadVar
      simp only [Sem.run_bind, run_agg h, Result.andThen_ok, ha]
      simp [hcell off v hc]
  · simp only [ha] at hp
    obtain ⟨h1, h2⟩ := sub_eq _ _ _ _ hp
    refine ⟨_, h2, fun A w a hcell => ?_⟩
    unfold loadVar
    simp only [Sem.run_bind, run_agg h, Result.andThen_ok, ha]
    have hl := run_loadCells_list (P := P) (w := w) (a.add off) (dens A ((cs.drop off).take i.size)) (fun j v hj => by
      rw [add_add]
      rw [dens_eq, List.getElem?_map, List.getElem?_take, List.getElem?_drop] at hj
      split at hj
      · cases hc : cs[off + j]? with
        | none => simp [hc] at hj
        | some c => simp [hc] at hj; subst hj; exact hcell _ _ hc
      · cases hj)
    have hlen : (dens A ((cs.drop off).take i.size)).length = i.size := by rw [dens_eq]; simp; omega
    rw [hlen] at hl
    simp [run_size h, hl, AVal.den]

end

theorem eqG_int (P : Program) (w : World) (op : BinOp) (t : TypeId) (xo yo : Operand) (k : IntKind) (n : Int) (y : Value) : (eqGuard op t xo yo (.int k n) y).run P w = .ok () w := by
  unfold eqGuard
  cases op <;> simp
theorem eqG_str (P : Program) (w : World) (op : BinOp) (t : TypeId) (xo yo : Operand) (s : ByteArray) (y : Value) : (eqGuard op t xo yo (.string s) y).run P w = .ok () w := by
  unfold eqGuard
  cases op <;> simp
theorem eqG_bool (P : Program) (w : World) (op : BinOp) (t : TypeId) (xo yo : Operand) (s : Bool) (y : Value) : (eqGuard op t xo yo (.bool s) y).run P w = .ok () w := by
  unfold eqGuard
  cases op <;> simp

theorem str_beq (a b : ByteArray) : (a.toList == b.toList) = decide (a = b) := by
  by_cases h : a = b
  · subst h; simp
  · have : a.toList ≠ b.toList := fun e => h (by
      rw [ByteArray.toList_eq, ByteArray.toList_eq] at e
      obtain ⟨⟨x⟩⟩ := a
      obtain ⟨⟨y⟩⟩ := b
      simp at e
      rw [e])
    simp [h, this]

theorem evBin_sound {wf : Bool} {op : BinOp} {x y : AVal} {k : AVal → Prop} (h : evBin wf op x y k) :
    ∃ v, k v ∧ ∀ (A : Asg) (P : Program) (w : World) (t : TypeId) (xo yo : Operand), ((do eqGuard op t xo yo (x.den A) (y.den A); binOp op t (x.den A) (y.den A)) : Sem Value).run P w = .ok (v.den A) w := by
  unfold evBin at h
  split at h
  · rename_i a x b y
    cases op
    case shl =>
      cases a <;> simp only at h
      all_goals first
        | exact h.elim
        | (obtain ⟨h1, h2, h3, h4⟩ := h
           refine ⟨_, h4, fun A P w t xo yo => ?_⟩
           simp only [Sem.run_bind, AVal.den, eqG_int, Result.andThen_ok]
           have hy : ¬ y < 0 := by omega
           have hmin : min y.toNat 64 = y.toNat := by omega
           simp only [binOp, Op.shift, hy, if_false, IntKind.bits, hmin, wrap_of_rng h3]
           rfl)
    case shr =>
      cases a <;> simp only at h
      all_goals first
        | exact h.elim
        | (obtain ⟨h1, h2, h4⟩ := h
           refine ⟨_, h4, fun A P w t xo yo => ?_⟩
           simp only [Sem.run_bind, AVal.den, eqG_int, Result.andThen_ok]
           have hy : ¬ y < 0 := by omega
           have hmin : min y.toNat 64 = y.toNat := by omega
           simp only [binOp, Op.shift, hy, if_false, IntKind.bits, hmin]
           rfl)
    all_goals
      simp only at h
      split at h
      · exact h.elim
      · rename_i hk
        obtain rfl := sameK_eq hk
        first
          | exact h.elim
          | (have h1 := h.1
             have h2 := h.2
             cases wf <;> simp only at h2
             · obtain ⟨h2, h3⟩ := h2
               refine ⟨_, h3, fun A P w t xo yo => ?_⟩
               simp only [Sem.run_bind, AVal.den, eqG_int, Result.andThen_ok, binOp, Op.intArith, Op.intDiv, h1, if_false, wrap_of_rng h2, ne_eq, not_true_eq_false]
               rfl
             · refine ⟨_, h2, fun A P w t xo yo => ?_⟩
               simp only [Sem.run_bind, AVal.den, eqG_int, Result.andThen_ok, binOp, Op.intArith, Op.intDiv, h1, if_false, ne_eq, not_true_eq_false]
               rfl)
          | (refine ⟨_, wrapK_inv h, fun A P w t xo yo => ?_⟩
             simp only [Sem.run_bind, AVal.den, eqG_int, Result.andThen_ok, binOp, Op.intArith, ne_eq, not_true_eq_false, if_false]
             rfl)
          | (have h1 := h.1
             have h2 := h.2
             refine ⟨_, h2, fun A P w t xo yo => ?_⟩
             simp only [Sem.run_bind, AVal.den, eqG_int, Result.andThen_ok, binOp, Op.intArith, wrap_of_rng h1, ne_eq, not_true_eq_false, if_false]
             rfl)
          | (have h1 := h.1
             have h2 := h.2
             refine ⟨_, h2, fun A P w t xo yo => ?_⟩
             simp only [Sem.run_bind, AVal.den, eqG_int, Result.andThen_ok, binOp, Op.intDiv, h1, ne_eq, not_true_eq_false, if_false]
             rfl)
          | (refine ⟨_, h, fun A P w t xo yo => ?_⟩
             simp only [Sem.run_bind, AVal.den, eqG_int, Result.andThen_ok, binOp, Op.intBits, ne_eq, not_true_eq_false, if_false]
             rfl)
          | (refine ⟨_, h, fun A P w t xo yo => ?_⟩
             simp only [Sem.run_bind, AVal.den, eqG_int, Result.andThen_ok, binOp, Op.intCmp, ne_eq, not_true_eq_false, if_false]
             first | rfl | (simp [bne]; rfl))
  · rename_i x y
    have hsz := str_beq
    cases op <;> simp only at h
    all_goals first
      | exact h.elim
      | (have h1 := h.1
         have h2 := h.2
         refine ⟨_, h2, fun A P w t xo yo => ?_⟩
         have h3 : ¬ ((x.size + y.size : Nat) : Int) > IntKind.i64.max := by simp [IntKind.max, IntKind.signed, IntKind.bits]; omega
         simp only [Sem.run_bind, AVal.den, eqG_str, Result.andThen_ok, binOp, Op.stringOp, h3, if_false]
         rfl)
      | (refine ⟨_, h, fun A P w t xo yo => ?_⟩
         simp only [Sem.run_bind, AVal.den, eqG_str, Result.andThen_ok, binOp, Op.stringOp, hsz]
         rfl)
  · exact h.elim

theorem evUn_sound {wf : Bool} {op : UnOp} {x : AVal} {k : AVal → Prop} (h : evUn wf op x k) : ∃ v, k v ∧ ∀ (A : Asg) (P : Program) (w : World), (Op.unary op (x.den A)).run P w = .ok (v.den A) w := by
  unfold evUn at h
  split at h
  · exact ⟨_, h, fun A P w => by simp [Op.unary, AVal.den]⟩
  · split at h
    · exact ⟨_, h, fun A P w => by simp [Op.unary, AVal.den, Op.intArith]⟩
    · obtain ⟨h1, h2⟩ := h
      exact ⟨_, h2, fun A P w => by simp [Op.unary, AVal.den, Op.intArith, wrap_of_rng h1]⟩
  · exact h.elim

theorem eqFs_sound {P : Program} {T : TypeId → Option TInfo} (hT : TOk P T) {go : TypeId → AVal → AVal → (Bool → Prop) → Prop} {d : Nat}
    (hgo : ∀ t x y k, go t x y k → ∃ r, k r ∧ ∀ A n w, (Op.equalIn (n + d) t (x.den A) (y.den A)).run P w = .ok r w) {xs ys : List AVal} :
    ∀ (fs : List Field) (k : Bool → Prop), fs.all (·.name != "_") = true → eqFs T go xs ys fs k →
      ∃ r, k r ∧ ∀ A n w, (Op.eqFields (n + d) (dens A xs).toArray (dens A ys).toArray fs).run P w = .ok r w
  | [], k, _, h => ⟨true, h, fun A n w => by simp [Op.eqFields]⟩
  | f :: fs, k, hn, h => by
    simp only [List.all_cons, Bool.and_eq_true, bne_iff_ne] at hn
    simp only [eqFs] at h
    cases hf : T f.type with
    | none => simp [hf] at h
    | some i =>
      simp only [hf] at h
      obtain ⟨a, h, ha⟩ := part_sound (hT _ _ hf) h
      obtain ⟨b, h, hb⟩ := part_sound (hT _ _ hf) h
      obtain ⟨r, h, hr⟩ := hgo _ _ _ _ h
      cases fs with
      | nil =>
        refine ⟨r, h, fun A n w => ?_⟩
        simp only [Op.eqFields, hn.1, ne_eq, not_false_eq_true, if_true, Sem.run_bind, ha, hb, hr, Result.andThen_ok]
        cases r <;> simp
      | cons g fs =>
        obtain ⟨r', h, hr'⟩ := eqFs_sound hT hgo (g :: fs) _ hn.2 h
        refine ⟨_, h, fun A n w => ?_⟩
        rw [Op.eqFields]
        simp only [hn.1, ne_eq, not_false_eq_true, if_true, Sem.run_bind, ha, hb, hr, Result.andThen_ok]
        cases r
        · simp
        · simp [hr']

theorem eqV_sound {P : Program} {T : TypeId → Option TInfo} (hT : TOk P T) : ∀ (d : Nat) (t : TypeId) (x y : AVal) (k : Bool → Prop), eqV T d t x y k →
    ∃ r, k r ∧ ∀ A n w, (Op.equalIn (n + d) t (x.den A) (y.den A)).run P w = .ok r w
  | 0, t, x, y, k, h => h.elim
  | d + 1, t, x, y, k, h => by
    simp only [eqV] at h
    cases ht : T t with
    | none => simp [ht] at h
    | some i =>
      have hi := hT _ _ ht
      have hu := hi.und
      simp only [ht] at h
      split at h
      · rename_i fs hd
        rw [hd] at hu
        split at h
        · rename_i he
          split at h
          · obtain ⟨h1, h2, h3⟩ := hi.eqOk he
            rw [hd] at h3
            obtain ⟨r, hk, hr⟩ := eqFs_sound hT (eqV_sound hT d) fs.toList _ h3 h
            refine ⟨r, hk, fun A n w => ?_⟩
            have hf : P.fieldsOf t = fs := by unfold Program.fieldsOf; rw [hu]
            simp only [AVal.den]
            rw [show n + (d + 1) = (n + d) + 1 by omega, run_equalIn_struct w (n + d) t _ _ (by rw [hf]; exact hu) h1, hf]
            exact hr A n w
          · exact h.elim
        · exact h.elim
      · rename_i k' hd
        rw [hd] at hu
        split at h
        · split at h
          · rename_i hk
            obtain rfl := sameK_eq hk
            refine ⟨_, h, fun A n w => ?_⟩
            simp only [AVal.den]
            rw [show n + (d + 1) = (n + d) + 1 by omega, run_equalIn_int w _ t _ _ _ _ hu]
            congr 1
          · exact h.elim
        · exact h.elim
      · rename_i hd
        rw [hd] at hu
        split at h
        · refine ⟨_, h, fun A n w => ?_⟩
          simp only [AVal.den]
          rw [show n + (d + 1) = (n + d) + 1 by omega, run_equalIn_bool w _ t _ _ hu]
        · exact h.elim
      · rename_i hd
        rw [hd] at hu
        split at h
        · refine ⟨_, h, fun A n w => ?_⟩
          simp only [AVal.den]
          rw [show n + (d + 1) = (n + d) + 1 by omega, run_equalIn_string w _ t _ _ hu, str_beq]
        · exact h.elim
      · exact h.elim

end Go.Proofs.YtmbfflckgmdncaaDoor.Fw

/- The operations that are taken by themselves: the machine comes to their effects. -/
namespace Go.Proofs.YtmbfflckgmdncaaDoor.Fw
open Go Go.RowKit
set_option linter.unusedVariables false
set_option linter.unusedSimpArgs false

/-- What a memory has to tell, and where new levels are free. -/
structure Ctx (E : Env) (A : Asg) (hp : Nat → Option (List AVal)) (rw : Nat → Option Row) (lb : Nat) (bo : Bool) (lr m : Nat) (w : World) : Prop where
  mem : Mem E A hp rw w
  klt : ∀ b, E.K b → b < w.heap.size
  fb : bo = true → hp lb = none
  fr : ∀ i, lr ≤ i → i < lr + m → rw i = none
  n0 : E.n0 ≤ lr
  b0 : E.b0 ≤ lb
  stb : ∀ B, Agr lb bo lr m A B → ∀ i c, hp i = some c → dens B c = dens A c

theorem updO_none (f : Nat → Option (List AVal)) (n : Nat) : updO f n none = f := by funext i; rfl
theorem updO_some (f : Nat → Option (List AVal)) (n : Nat) (c : List AVal) : updO f n (some c) = upd f n (some c) := by funext i; rfl
theorem updL_nil (f : Nat → Option Row) (n : Nat) : updL f n [] = f := by
  funext i
  unfold updL
  rw [if_neg (by simp)]

section
variable {E : Env} {A : Asg} {hp : Nat → Option (List AVal)} {rw_ : Nat → Option Row} {w w' : World}

theorem setRws_in (A : Asg) (lr : Nat) (hs : List HdrN) (i : Nat) (h : HdrN) (hi : hs[i]? = some h) : (A.setRws lr hs).rw (lr + i) = h.h ∧ (A.setRws lr hs).inn (lr + i) = h.ih := by
  have hlt : i < hs.length := (List.getElem?_eq_some_iff.1 hi).1
  have hg : hs.getD (lr + i - lr) hdr0 = h := by
    rw [Nat.add_sub_cancel_left, List.getD_eq_getElem?_getD, hi]; rfl
  constructor
  · show (if lr ≤ lr + i ∧ lr + i < lr + hs.length then (hs.getD (lr + i - lr) hdr0).h else A.rw (lr + i)) = _
    rw [if_pos (by omega), hg]
  · show (if lr ≤ lr + i ∧ lr + i < lr + hs.length then (hs.getD (lr + i - lr) hdr0).ih else A.inn (lr + i)) = _
    rw [if_pos (by omega), hg]
theorem setRws_out (A : Asg) (lr : Nat) (hs : List HdrN) (k : Nat) (hk : k < lr ∨ lr + hs.length ≤ k) : (A.setRws lr hs).rw k = A.rw k ∧ (A.setRws lr hs).inn k = A.inn k := by
  constructor
  · show (if lr ≤ k ∧ k < lr + hs.length then (hs.getD (k - lr) hdr0).h else A.rw k) = _
    rw [if_neg (by omega)]
  · show (if lr ≤ k ∧ k < lr + hs.length then (hs.getD (k - lr) hdr0).ih else A.inn k) = _
    rw [if_neg (by omega)]

theorem Mem.addRows (h : Mem E A hp rw_ w) (lr : Nat) (hs : List HdrN) (rows : List Row) {free : Nat → Prop} (hn : NewRows rows hs w free) (hfK : ∀ b, free b → ¬ E.K b)
    (hfb : ∀ i c b, E.ow i → hp i = some c → free b → A.bx i ≠ b) (hfr : ∀ k r b, rw_ k = some r → Feet r (A.rw k) (A.inn k) b → ¬ free b)
    (hl : ∀ i, lr ≤ i → i < lr + rows.length → rw_ i = none) (hn0 : E.n0 ≤ lr) (hsc : ∀ i c, hp i = some c → dens (A.setRws lr hs) c = dens A c) :
    Mem E (A.setRws lr hs) hp (updL rw_ lr rows) w := by
  have hlen := hn.len
  have cases' : ∀ k c, updL rw_ lr rows k = some c → (∃ i hd, k = lr + i ∧ rows[i]? = some c ∧ hs[i]? = some hd ∧ (A.setRws lr hs).rw k = hd.h ∧ (A.setRws lr hs).inn k = hd.ih) ∨
      (rw_ k = some c ∧ (A.setRws lr hs).rw k = A.rw k ∧ (A.setRws lr hs).inn k = A.inn k) := by
    intro k c hk
    unfold updL at hk
    by_cases hc : lr ≤ k ∧ k < lr + rows.length
    · rw [if_pos hc] at hk
      have hlt : k - lr < hs.length := by omega
      have hgi : hs[k - lr]? = some hs[k - lr] := List.getElem?_eq_getElem hlt
      have := setRws_in A lr hs (k - lr) _ hgi
      rw [show lr + (k - lr) = k by omega] at this
      exact .inl ⟨k - lr, hs[k - lr], by omega, hk, hgi, this.1, this.2⟩
    · rw [if_neg hc] at hk
      have := setRws_out A lr hs k (by omega)
      exact .inr ⟨hk, this.1, this.2⟩
  refine ⟨h.kept, fun i c hi => ?_, fun k c hk => ?_, h.bb, fun i ci k c b h0 hi hk hf => ?_, fun k k' c c' b hk hk' hkk hown hf hf' => ?_, fun k hk => ?_⟩
  · obtain ⟨⟨t', ht⟩, hn⟩ := h.box i c hi
    exact ⟨⟨t', by rw [hsc i c hi]; exact ht⟩, hn⟩
  · rcases cases' k c hk with ⟨i, hd, rfl, h1, h2, h3, h4⟩ | ⟨h1, h2, h3⟩
    · rw [h3, h4]
      obtain ⟨ho, hr, hge⟩ := hn.new i c hd h1 h2
      exact ⟨hr.at, fun _ => ⟨hr, fun b hb => hfK b (hge b hb)⟩⟩
    · rw [h2, h3]; exact h.row k c h1
  · rcases cases' k c hk with ⟨j, hd, rfl, h1, h2, h3, h4⟩ | ⟨h1, h2, h3⟩
    · rw [h3, h4] at hf
      obtain ⟨ho, hr, hge⟩ := hn.new j c hd h1 h2
      exact hfb i ci b h0 hi (hge b hf)
    · rw [h2, h3] at hf; exact h.br i ci k c b h0 hi h1 hf
  · rcases cases' k c hk with ⟨i, hd, rfl, h1, h2, h3, h4⟩ | ⟨h1, h2, h3⟩ <;> rcases cases' k' c' hk' with ⟨j, hd', rfl, h1', h2', h3', h4'⟩ | ⟨h1', h2', h3'⟩
    · rw [h3, h4] at hf; rw [h3', h4'] at hf'
      exact hn.dis i j hd hd' c c' b (fun e => hkk (by rw [e])) h2 h2' h1 h1' hf hf'
    · rw [h3, h4] at hf; rw [h2', h3'] at hf'
      obtain ⟨ho, hr, hge⟩ := hn.new i c hd h1 h2
      exact hfr k' c' b h1' hf' (hge b hf)
    · rw [h2, h3] at hf; rw [h3', h4'] at hf'
      obtain ⟨ho, hr, hge⟩ := hn.new j c' hd' h1' h2'
      exact hfr k c b h1 hf (hge b hf')
    · rw [h2, h3] at hf; rw [h2', h3'] at hf'
      exact h.rr k k' c c' b h1 h1' hkk hown hf hf'
  · rw [(setRws_out A lr hs k (by omega)).1]
    exact h.args k hk

variable {lb lr : Nat}

theorem post_val {v : AVal} (h : Mem E A hp rw_ w) : Post E A hp rw_ lb lr w (val v) (v.den A) w :=
  ⟨⟨A, ⟨fun _ _ => rfl, fun _ _ => ⟨rfl, rfl⟩⟩, rfl, by simp only [val, updO_none, updL_nil]; exact h, Nat.le_refl _⟩⟩

theorem runs_val {o : Oper} {ρ : Operand → Value} {v : AVal} (hm : Mem E A hp rw_ w) (h : (execOp ρ o).run E.P w = .ok (.value (v.den A)) w) :
    Runs E.P (fun u w' => Post E A hp rw_ lb lr w (val v) u w') ((execOp ρ o).run E.P w) := by
  rw [h]; exact post_val hm

theorem post_boxO {cs : List AVal} {t : TypeId} (h : Ctx E A hp rw_ lb true lr 0 w) (hcs : ∀ B, Agr lb true lr 0 A B → dens B cs = dens A cs) {u : Nat → Value} {v : AVal} (hu : ∀ B : Asg, v.den B = u (B.bx lb)) :
    Post E A hp rw_ lb lr w ⟨some cs, [], v⟩ (u w.heap.size) { w with heap := w.heap.push (objOf cs (dens A cs) t) } := by
  have hag : Agr lb true lr 0 A (A.setBx lb w.heap.size) := ⟨fun i hi => (upd_ne _ _ _ (hi rfl)).symm, fun k _ => ⟨rfl, rfl⟩⟩
  refine ⟨⟨A.setBx lb w.heap.size, hag, ?_, ?_, by simp⟩⟩
  · rw [hu]
    show _ = u (upd A.bx lb w.heap.size lb)
    rw [upd_same]
  · simp only [updO_some, updL_nil]
    exact h.mem.addBox lb cs t h.b0 (h.fb rfl) (h.stb _ hag) (hcs _ hag) h.klt rfl
theorem post_box {cs : List AVal} {t : TypeId} (hmo : mapOf cs = none) (h : Ctx E A hp rw_ lb true lr 0 w) (hcs : ∀ B, Agr lb true lr 0 A B → dens B cs = dens A cs) :
    Post E A hp rw_ lb lr w ⟨some cs, [], .loc lb 0⟩ (.pointer (some ⟨w.heap.size, 0, none⟩)) { w with heap := w.heap.push (.cells (dens A cs).toArray t) } := by
  have := post_boxO (t := t) h hcs (u := fun b => .pointer (some ⟨b, 0, none⟩)) (v := .loc lb 0) (fun B => by simp [AVal.den])
  rwa [objOf_cells hmo] at this

theorem post_rows {rows : List Row} {v : AVal} {hs : List HdrN} (h : Ctx E A hp rw_ lb false lr rows.length w) (hB : Blw w.heap.size w w') (hn : NewRows rows hs w' (w.heap.size ≤ ·)) :
    Post E A hp rw_ lb lr w ⟨none, rows, v⟩ (v.den (A.setRws lr hs)) w' := by
  have hlen := hn.len
  have hag : Agr lb false lr rows.length A (A.setRws lr hs) := ⟨fun i hi => rfl, fun k hk => by
    have := setRws_out A lr hs k (by omega)
    exact ⟨this.1.symm, this.2.symm⟩⟩
  refine ⟨⟨A.setRws lr hs, hag, rfl, ?_, hB.size⟩⟩
  simp only [updO_none]
  exact (h.mem.grow hB h.klt).addRows lr hs rows hn (fun b hb hk => by have := h.klt b hk; omega) (fun i c b _ hi hb e => by have := h.mem.box_lt hi; omega)
    (fun k r b hk hf hb => by have := h.mem.foot_lt hk hf; omega) h.fr h.n0 (h.stb _ hag)

/-- One new row of a fresh block. -/
theorem post_row {r : Row} {hd : Hdr} {ih : Nat → Hdr} (h : Ctx E A hp rw_ lb false lr 1 w) (hB : Blw w.heap.size w w') (ho : r.own = true) (hr : RowsOwn w' hd ih r) (hf : ∀ b, Feet r hd ih b → w.heap.size ≤ b) :
    Post E A hp rw_ lb lr w ⟨none, [r], .row lr⟩ hd.val w' := by
  have hn : NewRows [r] [⟨hd, ih⟩] w' (w.heap.size ≤ ·) := ⟨rfl, fun i r' h' hi hi' => by
    cases i with
    | zero => simp at hi hi'; subst hi; subst hi'; exact ⟨ho, hr, hf⟩
    | succ i => simp at hi, fun i j h1 h2 r1 r2 b hij hi hj => by
    cases i with
    | zero => cases j with
      | zero => exact absurd rfl hij
      | succ j => simp at hj
    | succ i => simp at hi⟩
  have := post_rows (v := .row lr) h hB hn
  have hden : (AVal.row lr).den (A.setRws lr [⟨hd, ih⟩]) = hd.val := by
    have := (setRws_in A lr [⟨hd, ih⟩] 0 ⟨hd, ih⟩ rfl).1
    simp only [Nat.add_zero] at this
    simp [AVal.den, this]
  rwa [hden] at this

theorem setRws_bx (A : Asg) (n : Nat) (hs : List HdrN) : (A.setRws n hs).bx = A.bx := rfl
theorem Mem.boxNew (h : Mem E A hp rw_ w) (l b : Nat) (cs : List AVal) (hl0 : E.b0 ≤ l) (hl : hp l = none) (hsc : ∀ i c, hp i = some c → dens (A.setBx l b) c = dens A c)
    (hbox : BoxAt (A.setBx l b) w b cs) (hK : ¬ E.K b) (hnb : ∀ i c, hp i = some c → A.bx i ≠ b) (hnr : ∀ k r, rw_ k = some r → ¬ Feet r (A.rw k) (A.inn k) b) : Mem E (A.setBx l b) (upd hp l (some cs)) rw_ w := by
  have hne : ∀ i c, hp i = some c → i ≠ l := fun i c hi e => by rw [e, hl] at hi; cases hi
  have hbx : ∀ i c, hp i = some c → (A.setBx l b).bx i = A.bx i := fun i c hi => upd_ne _ _ _ (hne i c hi)
  have hbl : (A.setBx l b).bx l = b := upd_same _ _ _
  have cases' : ∀ i c, upd hp l (some cs) i = some c → (i = l ∧ c = cs) ∨ (i ≠ l ∧ hp i = some c) := fun i c hi => by
    by_cases e : i = l
    · subst e; rw [upd_same] at hi; exact .inl ⟨rfl, (Option.some.inj hi).symm⟩
    · rw [upd_ne _ _ _ e] at hi; exact .inr ⟨e, hi⟩
  refine ⟨h.kept, fun i c hi => ?_, h.row, fun i j ci cj h0 hi hj hij => ?_, fun i ci k r b' h0 hi hk hf => ?_, h.rr, h.args⟩
  · rcases cases' i c hi with ⟨rfl, rfl⟩ | ⟨_, hi'⟩
    · rw [hbl]; exact ⟨hbox, fun hk => absurd hl0 (by omega), fun _ => hK⟩
    · rw [hbx i c hi']
      obtain ⟨⟨t', ht⟩, hn⟩ := h.box i c hi'
      exact ⟨⟨t', by rw [hsc i c hi']; exact ht⟩, hn⟩
  · rcases cases' i ci hi with ⟨rfl, rfl⟩ | ⟨hi0, hi'⟩ <;> rcases cases' j cj hj with ⟨rfl, rfl⟩ | ⟨hj0, hj'⟩
    · exact absurd rfl hij
    · rw [hbx j cj hj', hbl]
      exact fun e => hnb j cj hj' e.symm
    · rw [hbx i ci hi', hbl]
      exact hnb i ci hi'
    · rw [hbx i ci hi', hbx j cj hj']
      exact h.bb i j ci cj h0 hi' hj' hij
  · rcases cases' i ci hi with ⟨rfl, rfl⟩ | ⟨hi0, hi'⟩
    · rw [hbl]
      intro e
      subst e
      exact hnr k r hk hf
    · rw [hbx i ci hi']
      exact h.br i ci k r b' h0 hi' hk hf


theorem setBx_same (A : Asg) (l : Nat) : A.setBx l (A.bx l) = A := by
  have : upd A.bx l (A.bx l) = A.bx := by
    funext i
    by_cases h : i = l
    · subst h; rw [upd_same]
    · rw [upd_ne _ _ _ h]
  show ({ A with bx := upd A.bx l (A.bx l) } : Asg) = A
  rw [this]
theorem updL_inv {f : Nat → Option Row} {n : Nat} {xs : List Row} {q : Nat} {r : Row} (h : updL f n xs q = some r) : (n ≤ q ∧ q < n + xs.length ∧ xs[q - n]? = some r) ∨ f q = some r := by
  unfold updL at h
  split at h
  · rename_i hq; exact .inl ⟨hq.1, hq.2, h⟩
  · exact .inr h
/-- A call that hands back a box and rows. -/
theorem post_bcall {box : Option (List AVal)} {rows : List Row} {v : AVal} {e : Ending} (h : Ctx E A hp rw_ lb box.isSome lr rows.length w) (hq : BPost A lb lr box rows v w e w') :
    ∃ u, e = .returned u ∧ Post E A hp rw_ lb lr w ⟨box, rows, v⟩ u w' := by
  obtain ⟨hs, bb, he, hB, hn, hnone, hbox⟩ := hq
  refine ⟨_, he, ?_⟩
  have hlen := hn.len
  have hag1 : ∀ bo, Agr lb bo lr rows.length A (A.setRws lr hs) := fun bo => ⟨fun i hi => rfl, fun k hk => by
    have := setRws_out A lr hs k (by omega)
    exact ⟨this.1.symm, this.2.symm⟩⟩
  have hM1 := (h.mem.grow hB h.klt).addRows lr hs rows hn (fun b hb hk => by have := h.klt b hk; omega) (fun i c b _ hi hb e => by have := h.mem.box_lt hi; omega)
    (fun k r b hk hf hb => by have := h.mem.foot_lt hk hf; omega) h.fr h.n0 (h.stb _ (hag1 _))
  cases box with
  | none =>
    rw [hnone rfl, show (A.setRws lr hs).setBx lb (A.bx lb) = A.setRws lr hs from setBx_same (A.setRws lr hs) lb]
    exact ⟨⟨A.setRws lr hs, hag1 _, rfl, hM1, hB.size⟩⟩
  | some cs =>
    obtain ⟨hb1, hb2, hb3⟩ := hbox cs rfl
    have hag : Agr lb true lr rows.length A ((A.setRws lr hs).setBx lb bb) := ⟨fun i hi => (upd_ne _ _ _ (hi rfl)).symm, (hag1 true).rw⟩
    refine ⟨⟨(A.setRws lr hs).setBx lb bb, hag, rfl, ?_, hB.size⟩⟩
    refine hM1.boxNew lb bb cs h.b0 (h.fb rfl) (fun i c hi => (h.stb _ hag i c hi).trans (h.stb _ (hag1 true) i c hi).symm) hb2 (fun hk => by have := h.klt _ hk; omega) (fun i c hi e => ?_) (fun q r hq hf => ?_)
    · have := h.mem.box_lt hi
      rw [setRws_bx] at e
      omega
    · rcases updL_inv hq with ⟨h1, h2, h3⟩ | h1
      · have hlt : q - lr < hs.length := by omega
        obtain ⟨q1, q2⟩ := setRws_in A lr hs (q - lr) hs[q - lr] (List.getElem?_eq_getElem hlt)
        have eq : lr + (q - lr) = q := by omega
        rw [eq] at q1 q2
        rw [q1, q2] at hf
        exact hb3 _ r _ h3 (List.getElem?_eq_getElem hlt) hf
      · have hout : q < lr ∨ lr + hs.length ≤ q := by
          rcases Nat.lt_or_ge q lr with h' | h'
          · exact .inl h'
          · refine .inr ?_
            rcases Nat.lt_or_ge q (lr + rows.length) with h'' | h''
            · rw [h.fr q h' h''] at h1; cases h1
            · omega
        obtain ⟨q1, q2⟩ := setRws_out A lr hs q hout
        rw [q1, q2] at hf
        have := h.mem.foot_lt h1 hf
        omega

end

theorem withs_eq (fr : List AVal) : ∀ (l : List Operand) (k : List AVal → Prop), withs fr l k → ∃ vs, k vs ∧ vs.length = l.length ∧ ∀ A (ρ : Operand → Value), (∀ x ∈ l, ∀ v, ev fr x = some v → ρ x = v.den A) → l.map ρ = dens A vs
  | [], k, h => ⟨[], h, rfl, fun _ _ _ => by simp [dens]⟩
  | x :: l, k, h => by
    simp only [withs, with1] at h
    cases hx : ev fr x with
    | none => simp [hx] at h
    | some v =>
      simp only [hx] at h
      obtain ⟨vs, hk, hl, hv⟩ := withs_eq fr l _ h
      refine ⟨v :: vs, hk, by simp [hl], fun A ρ hρ => ?_⟩
      simp only [List.map_cons, dens, hρ x (by simp) v hx, hv A ρ (fun y hy => hρ y (by simp [hy]))]

theorem with1_eq {fr : List AVal} {x : Operand} {k : AVal → Prop} (h : with1 fr x k) : ∃ v, ev fr x = some v ∧ k v := by
  unfold with1 at h
  cases hx : ev fr x with
  | none => simp [hx] at h
  | some v => simp only [hx] at h; exact ⟨v, rfl, h⟩

theorem cellsA_eq {v : AVal} {k : List AVal → Prop} (h : cellsA v k) : ∃ cs, k cs ∧ ∀ A, (v.den A).cells = (dens A cs).toArray := by
  unfold cellsA at h
  split at h
  all_goals first
    | exact h.elim
    | (refine ⟨_, h, fun A => ?_⟩; simp [AVal.den, Value.cells, dens, Hdr.val, Hdr.ptr]; done)

end Go.Proofs.YtmbfflckgmdncaaDoor.Fw

/- Each operation's effect is what the machine comes to. -/
namespace Go.Proofs.YtmbfflckgmdncaaDoor.Fw
open Go Go.RowKit
set_option linter.unusedVariables false
set_option linter.unusedSimpArgs false

def Match (fr : List AVal) (o : Oper) (ρ : Operand → Value) (A : Asg) : Prop := ∀ x ∈ o.op.operands.toList, ∀ v, ev fr x = some v → ρ x = v.den A

def Good (E : Env) (hg : Nat → Option (List AVal)) (rg : Nat → Option Row) (lb lr : Nat) (fr : List AVal) (o : Oper) (k : Eff → Prop) : Prop :=
  ∃ eff, k eff ∧ ∀ A hp rw w (ρ : Operand → Value), Ctx E A hp rw lb eff.box.isSome lr eff.rows.length w → (∀ i c, hg i = some c → hp i = some c) → (∀ i r, rg i = some r → rw i = some r) →
    Match fr o ρ A → (eff.rows = [] → ∀ B, Agr lb eff.box.isSome lr eff.rows.length A B → ∀ cs, eff.box = some cs → dens B cs = dens A cs) →
    (∀ i c, hg i = some c → ∀ B : Asg, B.bx = A.bx → (∀ k, k < lr + 1000 → B.rw k = A.rw k ∧ B.inn k = A.inn k) → dens B c = dens A c) →
    Runs E.P (fun u w' => Post E A hp rw lb lr w eff u w') ((execOp ρ o).run E.P w)

section
variable {E : Env} {T : TypeId → Option TInfo} {G : List (FuncId × Ctr)} {hg : Nat → Option (List AVal)} {rg : Nat → Option Row} {lb lr : Nat} {fr : List AVal} {o : Oper} {k : Eff → Prop}

theorem good_val {v : AVal} (hk : k (val v)) (hrun : ∀ A hp rw w (ρ : Operand → Value), Mem E A hp rw w → (∀ i c, hg i = some c → hp i = some c) → (∀ i r, rg i = some r → rw i = some r) →
    Match fr o ρ A → (execOp ρ o).run E.P w = .ok (.value (v.den A)) w) : Good E hg rg lb lr fr o k :=
  ⟨_, hk, fun A hp rw w ρ hc h1 h2 h3 _ _ => runs_val hc.mem (hrun A hp rw w ρ hc.mem h1 h2 h3)⟩

theorem evBin_good {dst ty pos after guard} {op : BinOp} {t : TypeId} {x y : Operand} {yt : TypeId} {vx vy : AVal} (hx : ev fr x = some vx) (hy : ev fr y = some vy)
    {wf : Bool} (h : evBin wf op vx vy fun r => k (val r)) : Good E hg rg lb lr fr ⟨dst, .binOp op t x y yt, ty, pos, after, guard⟩ k := by
  obtain ⟨v, hk, hv⟩ := evBin_sound h
  refine good_val hk fun A hp rw w ρ hm h1 h2 h3 => ?_
  have ex : ρ x = vx.den A := h3 x (by simp [Op.operands]) vx hx
  have ey : ρ y = vy.den A := h3 y (by simp [Op.operands]) vy hy
  simp only [execOp]
  exact wrapF _ _ _ _ (by rw [ex, ey]; exact hv A E.P w t x y)

theorem eqOp_good (hT : TOk E.P T) {dst ty pos after guard} {t : TypeId} {x y : Operand} {yt : TypeId} {vx vy : AVal} (hx : ev fr x = some vx) (hy : ev fr y = some vy) (neg : Bool)
    (hag : (∃ a b, vx = .agg a ∧ vy = .agg b) ∨ (∃ a b, vx = .bool a ∧ vy = .bool b))
    (h : eqV T 6 t vx vy fun r => k (val (.bool (if neg then !r else r)))) : Good E hg rg lb lr fr ⟨dst, .binOp (if neg then .neq else .eql) t x y yt, ty, pos, after, guard⟩ k := by
  obtain ⟨r, hk, hr⟩ := eqV_sound hT _ _ _ _ _ h
  refine good_val hk fun A hp rw w ρ hm h1 h2 h3 => ?_
  have ex : ρ x = vx.den A := h3 x (by cases neg <;> simp [Op.operands]) vx hx
  have ey : ρ y = vy.den A := h3 y (by cases neg <;> simp [Op.operands]) vy hy
  have hr' := hr A 9994 w
  simp only [execOp]
  refine wrapF _ _ _ _ ?_
  rw [ex, ey]
  rcases hag with ⟨a, b, rfl, rfl⟩ | ⟨a, b, rfl, rfl⟩
  · have hg0 : ∀ op, (eqGuard op t x y (AVal.den A (.agg a)) (AVal.den A (.agg b))).run E.P w = .ok () w := fun op => by
      simp only [AVal.den]
      refine run_eqGuard_agg w op t x y _ _ ?_
      simp only [eqV] at h
      cases ht : T t with
      | none => simp [ht] at h
      | some i =>
        simp only [ht] at h
        split at h
        · split at h
          · rename_i he
            exact ((hT _ _ ht).eqOk he).2.1
          · exact h.elim
        all_goals simp at h
    cases neg
    · simp only [Bool.false_eq_true, if_false, Sem.run_bind, hg0, Result.andThen_ok]
      simp only [AVal.den] at hr' ⊢
      rw [run_eql_struct, hr']
      rfl
    · simp only [if_true, Sem.run_bind, hg0, Result.andThen_ok]
      simp only [AVal.den] at hr' ⊢
      rw [run_neq_struct, hr']
      rfl
  · cases neg
    · simp only [Bool.false_eq_true, if_false, Sem.run_bind, AVal.den, eqG_bool, Result.andThen_ok] at hr' ⊢
      simp only [binOp, Op.equal, Op.maxDepth, Sem.run_bind, hr', Result.andThen_ok, Sem.run_pure]
    · simp only [if_true, Sem.run_bind, AVal.den, eqG_bool, Result.andThen_ok] at hr' ⊢
      simp only [binOp, Op.equal, Op.maxDepth, Sem.run_bind, hr', Result.andThen_ok, Sem.run_pure]

theorem add_add (a : Addr) (m n : Nat) : (a.add m).add n = a.add (m + n) := by
  unfold Addr.add
  by_cases h1 : m = 0 <;> by_cases h2 : n = 0 <;> simp [h1, h2] <;> omega

/-- An element that lies in a slice. -/
theorem load_elem {P : Program} {t : TypeId} {A : Asg} {w : World} {hd : Hdr} {c : TyC} {e : TypeId} {own : Bool} {xs : List c.α} (hra : RowAt w hd ⟨c, e, own, xs⟩) {n off : Nat} (hlt : n < xs.length) {u : AVal}
    (hu : ∀ (A : Asg) (w : World) (a : Addr), (∀ (j : Nat) (v : AVal), (c.enc (xs.getD n c.dflt))[j]? = some v → w.cell? (a.add j) = some (v.den A)) → (loadVar t (a.add off)).run P w = .ok (u.den A) w) :
    ∃ a, hd.a = some a ∧ (loadVar t (a.add (n * c.sz + off))).run P w = .ok (u.den A) w := by
  have hxs : xs[n]? = some (xs.getD n c.dflt) := by simp [hlt]
  obtain ⟨a, ha, hcell⟩ := hra.cell n _ hxs
  have hl := hu A w (a.add (n * c.sz)) (fun j v hj => by
    rw [add_add, hcell j v hj]
    rw [AVal.flat_den (TyC.flat c _ v (List.mem_of_getElem? hj)) A A0])
  rw [add_add] at hl
  exact ⟨a, ha, hl⟩

theorem load_good (hT : TOk E.P T) {dst ty pos after guard} {t : TypeId} {x : Operand} {v : AVal} {i : TInfo} (hx : ev fr x = some v) (ht : T t = some i)
    (h : ldA hg rg i.agg i.size v fun u => k (val u)) : Good E hg rg lb lr fr ⟨dst, .load t x, ty, pos, after, guard⟩ k := by
  have hi := hT _ _ ht
  unfold ldA at h
  split at h
  · rename_i b off
    cases hb : hg b with
    | none => simp [hb] at h
    | some cs =>
      simp only [hb] at h
      split at h
      case h_2 => exact h.elim
      rename_i hmo
      obtain ⟨u, hk, hu⟩ := loadVar_sound hi h
      refine good_val hk fun A hp rw w ρ hm h1 h2 h3 => ?_
      have ex := h3 x (by simp [Op.operands]) _ hx
      obtain ⟨t', hbx⟩ := (hm.box b cs (h1 _ _ hb)).1.cells hmo
      have hl := hu A w ⟨A.bx b, 0, none⟩ (fun j c hj => by
        have : (⟨A.bx b, 0, none⟩ : Addr).add j = ⟨A.bx b, j, none⟩ := by unfold Addr.add; split <;> simp_all
        rw [this]
        simp [World.cell?, hbx, dens_eq, hj])
      have hadd : (⟨A.bx b, 0, none⟩ : Addr).add off = ⟨A.bx b, off, none⟩ := by unfold Addr.add; split <;> simp_all
      rw [hadd] at hl
      simp only [execOp]
      refine wrapF _ _ _ _ ?_
      rw [ex]
      simp only [AVal.den, Instr.loadAt, Instr.sureAddr, Sem.run_bind, Sem.run_pure, Result.andThen_ok, hl]
  · rename_i r n off sz
    split at h
    · rename_i c e' e own yss hr
      split at h
      · rename_i hagg
        obtain ⟨hlt, hk⟩ := h
        have hp : partA i.agg i.size [.irow r n] 0 fun u => u = .irow r n := by simp only [partA, hagg, nth]
        obtain ⟨u, rfl, hu⟩ := loadVar_sound hi hp
        refine good_val hk fun A hp rw w ρ hm h1 h2 h3 => ?_
        have ex := h3 x (by simp [Op.operands]) _ hx
        obtain ⟨hra, _⟩ := hm.row r _ (h2 _ _ hr)
        obtain ⟨a, ha, hcell⟩ := hra.hdr hlt
        have hl := hu A w (a.add n) (fun j v hj => by
          cases j with
          | zero =>
            simp at hj; subst hj
            rw [add_add, Nat.add_zero, hcell]; rfl
          | succ j => simp at hj)
        rw [add_add] at hl
        simp only [execOp]
        refine wrapF _ _ _ _ ?_
        rw [ex]
        simp only [AVal.den, Hdr.ptr, ha, Option.getD_some, Instr.loadAt, Instr.sureAddr, Sem.run_bind, Sem.run_pure, Result.andThen_ok, Nat.mul_one, hl]
      · exact h.elim
    · rename_i c e own xs hne hr
      have hc : c.isL = false := by
        cases c <;> first | rfl | exact (hne _ _ _ rfl HEq.rfl).elim
      split at h
      · rename_i hsz
        have hsz := Nat.eq_of_beq_eq_true hsz
        obtain ⟨hlt, h⟩ := h
        obtain ⟨u, hk, hu⟩ := loadVar_sound hi h
        refine good_val hk fun A hp rw w ρ hm h1 h2 h3 => ?_
        have ex := h3 x (by simp [Op.operands]) _ hx
        obtain ⟨hra, _⟩ := hm.row r _ (h2 _ _ hr)
        obtain ⟨a, ha, hl⟩ := load_elem (A := A) (hra.flat hc) hlt hu
        simp only [execOp]
        refine wrapF _ _ _ _ ?_
        rw [ex]
        simp only [AVal.den, Hdr.ptr, ha, Option.getD_some, Instr.loadAt, Instr.sureAddr, Sem.run_bind, Sem.run_pure, Result.andThen_ok, hsz, hl]
      · exact h.elim
    · exact h.elim
  · rename_i r n j off sz
    split at h
    · rename_i c e' e own yss hr
      split at h
      · rename_i hc hsz
        have hsz := Nat.eq_of_beq_eq_true hsz
        obtain ⟨⟨hlt, hlt2⟩, h⟩ := h
        obtain ⟨u, hk, hu⟩ := loadVar_sound hi h
        refine good_val hk fun A hp rw w ρ hm h1 h2 h3 => ?_
        have ex := h3 x (by simp [Op.operands]) _ hx
        obtain ⟨hra, _⟩ := hm.row r _ (h2 _ _ hr)
        obtain ⟨a, ha, hl⟩ := load_elem (A := A) (hra.inner hlt) hlt2 hu
        simp only [execOp]
        refine wrapF _ _ _ _ ?_
        rw [ex]
        simp only [AVal.den, Hdr.ptr, ha, Option.getD_some, Instr.loadAt, Instr.sureAddr, Sem.run_bind, Sem.run_pure, Result.andThen_ok, hsz, hl]
      · exact h.elim
    · exact h.elim
  · exact h.elim

end
end Go.Proofs.YtmbfflckgmdncaaDoor.Fw

/- Each operation's effect is what the machine comes to: more of them. -/
namespace Go.Proofs.YtmbfflckgmdncaaDoor.Fw
open Go Go.RowKit
set_option linter.unusedVariables false
set_option linter.unusedSimpArgs false

section
variable {E : Env} {T : TypeId → Option TInfo} {G : List (FuncId × Ctr)} {hg : Nat → Option (List AVal)} {rg : Nat → Option Row} {lb lr : Nat} {fr : List AVal} {o : Oper} {k : Eff → Prop}
variable {dst : Option Tmp} {ty : TypeId} {pos : String} {after : Array Edge} {guard : Option (Nat × Bool)}

theorem move_good {x : Operand} {v : AVal} (hx : ev fr x = some v) (h : k (val v)) : Good E hg rg lb lr fr ⟨dst, .move x, ty, pos, after, guard⟩ k :=
  good_val h fun A hp rw w ρ hm h1 h2 h3 => by simp only [execOp, h3 x (by simp [Op.operands]) v hx]; rfl
theorem assign_good {x : Operand} {v : AVal} (hx : ev fr x = some v) (h : k (val v)) : Good E hg rg lb lr fr ⟨dst, .assign x, ty, pos, after, guard⟩ k :=
  good_val h fun A hp rw w ρ hm h1 h2 h3 => by simp only [execOp, h3 x (by simp [Op.operands]) v hx]; rfl

theorem pick_good {c a b : Operand} {b0 : Bool} (hc : ev fr c = some (.bool b0)) (h : bcond b0 (with1 fr a fun v => k (val v)) (with1 fr b fun v => k (val v))) :
    Good E hg rg lb lr fr ⟨dst, .pick c a b, ty, pos, after, guard⟩ k := by
  cases b0
  · obtain ⟨v, hv, hk⟩ := with1_eq (show with1 fr b fun v => k (val v) from h)
    refine good_val hk fun A hp rw w ρ hm h1 h2 h3 => ?_
    simp only [execOp, h3 c (by simp [Op.operands]) _ hc, h3 b (by simp [Op.operands]) _ hv, AVal.den]
    simp [asBool]
  · obtain ⟨v, hv, hk⟩ := with1_eq (show with1 fr a fun v => k (val v) from h)
    refine good_val hk fun A hp rw w ρ hm h1 h2 h3 => ?_
    simp only [execOp, h3 c (by simp [Op.operands]) _ hc, h3 a (by simp [Op.operands]) _ hv, AVal.den]
    simp [asBool]

theorem run_newVar (P : Program) (w : World) (t : TypeId) (v : Value) : (newVar t v).run P w = .ok ⟨w.heap.size, 0, none⟩ { w with heap := w.heap.push (.cells v.cells t) } := by
  simp [newVar, newRow, newObj, Sem.run]

theorem alloc_good (hT : TOk E.P T) {t : TypeId} {i : TInfo} (ht : T t = some i) (h : k ⟨some i.zero, [], .loc lb 0⟩) : Good E hg rg lb lr fr ⟨dst, .alloc t, ty, pos, after, guard⟩ k := by
  refine ⟨_, h, fun A hp rw w ρ hc h1 h2 h3 h4 h5 => ?_⟩
  obtain ⟨z, hz, hzc⟩ := run_zero (hT _ _ ht) w
  have hfl : ∀ c ∈ i.zero, c.flat = true := List.all_eq_true.1 (hT _ _ ht).flat
  have hrun : (execOp ρ ⟨dst, .alloc t, ty, pos, after, guard⟩).run E.P w = .ok (.value (.pointer (some ⟨w.heap.size, 0, none⟩))) { w with heap := w.heap.push (.cells (dens A i.zero).toArray t) } := by
    simp only [execOp]
    refine wrapF _ _ _ _ ?_
    simp only [Instr.alloc, Sem.run_bind, hz, Result.andThen_ok, run_newVar, Sem.run_pure, hzc, dens_flat hfl A0 A]
  rw [hrun]
  exact post_box (mapOf_flat hfl) hc (fun B hB => dens_flat hfl _ _)

theorem box_good {t : TypeId} {x : Operand} {v : AVal} (hx : ev fr x = some v) (h : cellsA v fun cs => (match mapOf cs with | none => k ⟨some cs, [], .loc lb 0⟩ | some _ => False)) : Good E hg rg lb lr fr ⟨dst, .box t x, ty, pos, after, guard⟩ k := by
  obtain ⟨cs, hk, hcs⟩ := cellsA_eq h
  split at hk
  case h_2 => exact hk.elim
  rename_i hmo
  refine ⟨_, hk, fun A hp rw w ρ hc h1 h2 h3 h4 h5 => ?_⟩
  have hrun : (execOp ρ ⟨dst, .box t x, ty, pos, after, guard⟩).run E.P w = .ok (.value (.pointer (some ⟨w.heap.size, 0, none⟩))) { w with heap := w.heap.push (.cells (dens A cs).toArray t) } := by
    simp only [execOp]
    refine wrapF _ _ _ _ ?_
    rw [h3 x (by simp [Op.operands]) _ hx]
    simp only [Instr.box, Sem.run_bind, run_newVar, Result.andThen_ok, Sem.run_pure, hcs]
  rw [hrun]
  exact post_box hmo hc (fun B hB => h4 rfl B hB cs rfl)

theorem unOp_good {op : UnOp} {t : TypeId} {x : Operand} {v : AVal} (hx : ev fr x = some v) {wf : Bool} (h : evUn wf op v fun r => k (val r)) : Good E hg rg lb lr fr ⟨dst, .unOp op t x, ty, pos, after, guard⟩ k := by
  obtain ⟨u, hk, hu⟩ := evUn_sound h
  refine good_val hk fun A hp rw w ρ hm h1 h2 h3 => ?_
  simp only [execOp]
  refine wrapF _ _ _ _ ?_
  rw [h3 x (by simp [Op.operands]) _ hx]
  exact hu A E.P w

theorem fieldA_eq {i : TInfo} {f : Nat} {k : Field → Prop} (h : fieldA i f k) : ∃ fs fd, i.desc = .struct fs ∧ fs[f]? = some fd ∧ k fd := by
  unfold fieldA at h
  split at h
  · rename_i fs hd
    rw [nth_eq] at h
    cases hf : fs.toList[f]? with
    | none => simp [hf] at h
    | some fd => simp only [hf] at h; exact ⟨fs, fd, hd, by simpa using hf, h⟩
  · exact h.elim

theorem fieldAddr_good (hT : TOk E.P T) {s : TypeId} {x : Operand} {f : Nat} {v : AVal} {i : TInfo} (hx : ev fr x = some v) (hs : T s = some i)
    (h : fieldA i f fun fd => (match T fd.type with
      | some fi => (match fi.size with
        | 0 => False
        | _ + 1 => faddrA v fd.offset fun u => k (val u))
      | none => False)) : Good E hg rg lb lr fr ⟨dst, .fieldAddr s x f, ty, pos, after, guard⟩ k := by
  obtain ⟨fs, fd, hd, hfd, h⟩ := fieldA_eq h
  cases hft : T fd.type with
  | none => simp [hft] at h
  | some fi =>
    simp only [hft] at h
    have hund := (hT _ _ hs).und
    rw [hd] at hund
    have add_add : ∀ (a : Addr) (m n : Nat), (a.add m).add n = a.add (m + n) := fun a m n => by
      unfold Addr.add
      by_cases h1 : m = 0 <;> by_cases h2 : n = 0 <;> simp [h1, h2] <;> omega
    have hrun : ∀ (a : Addr) (w : World), fi.size ≠ 0 → (Instr.fieldAt s (.pointer (some a)) f).run E.P w = .ok (.pointer (some (a.add fd.offset))) w := fun a w hne => by
      simp only [Instr.fieldAt, Sem.run_bind, run_underlying hund, Result.andThen_ok, hfd, Instr.sureAddr, Sem.run_pure, fieldPlace, run_size (hT _ _ hft)]
      rw [if_neg hne]
      rfl
    split at h
    · exact h.elim
    · rename_i n hn
      unfold faddrA at h
      cases v <;> simp only [numK_eq] at h
      case loc b off _ =>
        refine good_val h fun A hp rw w ρ hm h1 h2 h3 => ?_
        simp only [execOp]
        refine wrapF _ _ _ _ ?_
        rw [h3 x (by simp [Op.operands]) _ hx]
        simp only [AVal.den]
        rw [hrun _ _ (by omega)]
        have : (⟨A.bx b, off, none⟩ : Addr).add fd.offset = ⟨A.bx b, off + fd.offset, none⟩ := by unfold Addr.add; split <;> simp_all
        rw [this]
      case ele r j off sz _ =>
        refine good_val h fun A hp rw w ρ hm h1 h2 h3 => ?_
        simp only [execOp]
        refine wrapF _ _ _ _ ?_
        rw [h3 x (by simp [Op.operands]) _ hx]
        simp only [AVal.den, Hdr.ptr]
        rw [hrun _ _ (by omega), add_add, Nat.add_assoc]
      all_goals exact h.elim

theorem field_good (hT : TOk E.P T) {s : TypeId} {x : Operand} {f : Nat} {cs : List AVal} {i : TInfo} (hx : ev fr x = some (.agg cs)) (hs : T s = some i)
    (h : fieldA i f fun fd => (match T fd.type with | some fi => partA fi.agg fi.size cs fd.offset fun u => k (val u) | none => False)) : Good E hg rg lb lr fr ⟨dst, .field s x f, ty, pos, after, guard⟩ k := by
  obtain ⟨fs, fd, hd, hfd, h⟩ := fieldA_eq h
  cases hft : T fd.type with
  | none => simp [hft] at h
  | some fi =>
    simp only [hft] at h
    have hund := (hT _ _ hs).und
    rw [hd] at hund
    obtain ⟨u, hk, hu⟩ := part_sound (hT _ _ hft) h
    refine good_val hk fun A hp rw w ρ hm h1 h2 h3 => ?_
    simp only [execOp]
    refine wrapF _ _ _ _ ?_
    rw [h3 x (by simp [Op.operands]) _ hx]
    simp only [AVal.den, Instr.field, Sem.run_bind, run_underlying hund, Result.andThen_ok, hfd, asAgg, Sem.run_pure, hu]

/-- An index into a slice of a length. -/
theorem indexAt_run {P : Program} {T : TypeId → Option TInfo} (hT : TOk P T) {t e' : TypeId} {ti ei : TInfo} (ht : T t = some ti) (hd : ti.desc = .slice e') (he : T e' = some ei) (w : World) (kd : IntKind) (n : Int) (a : Addr) (len cap : Nat)
    (hn : 0 ≤ n ∧ n < (len : Int)) : (Instr.indexAt t (.slice (some a) len cap) (.int kd n)).run P w = .ok (.pointer (some (a.add (n.toNat * ei.size)))) w := by
  have hund := (hT _ _ ht).und
  rw [hd] at hund
  simp only [Instr.indexAt, asIntOf, Sem.run_bind, Sem.run_pure, Result.andThen_ok, run_underlying hund, Sem.run_ite, hn, and_self, if_true, run_size (hT _ _ he)]

theorem indexAddr_good (hT : TOk E.P T) {t : TypeId} {x i : Operand} {kd : IntKind} {n : Int} {v u : AVal} {ti ei : TInfo} {e' : TypeId}
    (hx : ev fr x = some v) (hi : ev fr i = some (.int kd n)) (ht : T t = some ti) (hd : ti.desc = .slice e') (he : T e' = some ei) (h : k (val u))
    (hv : ∀ A hp rw w, Mem E A hp rw w → (∀ i r, rg i = some r → rw i = some r) → ∃ (hd : Hdr) (a : Addr), v.den A = hd.val ∧ hd.a = some a ∧ (0 ≤ n ∧ n < (hd.len : Int)) ∧ u.den A = .pointer (some (a.add (n.toNat * ei.size)))) :
    Good E hg rg lb lr fr ⟨dst, .indexAddr t x i, ty, pos, after, guard⟩ k := by
  refine good_val h fun A hp rw w ρ hm h1 h2 h3 => ?_
  obtain ⟨hdr, a, e1, e2, e3, e4⟩ := hv A hp rw w hm h2
  simp only [execOp]
  refine wrapF _ _ _ _ ?_
  rw [h3 x (by simp [Op.operands]) _ hx, h3 i (by simp [Op.operands]) _ hi, e1, e4]
  simp only [Hdr.val, e2, AVal.den]
  exact indexAt_run hT ht hd he w kd n a hdr.len hdr.cap e3

theorem index_good (hT : TOk E.P T) {t : TypeId} {x i : Operand} {s : ByteArray} {kd : IntKind} {n : Int} {ti : TInfo}
    (hx : ev fr x = some (.str s)) (hi : ev fr i = some (.int kd n)) (ht : T t = some ti) (hd : ti.desc = .string)
    (hn : 0 ≤ n ∧ n < (s.size : Int)) (h : k (val (.int .u8 (byteAt s n.toNat : Int)))) : Good E hg rg lb lr fr ⟨dst, .index t x i, ty, pos, after, guard⟩ k := by
  refine good_val h fun A hp rw w ρ hm h1 h2 h3 => ?_
  have hund := (hT _ _ ht).und
  rw [hd] at hund
  have hlt : n.toNat < s.size := by omega
  simp only [execOp]
  refine wrapF _ _ _ _ ?_
  rw [h3 x (by simp [Op.operands]) _ hx, h3 i (by simp [Op.operands]) _ hi]
  have hb : s[n.toNat]? = some (s[n.toNat]) := by simp [hlt]
  simp only [AVal.den, Instr.index, asIntOf, Sem.run_bind, Sem.run_pure, Result.andThen_ok, run_underlying hund, hn.1, if_true, hb]
  have : (byteAt s n.toNat : Int) = (s[n.toNat].toNat : Int) := by
    unfold byteAt
    have hl : n.toNat < s.data.toList.length := by simpa using hlt
    rw [List.getD_eq_getElem?_getD, List.getElem?_eq_getElem hl]
    rfl
  rw [this]

theorem convert_good (hT : TOk E.P T) {s d : TypeId} {x : Operand} {kd0 kd : IntKind} {n : Int} {si di : TInfo} (hx : ev fr x = some (.int kd0 n)) (hs : T s = some si) (hd : T d = some di) (hdd : di.desc = .int kd)
    (hr : Rng kd n) (h : k (val (.int kd n))) : Good E hg rg lb lr fr ⟨dst, .convert s d x, ty, pos, after, guard⟩ k := by
  refine good_val h fun A hp rw w ρ hm h1 h2 h3 => ?_
  have hu1 := (hT _ _ hs).und
  have hu2 := (hT _ _ hd).und
  rw [hdd] at hu2
  simp only [execOp]
  refine wrapF _ _ _ _ ?_
  rw [h3 x (by simp [Op.operands]) _ hx]
  simp only [AVal.den, convert, Sem.run_bind, run_underlying hu1, run_underlying hu2, Result.andThen_ok]
  cases si.desc <;> simp [Conv.intToInt, wrap_of_rng hr]

theorem bytes_string_run {P : Program} (w : World) (src dst e : TypeId) (hs : P.underlying src = some (.slice e)) (he : P.underlying e = some (.int .u8)) (hd : P.underlying dst = some .string) (h : Hdr) (e0 : TypeId) (own : Bool) (xs : List Int)
    (hr : RowAt w h ⟨.int .u8, e0, own, xs⟩) : (convert src dst h.val).run P w = .ok (.string (strOfNums xs)) w := by
  cases xs with
  | nil =>
    have hl : h.len = 0 := hr.len
    cases ha : h.a with
    | none =>
      have := run_convert_bytes_nil (P := P) w src e hs he h.len h.cap dst hd
      simp only [Hdr.val, ha, this]
      rfl
    | some a =>
      have hl' : (loadCells a 0).run P w = .ok #[] w := by simpa using run_loadCells_list (P := P) w a [] (by simp)
      rw [Hdr.val, ha, hl, run_convert_bytes_string w src dst e _ 0 h.cap hs he hd, run_bytesToString w a 0 h.cap [] (by simpa using hl')]
      rfl
  | cons x l =>
    obtain ⟨a, ha⟩ := hr.there (i := 0) (by show 0 < (x :: l).length; simp)
    have hlen : h.len = (x :: l).length := hr.len
    have hload : (loadCells a h.len).run P w = .ok ((x :: l).map (Value.int .u8)).toArray w := by
      have := run_loadCells_list (P := P) w a ((x :: l).map (Value.int .u8)) (fun j v hj => by
        rw [List.getElem?_map] at hj
        cases hx : (x :: l)[j]? with
        | none => rw [hx] at hj; cases hj
        | some y =>
          rw [hx] at hj
          cases hj
          obtain ⟨a', ha', hc⟩ := hr.cell j y hx
          rw [ha] at ha'; cases ha'
          have := hc 0 (.int .u8 y) rfl
          simpa [TyC.sz, AVal.den] using this)
      rw [List.length_map, ← hlen] at this
      exact this
    rw [Hdr.val, ha, run_convert_bytes_string w src dst e _ h.len h.cap hs he hd, run_bytesToString w a h.len h.cap _ hload, foldl_push_bytes]
    simp [strOfNums, ByteArray.empty, ByteArray.emptyWithCapacity]
    try rfl

theorem bytesToStr_good (hT : TOk E.P T) {s d : TypeId} {x : Operand} {v : AVal} {si di ei : TInfo} {e : TypeId} {xs : List Int} (hx : ev fr x = some v) (hs : T s = some si) (hd : T d = some di) (hdd : di.desc = .string) (hsd : si.desc = .slice e) (he : T e = some ei) (hed : ei.desc = .int .u8)
    (hv : ∀ A hp rw w, Mem E A hp rw w → (∀ i r, rg i = some r → rw i = some r) → ∃ (hd : Hdr) (e0 : TypeId) (own : Bool), v.den A = hd.val ∧ RowAt w hd ⟨.int .u8, e0, own, xs⟩)
    (h : k (val (.str (strOfNums xs)))) : Good E hg rg lb lr fr ⟨dst, .convert s d x, ty, pos, after, guard⟩ k := by
  refine good_val h fun A hp rw w ρ hm h1 h2 h3 => ?_
  have hu1 := (hT _ _ hs).und
  have hu2 := (hT _ _ hd).und
  have hu3 := (hT _ _ he).und
  rw [hdd] at hu2
  rw [hsd] at hu1
  rw [hed] at hu3
  obtain ⟨hdr, e0, own, e1, hr⟩ := hv A hp rw w hm h2
  simp only [execOp]
  refine wrapF _ _ _ _ ?_
  rw [h3 x (by simp [Op.operands]) _ hx, e1]
  exact bytes_string_run w s d e hu1 hu3 hu2 hdr e0 own xs hr

theorem makeFunc_good {f : FuncId} {first cap : Array Operand} (h : withs fr first.toList fun fs => withs fr cap.toList fun cs => k (val (.fn f fs cs))) :
    Good E hg rg lb lr fr ⟨dst, .makeFunc (.func f) first cap, ty, pos, after, guard⟩ k := by
  obtain ⟨fs, h, _, hfs⟩ := withs_eq _ _ _ h
  obtain ⟨cs, h, _, hcs⟩ := withs_eq _ _ _ h
  refine good_val h fun A hp rw w ρ hm h1 h2 h3 => ?_
  have e1 := hfs A ρ (fun x hx v hv => h3 x (by simp [Op.operands]; simp at hx; exact .inl hx) v hv)
  have e2 := hcs A ρ (fun x hx v hv => h3 x (by simp [Op.operands]; simp at hx; exact .inr hx) v hv)
  simp only [execOp]
  refine wrapF _ _ _ _ ?_
  have a1 : first.map ρ = (dens A fs).toArray := by apply Array.ext'; rw [← e1]; exact Array.toList_map
  have a2 : cap.map ρ = (dens A cs).toArray := by apply Array.ext'; rw [← e2]; exact Array.toList_map
  simp only [Instr.makeFunc, Sem.run_pure, AVal.den, a1, a2]

theorem extract_good {x : Operand} {n : Nat} {vs : List AVal} {u : AVal} (hx : ev fr x = some (.tup vs)) (hn : nth vs n = some u) (h : k (val u)) :
    Good E hg rg lb lr fr ⟨dst, .extract x n, ty, pos, after, guard⟩ k := by
  refine good_val h fun A hp rw w ρ hm h1 h2 h3 => ?_
  rw [nth_eq] at hn
  simp only [execOp]
  refine wrapF _ _ _ _ ?_
  rw [h3 x (by simp [Op.operands]) _ hx]
  simp [AVal.den, Instr.extract, dens_eq, hn]

theorem nilCheck_good {x : Operand} {b off : Nat} (hx : ev fr x = some (.loc b off)) (h : k (val (.loc b off))) : Good E hg rg lb lr fr ⟨dst, .nilCheck x, ty, pos, after, guard⟩ k := by
  refine good_val h fun A hp rw w ρ hm h1 h2 h3 => ?_
  simp only [execOp]
  rw [h3 x (by simp [Op.operands]) _ hx]
  simp [AVal.den]

end
end Go.Proofs.YtmbfflckgmdncaaDoor.Fw
