/- What each operation does in a symbolic state, and that it does so in the machine. -/
import Derived.Test.YtlplngafncobkaaFwB
import Derived.Laws.Sem
namespace Go.Proofs.Ytlplngafncobkaa.Fw
open Go Go.RowKit
set_option linter.unusedVariables false
set_option linter.unusedSimpArgs false

/-- What is known of a type. -/
structure TInfo where
  desc : TypeDesc
  agg : Bool
  size : Nat
  bytes : Nat
  zero : List AVal
  ty : Option TyC
  eqOk : Bool

structure TInfoOk (P : Program) (t : TypeId) (i : TInfo) : Prop where
  und : P.underlying t = some i.desc
  info : ∃ z, (P.info? t).map (fun x => (x.size, x.bytes, x.zero)) = some (i.size, i.bytes, some z) ∧ z.cells = (dens A0 i.zero).toArray ∧ z = (if i.agg then .agg (dens A0 i.zero).toArray else (dens A0 i.zero).head?.getD undef)
  agg : i.agg = (match i.desc with | .struct _ | .array _ _ => true | _ => false)
  flat : i.zero.all AVal.flat = true
  zlen : i.zero.length = i.size
  ty : ∀ c, i.ty = some c → c.sz = i.size ∧ c.enc c.dflt = i.zero ∧ c.isL = false
  eqOk : i.eqOk = true → P.stoodInHeld t = false ∧ P.eqGuardType P.depth t = false ∧ (match i.desc with | .struct fs => fs.toList.all (·.name != "_") | _ => true) = true

def TOk (P : Program) (T : TypeId → Option TInfo) : Prop := ∀ t i, T t = some i → TInfoOk P t i

def lookT : List (TypeId × TInfo) → TypeId → Option TInfo
  | [], _ => none
  | (g, c) :: l, f => match Nat.beq g f with | true => some c | false => lookT l f
theorem TOk.list {P : Program} {l : List (TypeId × TInfo)} (h : ∀ p ∈ l, TInfoOk P p.1 p.2) : TOk P (lookT l) := by
  intro t i hl
  induction l with
  | nil => cases hl
  | cons p l ih =>
    unfold lookT at hl
    split at hl
    · rename_i hb
      have := Nat.eq_of_beq_eq_true hb
      subst this
      obtain rfl := Option.some.inj hl
      exact h p (by simp)
    · exact ih (fun q hq => h q (by simp [hq])) hl

/-! ### the symbolic side -/
def Rng : IntKind → Int → Prop
  | .i8, n => -128 ≤ n ∧ n ≤ 127
  | .i16, n => -32768 ≤ n ∧ n ≤ 32767
  | .i32, n => -2147483648 ≤ n ∧ n ≤ 2147483647
  | .i64, n => -9223372036854775808 ≤ n ∧ n ≤ 9223372036854775807
  | .u8, n => 0 ≤ n ∧ n ≤ 255
  | .u16, n => 0 ≤ n ∧ n ≤ 65535
  | .u32, n => 0 ≤ n ∧ n ≤ 4294967295
  | .u64, n => 0 ≤ n ∧ n ≤ 18446744073709551615

theorem wrap_of_rng {k : IntKind} {n : Int} (h : Rng k n) : k.wrap n = n := by
  cases k <;> simp only [Rng] at h <;> simp [IntKind.wrap, IntKind.bits, IntKind.signed] <;> omega

/-- Two ways. -/
def bcond (b : Bool) (X Y : Prop) : Prop := match b with | true => X | false => Y
theorem bcond_split {b : Bool} {X Y : Prop} (h1 : b = true → X) (h2 : b = false → Y) : bcond b X Y := by cases b with | false => exact h2 rfl | true => exact h1 rfl
theorem bcond_dec {p : Prop} [Decidable p] {X Y : Prop} (h1 : p → X) (h2 : ¬ p → Y) : bcond (decide p) X Y :=
  bcond_split (fun h => h1 (of_decide_eq_true h)) (fun h => h2 (of_decide_eq_false h))
theorem bcond_ndec {p : Prop} [Decidable p] {X Y : Prop} (h1 : ¬ p → X) (h2 : p → Y) : bcond (!decide p) X Y :=
  bcond_split (fun h => h1 (by simpa using h)) (fun h => h2 (by simpa using h))
theorem bcond_not {b : Bool} {X Y : Prop} (h1 : b = false → X) (h2 : b = true → Y) : bcond (!b) X Y := by cases b with | false => exact h1 rfl | true => exact h2 rfl

def with1 (fr : List AVal) (x : Operand) (k : AVal → Prop) : Prop := match ev fr x with | some v => k v | none => False
def withs (fr : List AVal) : List Operand → (List AVal → Prop) → Prop
  | [], k => k []
  | x :: l, k => with1 fr x fun v => withs fr l fun vs => k (v :: vs)

/-- the cells of a value -/
def cellsA : AVal → (List AVal → Prop) → Prop
  | .agg cs, k => k cs
  | .int a b, k => k [.int a b]
  | .bool b, k => k [.bool b]
  | .str s, k => k [.str s]
  | .loc i o, k => k [.loc i o]
  | .ele a b c d, k => k [.ele a b c d]
  | .row r, k => k [.row r]
  | .irow r i, k => k [.irow r i]
  | .vw r lo n sz, k => k [.vw r lo n sz]
  | .bsl i n, k => k [.bsl i n]
  | .fn f a b, k => k [.fn f a b]
  | .raw (.slice a b c), k => k [.raw (.slice a b c)]
  | .raw (.func a b c), k => k [.raw (.func a b c)]
  | .raw (.pointer a), k => k [.raw (.pointer a)]
  | .raw (.map a), k => k [.raw (.map a)]
  | .raw .nilFunc, k => k [.raw .nilFunc]
  | _, _ => False

/-- n cells from the cell off on -/
def sub : List AVal → Nat → Nat → (List AVal → Prop) → Prop
  | _, 0, 0, k => k []
  | [], _, _, _ => False
  | _ :: l, o + 1, n, k => sub l o n k
  | x :: l, 0, n + 1, k => sub l 0 n fun l' => k (x :: l')

/-- a part of some cells as a value -/
def partA (agg : Bool) (size : Nat) (cs : List AVal) (off : Nat) (k : AVal → Prop) : Prop :=
  match agg with
  | true => sub cs off size fun l => k (.agg l)
  | false => match nth cs off with | some v => k v | none => False

/-- what lies at an address -/
def ldA (hg : Nat → Option (List AVal)) (rg : Nat → Option Row) (agg : Bool) (size : Nat) (x : AVal) (k : AVal → Prop) : Prop :=
  match x with
  | .loc i off => match hg i with | some cs => partA agg size cs off k | none => False
  | .ele r i off sz => match rg r with
    | some ⟨.lst c e', e, own, yss⟩ => match agg, off, sz with
      | false, 0, 1 => i < (@List.length (List c.α) yss) ∧ k (.irow r i)
      | _, _, _ => False
    | some ⟨c, e, own, xs⟩ => match Nat.beq sz c.sz with
      | true => i < xs.length ∧ partA agg size (c.enc (xs.getD i c.dflt)) off k
      | false => False
    | none => False
  | .iele r i j off sz => match rg r with
    | some ⟨.lst c e', e, own, yss⟩ => match c.isL, Nat.beq sz c.sz with
      | false, true => (i < (@List.length (List c.α) yss) ∧ j < (@List.getD (List c.α) yss i []).length) ∧ partA agg size (c.enc ((@List.getD (List c.α) yss i []).getD j c.dflt)) off k
      | _, _ => False
    | _ => False
  | _ => False

def fieldA (i : TInfo) (f : Nat) (k : Field → Prop) : Prop :=
  match i.desc with | .struct fs => (match nth fs.toList f with | some f => k f | none => False) | _ => False

def evBin (op : BinOp) (x y : AVal) (k : AVal → Prop) : Prop :=
  match x, y with
  | .int a x, .int b y =>
    match op with
    | .shl => match a with
      | .i64 => 0 ≤ y ∧ y < 64 ∧ Rng .i64 (x * 2 ^ y.toNat) ∧ k (.int .i64 (x * 2 ^ y.toNat))
      | .u64 => 0 ≤ y ∧ y < 64 ∧ Rng .u64 (x * 2 ^ y.toNat) ∧ k (.int .u64 (x * 2 ^ y.toNat))
      | _ => False
    | .shr => match a with
      | .i64 => 0 ≤ y ∧ y < 64 ∧ k (.int .i64 (x.fdiv (2 ^ y.toNat)))
      | .u64 => 0 ≤ y ∧ y < 64 ∧ k (.int .u64 (x.fdiv (2 ^ y.toNat)))
      | _ => False
    | _ => match sameK a b with
      | false => False
      | true => match op with
        | .add => Rng a (x + y) ∧ k (.int a (x + y))
        | .sub => Rng a (x - y) ∧ k (.int a (x - y))
        | .mul => Rng a (x * y) ∧ k (.int a (x * y))
        | .quo => y ≠ 0 ∧ Rng a (x.tdiv y) ∧ k (.int a (x.tdiv y))
        | .rem => y ≠ 0 ∧ k (.int a (x.tmod y))
        | .eql => k (.bool (decide (x = y)))
        | .neq => k (.bool (!decide (x = y)))
        | .lss => k (.bool (decide (x < y)))
        | .leq => k (.bool (decide (x ≤ y)))
        | .gtr => k (.bool (decide (y < x)))
        | .geq => k (.bool (decide (y ≤ x)))
        | .or => k (.int a (a.wrap ((BitVec.ofInt a.bits x) ||| (BitVec.ofInt a.bits y)).toNat))
        | _ => False
  | .str x, .str y =>
    match op with
    | .add => x.size + y.size ≤ 9223372036854775807 ∧ k (.str (x ++ y))
    | .eql => k (.bool (decide (x = y)))
    | .neq => k (.bool (!decide (x = y)))
    | _ => False
  | _, _ => False

def evUn (op : UnOp) (x : AVal) (k : AVal → Prop) : Prop :=
  match op, x with
  | .not, .bool b => k (.bool (!b))
  | .neg, .int a n => Rng a (-n) ∧ k (.int a (-n))
  | _, _ => False

/-- Equality of two values of a type, as a Bool. -/
def eqFs (T : TypeId → Option TInfo) (go : TypeId → AVal → AVal → (Bool → Prop) → Prop) (xs ys : List AVal) : List Field → (Bool → Prop) → Prop
  | [], k => k true
  | f :: fs, k => match T f.type with
    | some i => partA i.agg i.size xs f.offset fun a => partA i.agg i.size ys f.offset fun b => go f.type a b fun r => (match fs with
      | [] => k r
      | _ :: _ => eqFs T go xs ys fs fun r' => k (r && r'))
    | none => False
def eqV (T : TypeId → Option TInfo) : Nat → TypeId → AVal → AVal → (Bool → Prop) → Prop
  | 0, _, _, _, _ => False
  | d + 1, t, x, y, k => match T t with
    | some i => match i.desc with
      | .struct fs => (match i.eqOk with
        | true => (match x, y with | .agg xs, .agg ys => eqFs T (eqV T d) xs ys fs.toList k | _, _ => False)
        | false => False)
      | .int _ => (match x, y with | .int a x, .int b y => (match sameK a b with | true => k (decide (x = y)) | false => False) | _, _ => False)
      | .bool => (match x, y with | .bool x, .bool y => k (x == y) | _, _ => False)
      | .string => (match x, y with | .str x, .str y => k (decide (x = y)) | _, _ => False)
      | _ => False
    | none => False

/-- new cells over old ones from the cell off on -/
def over : List AVal → Nat → List AVal → (List AVal → Prop) → Prop
  | l, 0, [], k => k l
  | _ :: l, 0, v :: vs, k => over l 0 vs fun l' => k (v :: l')
  | x :: l, o + 1, vs, k => over l o vs fun l' => k (x :: l')
  | [], _, _, _ => False

def byteAt (s : ByteArray) (n : Nat) : Nat := (s.data.toList.getD n 0).toNat

structure Eff where
  box : Option (List AVal)
  rows : List Row
  v : AVal
def val (v : AVal) : Eff := ⟨none, [], v⟩

/-- A contract of a function that turns nothing that was there: given what boxes and rows hold, the level of its first new row and the arguments: the new rows and the result. -/
def PCtr : Type := (Nat → Option (List AVal)) → (Nat → Option Row) → Nat → List AVal → (List Row → AVal → Prop) → Prop

/-- A contract of a function that turns rows of its caller's own: behind it each of these rows is gone, or told anew. -/
def MCtr : Type := (Nat → Option (List AVal)) → (Nat → Option Row) → Nat → List AVal → (List (Nat × Option Row) → List Row → AVal → Prop) → Prop

inductive Ctr where
  | p (c : PCtr)
  | m (c : MCtr)

def look : List (FuncId × Ctr) → FuncId → Option Ctr
  | [], _ => none
  | (g, c) :: l, f => match Nat.beq g f with | true => some c | false => look l f

/-! ### the machine's side -/
/-- What an operation, run, comes to. -/
def Runs (P : Program) (K : Value → World → Prop) : Result Next → Prop
  | .ok (.value v) w => K v w
  | .ok (.enter f args) w => Calls P f args w fun e w' => ∃ v, e = .returned v ∧ K v w'
  | _ => False

theorem wp_of_runs {P : Program} {o : Oper} {a : Act} {w : World} {next : Act → World → Prop} {Q : Exit → Act → World → Prop} {K : Value → World → Prop}
    (h : Runs P K ((execOp a.eval o).run P w)) (hk : ∀ v w', K v w' → next (a.put o.dst v) w') : o.wp P a w next Q := by
  unfold Oper.wp
  generalize (execOp a.eval o).run P w = r at h
  match r, h with
  | .ok (.value v) w', h => exact hk _ _ h
  | .ok (.enter f args) w', h =>
    exact Calls.mono h fun e w'' ⟨v, he, hv⟩ => by subst he; exact hk _ _ hv

theorem wrapF {P : Program} (s : Sem Value) (w w' : World) (v : Value) (h : s.run P w = .ok v w') :
    (do pure (Next.value (← s)) : Sem Next).run P w = .ok (.value v) w' := by
  simp [h]

structure HdrN where
  h : Hdr
  ih : Nat → Hdr
def hdr0 : HdrN := ⟨⟨none, 0, 0⟩, fun _ => ⟨none, 0, 0⟩⟩
def Asg.setRws (A : Asg) (n : Nat) (hs : List HdrN) : Asg :=
  { A with rw := fun i => if n ≤ i ∧ i < n + hs.length then (hs.getD (i - n) hdr0).h else A.rw i, inn := fun i => if n ≤ i ∧ i < n + hs.length then (hs.getD (i - n) hdr0).ih else A.inn i }

def updL (f : Nat → Option Row) (n : Nat) (xs : List Row) : Nat → Option Row := fun i => if n ≤ i ∧ i < n + xs.length then xs[i - n]? else f i
def updO (f : Nat → Option (List AVal)) (n : Nat) (x : Option (List AVal)) : Nat → Option (List AVal) := fun i => match x with | some c => (if i = n then some c else f i) | none => f i

/-- Two readings of levels that differ at new levels alone. -/
structure Agr (lb : Nat) (bo : Bool) (lr m : Nat) (A B : Asg) : Prop where
  bx : ∀ i, (bo = true → i ≠ lb) → A.bx i = B.bx i
  rw : ∀ k, (k < lr ∨ lr + m ≤ k) → A.rw k = B.rw k ∧ A.inn k = B.inn k

structure Post (E : Env) (A : Asg) (hp : Nat → Option (List AVal)) (rw : Nat → Option Row) (lb lr : Nat) (w : World) (eff : Eff) (u : Value) (w' : World) : Prop where
  out : ∃ B, Agr lb eff.box.isSome lr eff.rows.length A B ∧ u = eff.v.den B ∧ Mem E B (updO hp lb eff.box) (updL rw lr eff.rows) w' ∧ w.heap.size ≤ w'.heap.size

/-- New rows: own, of blocks that are free, apart from each other. -/
structure NewRows (rows : List Row) (hs : List HdrN) (w' : World) (free : Nat → Prop) : Prop where
  len : hs.length = rows.length
  new : ∀ (i : Nat) (r : Row) (h : HdrN), rows[i]? = some r → hs[i]? = some h → r.own = true ∧ RowsOwn w' h.h h.ih r ∧ ∀ b, Feet r h.h h.ih b → free b
  dis : ∀ (i j : Nat) (h h' : HdrN) (r r' : Row) (b : Nat), i ≠ j → hs[i]? = some h → hs[j]? = some h' → rows[i]? = some r → rows[j]? = some r' → Feet r h.h h.ih b → ¬ Feet r' h'.h h'.ih b

/-- What a call under a contract leaves: the new rows, the result, nothing old turned. -/
def CPost (A : Asg) (lr : Nat) (rows : List Row) (v : AVal) (w : World) (e : Ending) (w' : World) : Prop :=
  ∃ hs : List HdrN, e = .returned (v.den (A.setRws lr hs)) ∧ Below w.heap.size w w' ∧ NewRows rows hs w' (w.heap.size ≤ ·)

/-- The contract holds of function f. -/
structure PCtrOk (P : Program) (f : FuncId) (c : PCtr) : Prop where
  enter : ∀ args w, (callFunc f args).run P w = .ok (.enter f args) w
  calls : ∀ hg rg lr vals k, c hg rg lr vals k → ∃ rows v, k rows v ∧ ∀ A w,
    (∀ i cs, hg i = some cs → BoxAt A w (A.bx i) cs) → (∀ i r, rg i = some r → RowsAt w (A.rw i) (A.inn i) r) →
    Calls P f (dens A vals).toArray w (CPost A lr rows v w)

/-- What memory tells a callee that turns rows. -/
structure CMem (A : Asg) (hg : Nat → Option (List AVal)) (rg : Nat → Option Row) (w : World) : Prop where
  box : ∀ i cs, hg i = some cs → BoxAt A w (A.bx i) cs
  row : ∀ k r, rg k = some r → RowsAt w (A.rw k) (A.inn k) r ∧ (r.own = true → RowsOwn w (A.rw k) (A.inn k) r)
  br : ∀ i ci k r b, hg i = some ci → rg k = some r → r.own = true → Feet r (A.rw k) (A.inn k) b → A.bx i ≠ b
  rr : ∀ k k' r r' b, rg k = some r → rg k' = some r' → k ≠ k' → r.own = true → Feet r (A.rw k) (A.inn k) b → ¬ Feet r' (A.rw k') (A.inn k') b

/-- The rows that are turned were the caller's own; what is told anew is flat. -/
structure UpsOk (rg : Nat → Option Row) (ups : List (Nat × Option Row)) : Prop where
  own : ∀ i u, (i, u) ∈ ups → ∃ r, rg i = some r ∧ r.own = true ∧ ∀ r', u = some r' → r'.own = true ∧ r'.c.isL = false ∧ r.c.isL = false
  nodup : (ups.map Prod.fst).Nodup

def touched (A : Asg) (rg : Nat → Option Row) (ups : List (Nat × Option Row)) (b : Nat) : Prop := ∃ i u r, (i, u) ∈ ups ∧ rg i = some r ∧ Feet r (A.rw i) (A.inn i) b
def freed (A : Asg) (rg : Nat → Option Row) (ups : List (Nat × Option Row)) (b : Nat) : Prop := ∃ i r, (i, none) ∈ ups ∧ rg i = some r ∧ Feet r (A.rw i) (A.inn i) b

def MPost (A : Asg) (rg : Nat → Option Row) (lr : Nat) (ups : List (Nat × Option Row)) (rows : List Row) (v : AVal) (w : World) (e : Ending) (w' : World) : Prop :=
  ∃ hs : List HdrN, e = .returned (v.den (A.setRws lr hs)) ∧ Kept (fun b => b < w.heap.size ∧ ¬ touched A rg ups b) w w' ∧ (∀ i r', (i, some r') ∈ ups → RowOwn w' (A.rw i) r') ∧
    NewRows rows hs w' (fun b => w.heap.size ≤ b ∨ freed A rg ups b)

structure MCtrOk (P : Program) (f : FuncId) (c : MCtr) : Prop where
  enter : ∀ args w, (callFunc f args).run P w = .ok (.enter f args) w
  calls : ∀ hg rg lr vals k, c hg rg lr vals k → ∃ ups rows v, k ups rows v ∧ UpsOk rg ups ∧ ∀ A w, CMem A hg rg w → Calls P f (dens A vals).toArray w (MPost A rg lr ups rows v w)

def CtrOk (P : Program) (f : FuncId) : Ctr → Prop
  | .p c => PCtrOk P f c
  | .m c => MCtrOk P f c
def GOk (P : Program) (G : List (FuncId × Ctr)) : Prop := ∀ f c, look G f = some c → CtrOk P f c
theorem GOk.nil {P : Program} : GOk P [] := fun _ _ h => by cases h
theorem GOk.add {P : Program} {f : FuncId} {c : Ctr} {G : List (FuncId × Ctr)} (h : CtrOk P f c) (hG : GOk P G) : GOk P ((f, c) :: G) := fun g c' hl => by
  unfold look at hl
  split at hl
  · rename_i hb
    have := Nat.eq_of_beq_eq_true hb
    subst this
    obtain rfl := Option.some.inj hl
    exact h
  · exact hG g c' hl
theorem GOk.cons {P : Program} {f : FuncId} {c : PCtr} {G : List (FuncId × Ctr)} (h : PCtrOk P f c) (hG : GOk P G) : GOk P ((f, .p c) :: G) := GOk.add (c := .p c) h hG
theorem GOk.mcons {P : Program} {f : FuncId} {c : MCtr} {G : List (FuncId × Ctr)} (h : MCtrOk P f c) (hG : GOk P G) : GOk P ((f, .m c) :: G) := GOk.add (c := .m c) h hG

end Go.Proofs.Ytlplngafncobkaa.Fw
