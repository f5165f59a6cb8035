/- The effects of the operations that are taken by themselves. -/
import Derived.Test.YtlplngafncobkaaFwC
namespace Go.Proofs.Ytlplngafncobkaa.Fw
open Go Go.RowKit
set_option linter.unusedVariables false
set_option linter.unusedSimpArgs false

def copyK : List AVal → (List AVal → Prop) → Prop
  | [], k => k []
  | x :: l, k => copyK l fun l' => k (x :: l')
theorem copyK_eq : ∀ (l : List AVal) (k : List AVal → Prop), copyK l k = k l
  | [], _ => rfl
  | x :: l, k => by simp [copyK, copyK_eq l]

/-- the elements of a slice literal -/
def elems {α : Type} (fr : List AVal) (dec : List AVal → Option α) : Nat → List (Nat × Operand) → (List α → Prop) → Prop
  | _, [], k => k []
  | n, (i, x) :: l, k => match Nat.beq i n with
    | true => with1 fr x fun v => cellsA v fun cs => match dec cs with | some y => elems fr dec (n + 1) l fun ys => k (y :: ys) | none => False
    | false => False

def knownF (T : TypeId → Option TInfo) : List Field → Bool
  | [] => true
  | f :: l => match T f.type with | some _ => knownF T l | none => false

/-- the parts of a struct literal, over its zero value -/
def parts (T : TypeId → Option TInfo) (fr : List AVal) (fs : List Field) : List (Nat × Operand) → List AVal → (List AVal → Prop) → Prop
  | [], cs, k => k cs
  | (i, x) :: l, cs, k => match nth fs i with
    | some f => with1 fr x fun v => cellsA v fun vs => (match T f.type with
      | some ti => (match Nat.beq (lenN vs) ti.size with
        | true => over cs f.offset vs fun cs' => parts T fr fs l cs' k
        | false => False)
      | none => False)
    | none => False

def faddrA (v : AVal) (off : Nat) (k : AVal → Prop) : Prop :=
  match v with
  | .loc b o => numK (o + off) fun o' => k (.loc b o')
  | .ele r i o sz => numK (o + off) fun o' => k (.ele r i o' sz)
  | _ => False

/-- the elements of a slice literal whose elements are slices -/
def elemsB (fr : List AVal) : Nat → List (Nat × Operand) → (List AVal → Prop) → Prop
  | _, [], k => k []
  | n, (i, x) :: l, k => match Nat.beq i n with
    | true => with1 fr x fun v => (match v with
      | .row r => elemsB fr (n + 1) l fun vs => k (.row r :: vs)
      | .irow r j => elemsB fr (n + 1) l fun vs => k (.irow r j :: vs)
      | .raw (.slice none 0 0) => elemsB fr (n + 1) l fun vs => k (.raw (.slice none 0 0) :: vs)
      | _ => False)
    | false => False

/-- Is a slice among the arguments that is no row? -/
def hasV : List AVal → Bool
  | [] => false
  | .vw _ _ _ _ :: _ => true
  | .irow _ _ :: _ => true
  | _ :: l => hasV l
def rgV (rg : Nat → Option Row) (m : Nat) (r : Row) : Nat → Option Row := fun i => match Nat.beq i m with | true => some r | false => rg i
/-- the arguments, each part of a row as a row of its own -/
def matz (rg : Nat → Option Row) : Nat → List AVal → (Nat → Option Row) → (List AVal → (Nat → Option Row) → Prop) → Prop
  | _, [], rg', k => k [] rg'
  | m, x :: l, rg', k => match x with
    | .vw r lo n sz => (match rg r with
      | some ⟨c, e, own, xs⟩ => (match c.isL, Nat.beq sz c.sz with
        | false, true => lo + n ≤ xs.length ∧ matz rg (m + 1) l (rgV rg' m ⟨c, e, false, (xs.drop lo).take n⟩) fun l' rg2 => k (.row m :: l') rg2
        | _, _ => False)
      | none => False)
    | .irow r i => (match rg r with
      | some ⟨.lst c e', e, own, yss⟩ => (match c.isL with
        | false => i < (@List.length (List c.α) yss) ∧ matz rg (m + 1) l (rgV rg' m ⟨c, e', false, @List.getD (List c.α) yss i []⟩) fun l' rg2 => k (.row m :: l') rg2
        | true => False)
      | _ => False)
    | x => matz rg m l rg' fun l' rg2 => k (x :: l') rg2

/-- a call under a contract -/
def callA (c : PCtr) (hg : Nat → Option (List AVal)) (rg : Nat → Option Row) (lb lr : Nat) (vs : List AVal) (k : Eff → Prop) : Prop :=
  match hasV vs with
  | false => c hg rg lr vs fun rows v => k ⟨none, rows, v⟩
  | true => (match scs lb [] lr [] vs with
    | true => matz rg (lr + 1000) vs rg fun vs' rg' => c hg rg' lr vs' fun rows v => (match Nat.ble (lenN rows) 1000 with
      | true => (match v.sc lb [] (lr + lenN rows) [] with | true => k ⟨none, rows, v⟩ | false => False)
      | false => False)
    | false => False)

/-- the bounds of a slice expression over n elements -/
def boundsK (fr : List AVal) (n : Nat) (lo hi : Option Operand) (k : Nat → Nat → Prop) : Prop :=
  match lo, hi with
  | none, none => k 0 n
  | some lo, none => with1 fr lo fun l => (match l with | .int _ l => (0 ≤ l ∧ l ≤ (n : Int)) ∧ k l.toNat n | _ => False)
  | none, some hi => with1 fr hi fun h => (match h with | .int _ h => (0 ≤ h ∧ h ≤ (n : Int)) ∧ k 0 h.toNat | _ => False)
  | some lo, some hi => with1 fr lo fun l => with1 fr hi fun h => (match l, h with | .int _ l, .int _ h => (0 ≤ l ∧ l ≤ h ∧ h ≤ (n : Int)) ∧ k l.toNat h.toNat | _, _ => False)

def opEff (T : TypeId → Option TInfo) (G : List (FuncId × Ctr)) (hg : Nat → Option (List AVal)) (rg : Nat → Option Row) (lb lr : Nat) (fr : List AVal) (o : Op) (k : Eff → Prop) : Prop :=
  match o with
  | .move x => with1 fr x fun v => k (val v)
  | .assign x => with1 fr x fun v => k (val v)
  | .pick c a b => with1 fr c fun c => match c with
    | .bool b0 => bcond b0 (with1 fr a fun v => k (val v)) (with1 fr b fun v => k (val v))
    | _ => False
  | .alloc t => match T t with | some i => copyK i.zero fun z => k ⟨some z, [], .loc lb 0⟩ | none => False
  | .box _ x => with1 fr x fun v => cellsA v fun cs => k ⟨some cs, [], .loc lb 0⟩
  | .build t ps => match T t with
    | some i => match i.desc with
      | .struct fs => (match knownF T fs.toList with
        | true => copyK i.zero fun z => parts T fr fs.toList ps.toList z fun cs => k (val (.agg cs))
        | false => False)
      | _ => False
    | none => False
  | .buildSlice t n ps => match T t with
    | some i => match i.desc with
      | .slice e => match T e with
        | some ie => match ie.ty with
          | some c => elems fr c.dec 0 ps.toList fun xs => (match Nat.beq (lenN xs) n with
            | true => n * ie.size ≤ 16777216 ∧ k ⟨none, [⟨c, e, true, xs⟩], .row lr⟩
            | false => False)
          | none => (match ie.size, ie.desc with
            | 1, .slice _ => elemsB fr 0 ps.toList fun cs => (match Nat.beq (lenN cs) n with
              | true => n * 1 ≤ 16777216 ∧ k ⟨some cs, [], .bsl lb n⟩
              | false => False)
            | _, _ => False)
        | none => False
      | _ => False
    | none => False
  | .load t x => with1 fr x fun v => match T t with | some i => ldA hg rg i.agg i.size v fun u => k (val u) | none => False
  | .fieldAddr s x f => with1 fr x fun v => match T s with
    | some i => fieldA i f fun fd => (match T fd.type with
      | some fi => (match fi.size with
        | 0 => False
        | _ + 1 => faddrA v fd.offset fun u => k (val u))
      | none => False)
    | none => False
  | .field s x f => with1 fr x fun v => match v with
    | .agg cs => (match T s with
      | some i => fieldA i f fun fd => (match T fd.type with | some fi => partA fi.agg fi.size cs fd.offset fun u => k (val u) | none => False)
      | none => False)
    | _ => False
  | .indexAddr t x i => with1 fr x fun v => with1 fr i fun n => match n with
    | .int _ n => (match T t with
      | some ti => (match ti.desc with
        | .slice e' => (match T e' with
          | some ei => (match v with
            | .row r => (match rg r with
              | some ⟨c, e, own, xs⟩ => (match Nat.beq ei.size c.sz with | true => (0 ≤ n ∧ n < (xs.length : Int)) ∧ k (val (.ele r n.toNat 0 ei.size)) | false => False)
              | none => False)
            | .vw r lo m sz => (match rg r with
              | some ⟨c, e, own, xs⟩ => (match Nat.beq ei.size c.sz, Nat.beq sz c.sz with | true, true => (0 ≤ n ∧ n < (m : Int) ∧ lo + m ≤ xs.length) ∧ k (val (.ele r (lo + n.toNat) 0 ei.size)) | _, _ => False)
              | none => False)
            | .irow r i => (match rg r with
              | some ⟨.lst c e1, e, own, yss⟩ => (match Nat.beq ei.size c.sz with | true => (0 ≤ n ∧ n < ((@List.getD (List c.α) yss i []).length : Int) ∧ i < (@List.length (List c.α) yss)) ∧ k (val (.iele r i n.toNat 0 ei.size)) | false => False)
              | _ => False)
            | _ => False)
          | none => False)
        | _ => False)
      | none => False)
    | _ => False
  | .index t x i => with1 fr x fun v => with1 fr i fun n => match v, n with
    | .str s, .int _ n => (match T t with
      | some ti => (match ti.desc with | .string => (0 ≤ n ∧ n < (s.size : Int)) ∧ k (val (.int .u8 (byteAt s n.toNat : Int))) | _ => False)
      | none => False)
    | _, _ => False
  | .binOp op t x y _ => with1 fr x fun v => with1 fr y fun u => match v, u with
    | .agg xs, .agg ys => (match op with
      | .eql => eqV T 6 t (.agg xs) (.agg ys) fun r => k (val (.bool r))
      | .neq => eqV T 6 t (.agg xs) (.agg ys) fun r => k (val (.bool (!r)))
      | _ => False)
    | .bool a, .bool b => (match op with
      | .eql => eqV T 6 t (.bool a) (.bool b) fun r => k (val (.bool r))
      | .neq => eqV T 6 t (.bool a) (.bool b) fun r => k (val (.bool (!r)))
      | _ => False)
    | v, u => evBin op v u fun r => k (val r)
  | .unOp op _ x => with1 fr x fun v => evUn op v fun r => k (val r)
  | .convert s d x => with1 fr x fun v => (match T s with
    | some si => (match T d with
      | some di => (match di.desc, v with
        | .int kd, .int _ n => Rng kd n ∧ k (val (.int kd n))
        | .string, .row r => (match si.desc with
          | .slice e => (match T e with
            | some ei => (match ei.desc with
              | .int .u8 => (match rg r with | some ⟨.int .u8, _, _, xs⟩ => k (val (.str (strOfNums xs))) | _ => False)
              | _ => False)
            | none => False)
          | _ => False)
        | .string, .vw r lo n 1 => (match si.desc with
          | .slice e => (match T e with
            | some ei => (match ei.desc with
              | .int .u8 => (match rg r with | some ⟨.int .u8, _, _, xs⟩ => lo + n ≤ (@List.length Int xs) ∧ k (val (.str (strOfNums ((@List.drop Int lo xs).take n)))) | _ => False)
              | _ => False)
            | none => False)
          | _ => False)
        | .slice e, .str b => (match T e with
          | some ei => (match ei.desc with
            | .int .u8 => (match si.desc with | .string => b.size ≤ 9223372036854775807 ∧ k ⟨none, [⟨.int .u8, e, false, b.data.toList.map fun x => (x.toNat : Int)⟩], .row lr⟩ | _ => False)
            | _ => False)
          | none => False)
        | _, _ => False)
      | none => False)
    | none => False)
  | .makeFunc (.func f) first cap => withs fr first.toList fun fs => withs fr cap.toList fun cs => k (val (.fn f fs cs))
  | .extract x n => with1 fr x fun v => match v with
    | .tup vs => (match nth vs n with | some u => k (val u) | none => False)
    | _ => False
  | .slice t x lo hi none => with1 fr x fun v => match v with
    | .str s => (match T t with
      | some ti => (match ti.desc with
        | .string => (match lo, hi with
          | none, none => k (val (.str (s.extract 0 s.size)))
          | some lo, none => with1 fr lo fun l => (match l with | .int _ l => (0 ≤ l ∧ l ≤ (s.size : Int)) ∧ k (val (.str (s.extract l.toNat s.size))) | _ => False)
          | none, some hi => with1 fr hi fun h => (match h with | .int _ h => (0 ≤ h ∧ h ≤ (s.size : Int)) ∧ k (val (.str (s.extract 0 h.toNat))) | _ => False)
          | some lo, some hi => with1 fr lo fun l => with1 fr hi fun h => (match l, h with | .int _ l, .int _ h => (0 ≤ l ∧ l ≤ h ∧ h ≤ (s.size : Int)) ∧ k (val (.str (s.extract l.toNat h.toNat))) | _, _ => False))
        | _ => False)
      | none => False)
    | .row r => (match T t with
      | some ti => (match ti.desc with
        | .slice e' => (match T e' with
          | some ei => (match rg r with
            | some ⟨c, e, own, xs⟩ => (match c.isL, Nat.beq ei.size c.sz with
              | false, true => (match own with
                | false => boundsK fr xs.length lo hi fun l h => k ⟨none, [⟨c, e, false, (xs.take h).drop l⟩], .row lr⟩
                | true => boundsK fr xs.length lo hi fun l h => k (val (.vw r l (h - l) ei.size)))
              | _, _ => False)
            | none => False)
          | none => False)
        | _ => False)
      | none => False)
    | .vw r a n sz => (match T t with
      | some ti => (match ti.desc with
        | .slice e' => (match T e' with
          | some ei => (match rg r with
            | some ⟨c, e, own, xs⟩ => (match c.isL, Nat.beq ei.size c.sz, Nat.beq sz c.sz with
              | false, true, true => a + n ≤ xs.length ∧ boundsK fr n lo hi fun l h => (l = 0 ∨ a + l < xs.length) ∧ k (val (.vw r (a + l) (h - l) ei.size))
              | _, _, _ => False)
            | none => False)
          | none => False)
        | _ => False)
      | none => False)
    | _ => False
  | .makeSlice t l c => with1 fr l fun l => with1 fr c fun c' => match l, c' with
    | .int _ n, .int _ m => (match T t with
      | some i => (match i.desc with
        | .slice e => (match T e with
          | some ie => (match ie.ty with
            | some c => (0 ≤ n ∧ m = n ∧ (ie.bytes : Int) * n ≤ 281474976710656 ∧ n ≤ 9223372036854775807) ∧ k ⟨none, [⟨c, e, true, List.replicate n.toNat c.dflt⟩], .row lr⟩
            | none => (match ie.desc with
              | .slice e2 => (match T e2 with
                | some ie2 => (match ie2.ty with
                  | some c => (match ie.zero with
                    | [.raw (.slice none 0 0)] => (0 ≤ n ∧ m = n ∧ (ie.bytes : Int) * n ≤ 281474976710656 ∧ n ≤ 9223372036854775807) ∧ k ⟨none, [⟨.lst c e2, e, true, @List.replicate (List c.α) n.toNat []⟩], .row lr⟩
                    | _ => False)
                  | none => False)
                | none => False)
              | _ => False))
          | none => False)
        | _ => False)
      | none => False)
    | _, _ => False
  | .nilCheck x => with1 fr x fun v => match v with
    | .loc b o => k (val (.loc b o))
    | _ => False
  | .call { callee := .value f, args, argTypes } => with1 fr f fun g => withs fr args.toList fun vs => (match g with
    | .fn g fs cs => (match look G g with
      | some (.p c) => callA c hg rg lb lr (fs ++ (vs ++ cs)) k
      | _ => False)
    | _ => False)
  | .call { callee := .builtin .len, args, argTypes } => withs fr args.toList fun vs => (match vs with
    | [v] => (match nth argTypes.toList 0 with
      | some t => (match T t with
        | some ti => (match v, ti.desc with
          | .row r, .slice _ => (match rg r with
            | some ⟨c, e, own, xs⟩ => k (val (.int .i64 (xs.length : Int)))
            | none => False)
          | .vw r lo n sz, .slice _ => k (val (.int .i64 (n : Int)))
          | .bsl i n, .slice _ => k (val (.int .i64 (n : Int)))
          | .irow r i, .slice _ => (match rg r with
            | some ⟨.lst c e1, e, own, yss⟩ => i < (@List.length (List c.α) yss) ∧ k (val (.int .i64 ((@List.getD (List c.α) yss i []).length : Int)))
            | _ => False)
          | .str s, .string => k (val (.int .i64 (s.size : Int)))
          | .raw (.slice none 0 0), .slice _ => k (val (.int .i64 0))
          | _, _ => False)
        | none => False)
      | none => False)
    | _ => False)
  | .call { callee := .builtin .min, args, argTypes } => withs fr args.toList fun vs => (match vs with
    | [.int a x, .int b y] => (match sameK a b with | true => k (val (.int a (if y < x then y else x))) | false => False)
    | _ => False)
  | .call { callee := .builtin .max, args, argTypes } => withs fr args.toList fun vs => (match vs with
    | [.int a x, .int b y] => (match sameK a b with | true => k (val (.int a (if y > x then y else x))) | false => False)
    | _ => False)
  | _ => False

end Go.Proofs.Ytlplngafncobkaa.Fw
