/- The effects of the operations that are taken by themselves. -/
import Derived.Test.YtlplngafncobkaaFwC
namespace Go.Proofs.Ytlplngafncobkaa.Fw
open Go Go.RowKit
set_option linter.unusedVariables false
set_option linter.unusedSimpArgs false

def copyK : List AVal → (List AVal → Prop) → Prop
  | [], k => k []
  | x :: l, k => copyK l fun l' => k (x :: l')
theorem copyK_eq : ∀ (l : List AVal) (k : List AVal → Prop), copyK l k = k l
  | [], _ => rfl
  | x :: l, k => by simp [copyK, copyK_eq l]

/-- the elements of a slice literal -/
def elems {α : Type} (fr : List AVal) (dec : List AVal → Option α) : Nat → List (Nat × Operand) → (List α → Prop) → Prop
  | _, [], k => k []
  | n, (i, x) :: l, k => match Nat.beq i n with
    | true => with1 fr x fun v => cellsA v fun cs => match dec cs with | some y => elems fr dec (n + 1) l fun ys => k (y :: ys) | none => False
    | false => False

def knownF (T : TypeId → Option TInfo) : List Field → Bool
  | [] => true
  | f :: l => match T f.type with | some _ => knownF T l | none => false

/-- the parts of a struct literal, over its zero value -/
def parts (T : TypeId → Option TInfo) (fr : List AVal) (fs : List Field) : List (Nat × Operand) → List AVal → (List AVal → Prop) → Prop
  | [], cs, k => k cs
  | (i, x) :: l, cs, k => match nth fs i with
    | some f => with1 fr x fun v => cellsA v fun vs => (match T f.type with
      | some ti => (match Nat.beq (lenN vs) ti.size with
        | true => over cs f.offset vs fun cs' => parts T fr fs l cs' k
        | false => False)
      | none => False)
    | none => False

def faddrA (v : AVal) (off : Nat) (k : AVal → Prop) : Prop :=
  match v with
  | .loc b o => k (.loc b (o + off))
  | .ele r i o sz => k (.ele r i (o + off) sz)
  | _ => False

def opEff (T : TypeId → Option TInfo) (G : List (FuncId × PCtr)) (hg : Nat → Option (List AVal)) (rg : Nat → Option Row) (lb lr : Nat) (fr : List AVal) (o : Op) (k : Eff → Prop) : Prop :=
  match o with
  | .move x => with1 fr x fun v => k (val v)
  | .assign x => with1 fr x fun v => k (val v)
  | .pick c a b => with1 fr c fun c => match c with
    | .bool b0 => bcond b0 (with1 fr a fun v => k (val v)) (with1 fr b fun v => k (val v))
    | _ => False
  | .alloc t => match T t with | some i => copyK i.zero fun z => k ⟨some z, [], .loc lb 0⟩ | none => False
  | .box _ x => with1 fr x fun v => cellsA v fun cs => k ⟨some cs, [], .loc lb 0⟩
  | .build t ps => match T t with
    | some i => match i.desc with
      | .struct fs => (match knownF T fs.toList with
        | true => copyK i.zero fun z => parts T fr fs.toList ps.toList z fun cs => k (val (.agg cs))
        | false => False)
      | _ => False
    | none => False
  | .buildSlice t n ps => match T t with
    | some i => match i.desc with
      | .slice e => match T e with
        | some ie => match ie.ty with
          | some c => elems fr c.dec 0 ps.toList fun xs => (match Nat.beq (lenN xs) n with
            | true => n * ie.size ≤ 16777216 ∧ k ⟨none, [⟨c, e, true, xs⟩], .row lr⟩
            | false => False)
          | none => False
        | none => False
      | _ => False
    | none => False
  | .load t x => with1 fr x fun v => match T t with | some i => ldA hg rg i.agg i.size v fun u => k (val u) | none => False
  | .fieldAddr s x f => with1 fr x fun v => match T s with
    | some i => fieldA i f fun fd => (match T fd.type with
      | some fi => (match fi.size with
        | 0 => False
        | _ + 1 => faddrA v fd.offset fun u => k (val u))
      | none => False)
    | none => False
  | .field s x f => with1 fr x fun v => match v with
    | .agg cs => (match T s with
      | some i => fieldA i f fun fd => (match T fd.type with | some fi => partA fi.agg fi.size cs fd.offset fun u => k (val u) | none => False)
      | none => False)
    | _ => False
  | .indexAddr t x i => with1 fr x fun v => with1 fr i fun n => match v, n with
    | .row r, .int _ n => (match rg r with
      | some ⟨c, e, own, xs⟩ => (match T t with
        | some ti => (match ti.desc with
          | .slice e' => (match T e' with
            | some ei => (match Nat.beq ei.size c.sz with | true => (0 ≤ n ∧ n < (xs.length : Int)) ∧ k (val (.ele r n.toNat 0 ei.size)) | false => False)
            | none => False)
          | _ => False)
        | none => False)
      | none => False)
    | _, _ => False
  | .index t x i => with1 fr x fun v => with1 fr i fun n => match v, n with
    | .str s, .int _ n => (match T t with
      | some ti => (match ti.desc with | .string => (0 ≤ n ∧ n < (s.size : Int)) ∧ k (val (.int .u8 (byteAt s n.toNat : Int))) | _ => False)
      | none => False)
    | _, _ => False
  | .binOp op t x y _ => with1 fr x fun v => with1 fr y fun u => match v, u with
    | .agg xs, .agg ys => (match op with
      | .eql => eqV T 6 t (.agg xs) (.agg ys) fun r => k (val (.bool r))
      | .neq => eqV T 6 t (.agg xs) (.agg ys) fun r => k (val (.bool (!r)))
      | _ => False)
    | .bool a, .bool b => (match op with
      | .eql => eqV T 6 t (.bool a) (.bool b) fun r => k (val (.bool r))
      | .neq => eqV T 6 t (.bool a) (.bool b) fun r => k (val (.bool (!r)))
      | _ => False)
    | v, u => evBin op v u fun r => k (val r)
  | .unOp op _ x => with1 fr x fun v => evUn op v fun r => k (val r)
  | .convert s d x => with1 fr x fun v => match v with
    | .int _ n => (match T s with
      | some si => (match T d with
        | some di => (match di.desc with | .int kd => Rng kd n ∧ k (val (.int kd n)) | _ => False)
        | none => False)
      | none => False)
    | _ => False
  | .makeFunc (.func f) first cap => withs fr first.toList fun fs => withs fr cap.toList fun cs => k (val (.fn f fs cs))
  | .extract x n => with1 fr x fun v => match v with
    | .tup vs => (match nth vs n with | some u => k (val u) | none => False)
    | _ => False
  | .slice t x lo hi none => with1 fr x fun v => match v with
    | .str s => (match T t with
      | some ti => (match ti.desc with
        | .string => (match lo, hi with
          | none, none => k (val (.str (s.extract 0 s.size)))
          | some lo, none => with1 fr lo fun l => (match l with | .int _ l => (0 ≤ l ∧ l ≤ (s.size : Int)) ∧ k (val (.str (s.extract l.toNat s.size))) | _ => False)
          | none, some hi => with1 fr hi fun h => (match h with | .int _ h => (0 ≤ h ∧ h ≤ (s.size : Int)) ∧ k (val (.str (s.extract 0 h.toNat))) | _ => False)
          | some lo, some hi => with1 fr lo fun l => with1 fr hi fun h => (match l, h with | .int _ l, .int _ h => (0 ≤ l ∧ l ≤ h ∧ h ≤ (s.size : Int)) ∧ k (val (.str (s.extract l.toNat h.toNat))) | _, _ => False))
        | _ => False)
      | none => False)
    | .row r => (match rg r with
      | some ⟨c, e, false, xs⟩ => (match T t with
        | some ti => (match ti.desc with
          | .slice e' => (match T e' with
            | some ei => (match Nat.beq ei.size c.sz with
              | true => (match lo, hi with
                | none, none => k ⟨none, [⟨c, e, false, xs⟩], .row lr⟩
                | some lo, none => with1 fr lo fun l => (match l with | .int _ l => (0 ≤ l ∧ l ≤ (xs.length : Int)) ∧ k ⟨none, [⟨c, e, false, xs.drop l.toNat⟩], .row lr⟩ | _ => False)
                | none, some hi => with1 fr hi fun h => (match h with | .int _ h => (0 ≤ h ∧ h ≤ (xs.length : Int)) ∧ k ⟨none, [⟨c, e, false, xs.take h.toNat⟩], .row lr⟩ | _ => False)
                | some lo, some hi => with1 fr lo fun l => with1 fr hi fun h => (match l, h with | .int _ l, .int _ h => (0 ≤ l ∧ l ≤ h ∧ h ≤ (xs.length : Int)) ∧ k ⟨none, [⟨c, e, false, (xs.take h.toNat).drop l.toNat⟩], .row lr⟩ | _, _ => False))
              | false => False)
            | none => False)
          | _ => False)
        | none => False)
      | _ => False)
    | _ => False
  | .makeSlice t l c => with1 fr l fun l => with1 fr c fun c' => match l, c' with
    | .int _ n, .int _ m => (match T t with
      | some i => (match i.desc with
        | .slice e => (match T e with
          | some ie => (match ie.ty with
            | some c => (0 ≤ n ∧ m = n ∧ (ie.bytes : Int) * n ≤ 281474976710656 ∧ n ≤ 9223372036854775807) ∧ k ⟨none, [⟨c, e, true, List.replicate n.toNat c.dflt⟩], .row lr⟩
            | none => False)
          | none => False)
        | _ => False)
      | none => False)
    | _, _ => False
  | .nilCheck x => with1 fr x fun v => match v with
    | .loc b o => k (val (.loc b o))
    | _ => False
  | .call { callee := .value f, args, argTypes } => with1 fr f fun g => withs fr args.toList fun vs => (match g with
    | .fn g fs cs => (match look G g with
      | some c => c hg rg lr (fs ++ (vs ++ cs)) fun rows v => k ⟨none, rows, v⟩
      | none => False)
    | _ => False)
  | .call { callee := .builtin .len, args, argTypes } => withs fr args.toList fun vs => (match vs with
    | [v] => (match nth argTypes.toList 0 with
      | some t => (match T t with
        | some ti => (match v, ti.desc with
          | .row r, .slice _ => (match rg r with
            | some ⟨c, e, own, xs⟩ => k (val (.int .i64 (xs.length : Int)))
            | none => False)
          | .str s, .string => k (val (.int .i64 (s.size : Int)))
          | .raw (.slice none 0 0), .slice _ => k (val (.int .i64 0))
          | _, _ => False)
        | none => False)
      | none => False)
    | _ => False)
  | .call { callee := .builtin .min, args, argTypes } => withs fr args.toList fun vs => (match vs with
    | [.int a x, .int b y] => (match sameK a b with | true => k (val (.int a (if y < x then y else x))) | false => False)
    | _ => False)
  | .call { callee := .builtin .max, args, argTypes } => withs fr args.toList fun vs => (match vs with
    | [.int a x, .int b y] => (match sameK a b with | true => k (val (.int a (if y > x then y else x))) | false => False)
    | _ => False)
  | _ => False

end Go.Proofs.Ytlplngafncobkaa.Fw
