/- The walk: what is to be shown of a piece of code from a symbolic state, found by reckoning. -/
import Derived.Test.YtlplngafncobkaaFwD
namespace Go.Proofs.Ytlplngafncobkaa.Fw
open Go Go.RowKit
set_option linter.unusedVariables false
set_option linter.unusedSimpArgs false

def At (E : Env) (Q : Exit → Act → World → Prop) (e : Exit) (σ : St) : Prop := ∀ A a w, Sat E A σ a w → Q e a w

/-- What is left to do of a list of operations. -/
structure VO (E : Env) (all rest : List Oper) (σ : St) (kN : St → Prop) : Prop where
  out : ∀ Q : Exit → Act → World → Prop, (∀ σ', kN σ' → At E Q .normal σ') → ∀ A a w, Sat E A σ a w → wpList E.P all.toArray Q rest a w

/-- What is left to do of a piece of code. -/
structure V (E : Env) (c : Code) (kN : St → Prop) (kE : Nat → St → Prop) (kR : St → Prop) (σ : St) : Prop where
  out : ∀ Q : Exit → Act → World → Prop, (∀ σ', kN σ' → At E Q .normal σ') → (∀ i σ', kE i σ' → At E Q (.exit i) σ') → (∀ σ', kR σ' → At E Q .ret σ') →
    ∀ A a w, Sat E A σ a w → c.wp E.P Q a w

def pushO (l : List (Option (List AVal))) (x : Option (List AVal)) (k : List (Option (List AVal)) → Prop) : Prop :=
  match x with
  | none => k l
  | some x => pushK l (some x) k

def pushR : List (Option Row) → List Row → (List (Option Row) → Prop) → Prop
  | l, [], k => k l
  | l, r :: rs, k => pushK l (some r) fun l' => pushR l' rs k

/-- the state behind an operation's effect -/
def putE (σ : St) (dst : Option Tmp) (e : Eff) (k : St → Prop) : Prop :=
  match σ, e with
  | ⟨fr, hp, rows⟩, ⟨box, rs, v⟩ =>
    pushO hp box fun hp' => pushR rows rs fun rows' =>
      match v.sc (lenN hp') [] (lenN rows') [] with
      | true => (match (match box with | some cs => scs (lenN hp) [] (lenN rows) [] cs | none => true) with
        | true => (match dst with
          | none => k ⟨fr, hp', rows'⟩
          | some d => setK fr d v fun fr' => k ⟨fr', hp', rows'⟩)
        | false => False)
      | false => False

/-- Is an operation taken by itself? -/
def auto (G : List (FuncId × Ctr)) (fr : List AVal) : Op → Bool
  | .move _ | .assign _ | .pick _ _ _ | .alloc _ | .box _ _ | .build _ _ | .buildSlice _ _ _ | .load _ _ | .fieldAddr _ _ _ | .field _ _ _ | .indexAddr _ _ _ | .index _ _ _
  | .binOp _ _ _ _ _ | .unOp _ _ _ | .convert _ _ _ | .extract _ _ | .makeFunc (.func _) _ _ | .nilCheck _ | .makeSlice _ _ _ => true
  | .slice _ x _ _ none => match ev fr x with | some (.str _) => true | some (.row _) => true | some (.vw _ _ _ _) => true | _ => false
  | .call { callee := .value f, .. } => match ev fr f with | some (.fn g _ _) => (match look G g with | some (.p _) => true | _ => false) | _ => false
  | .call { callee := .builtin .len, .. } | .call { callee := .builtin .min, .. } | .call { callee := .builtin .max, .. } => true
  | _ => false

def AVal.one : AVal → Bool
  | .agg _ | .tup _ | .junk => false
  | .raw v => v.oneCell'
  | _ => true
def allOne : List AVal → Bool
  | [] => true
  | x :: l => match x.one with | true => allOne l | false => false

/-- what a row's level becomes -/
def setRowK (rows : List (Option Row)) (r : Nat) (x : Option Row) (k : List (Option Row) → Prop) : Prop := setK rows r x k

/-- a store into a box, into a row -/
def stA (T : TypeId → Option TInfo) (b0 : Nat) (σ : St) (t : TypeId) (x v : Operand) (k : St → Prop) : Prop :=
  match σ with
  | ⟨fr, hp, rows⟩ => with1 fr x fun x => with1 fr v fun v => match x with
    | .loc i off => (match Nat.ble b0 i with
      | true => (match nthj hp i with
        | some cs => (match T t with
          | some ti => cellsA v fun vs => (match Nat.beq (lenN vs) ti.size with
            | true => (match allOne vs with
              | true => over cs off vs fun cs' => setK hp i (some cs') fun hp' => k ⟨fr, hp', rows⟩
              | false => False)
            | false => False)
          | none => False)
        | none => False)
      | false => False)
    | .ele r i off sz => (match nthj rows r with
      | some ⟨c, e, true, xs⟩ => (match T t with
        | some ti => (match c.isL with
          | false => cellsA v fun vs => (match Nat.beq (lenN vs) ti.size with
            | true => (match Nat.beq sz c.sz with
              | true => over (c.enc (xs.getD i c.dflt)) off vs fun cs' => (match c.dec cs' with
                | some x' => i < xs.length ∧ EqK (xs.set i x') fun ys => setK rows r (some ⟨c, e, true, ys⟩) fun rows' => k ⟨fr, hp, rows'⟩
                | none => False)
              | false => False)
            | false => False)
          | true => False)
        | none => False)
      | _ => False)
    | .iele r i j off sz => (match nthj rows r with
      | some ⟨.lst c e', e, true, yss⟩ => (match T t with
        | some ti => (match c.isL with
          | false => cellsA v fun vs => (match Nat.beq (lenN vs) ti.size with
            | true => (match Nat.beq sz c.sz with
              | true => over (c.enc ((@List.getD (List c.α) yss i []).getD j c.dflt)) off vs fun cs' => (match c.dec cs' with
                | some x' => (i < (@List.length (List c.α) yss) ∧ j < (@List.getD (List c.α) yss i []).length) ∧ EqK (@List.set (List c.α) yss i ((@List.getD (List c.α) yss i []).set j x')) fun zss => setK rows r (some ⟨.lst c e', e, true, zss⟩) fun rows' => k ⟨fr, hp, rows'⟩
                | none => False)
              | false => False)
            | false => False)
          | true => False)
        | none => False)
      | _ => False)
    | _ => False

-- Does a value name no row in the row of rows r?
mutual
def AVal.noI (r : Nat) : AVal → Bool
  | .irow k _ | .iele k _ _ _ _ => match Nat.beq k r with | true => false | false => true
  | .agg cs => noIs r cs
  | .tup vs => noIs r vs
  | .fn _ fs cs => match noIs r fs with | true => noIs r cs | false => false
  | .loc _ _ | .bsl _ _ | .ele _ _ _ _ | .row _ | .vw _ _ _ _ | .int _ _ | .bool _ | .str _ | .raw _ | .junk => true
def noIs (r : Nat) : List AVal → Bool
  | [] => true
  | x :: l => match x.noI r with | true => noIs r l | false => false
end
def cleanI (r : Nat) : List AVal → (List AVal → Prop) → Prop
  | [], k => k []
  | x :: l, k => match x.noI r with | true => cleanI r l fun l' => k (x :: l') | false => cleanI r l fun l' => k (.junk :: l')
def noIb (r : Nat) : List (Option (List AVal)) → Bool
  | [] => true
  | none :: l => noIb r l
  | some c :: l => match noIs r c with | true => noIb r l | false => false

/-- a row put into a row of rows: it is a level of its own no more; the row of rows lies at a new level -/
def putA (T : TypeId → Option TInfo) (n0 : Nat) (σ : St) (t : TypeId) (x v : Operand) (k : St → Prop) : Prop :=
  match σ with
  | ⟨fr, hp, rows⟩ => with1 fr x fun x => with1 fr v fun v => match x, v with
    | .ele r i 0 1, .row j => (match Nat.beq r j, Nat.ble n0 r with
      | false, true => (match nthj rows r, nthj rows j with
        | some ⟨.lst c e', e, true, yss⟩, some ⟨c2, e2, true, ys⟩ => (match T t with
          | some ti => (match c.isL, ti.size, Nat.beq e2 e' with
            | false, 1, true => (match h : TyC.same c2 c with
              | true => castK (TyC.same_eq h) ys fun ys => i < (@List.length (List c.α) yss) ∧ EqK (@List.set (List c.α) yss i ys) fun zss => setK rows r (some ⟨.lst c e', e, true, zss⟩) fun rows' => setK rows' j none fun rows' => (match noIb r hp with | true => cleanI r fr fun fr' => k ⟨fr', hp, rows'⟩ | false => False)
              | false => False)
            | _, _, _ => False)
          | none => False)
        | _, _ => False)
      | _, _ => False)
    | _, _ => False

/-- what is appended -/
def srcA (rows : List (Option Row)) (c : TyC) (x : AVal) (k : List c.α → Prop) : Prop :=
  match x with
  | .row r => (match nthj rows r with
    | some ⟨c', _, _, ys⟩ => (match h : TyC.same c' c with | true => castK (TyC.same_eq h) ys k | false => False)
    | none => False)
  | .vw r lo n sz => (match nthj rows r with
    | some ⟨c', _, _, ys⟩ => (match Nat.beq sz c'.sz with
      | true => (match h : TyC.same c' c with | true => castK (TyC.same_eq h) ys fun ys => lo + n ≤ ys.length ∧ k ((ys.drop lo).take n) | false => False)
      | false => False)
    | none => False)
  | .raw (.slice none 0 0) => k []
  | _ => False
/-- to what it is appended -/
def dstA (rows : List (Option Row)) (c : TyC) (e : TypeId) (s : AVal) (k : List (Option Row) → List c.α → Prop) : Prop :=
  match s with
  | .row r => (match nthj rows r with
    | some ⟨c', e', true, xs⟩ => (match Nat.beq e' e with
      | true => (match h : TyC.same c' c with | true => castK (TyC.same_eq h) xs fun xs => setK rows r none fun rows' => k rows' xs | false => False)
      | false => False)
    | _ => False)
  | .vw r lo n sz => (match nthj rows r with
    | some ⟨c', e', true, xs⟩ => (match Nat.beq e' e with
      | true => (match lo with
        | 0 => (match c'.isL, Nat.beq sz c'.sz with
          | false, true => (match h : TyC.same c' c with | true => castK (TyC.same_eq h) xs fun xs => n ≤ xs.length ∧ setK rows r none fun rows' => k rows' (xs.take n) | false => False)
          | _, _ => False)
        | _ + 1 => False)
      | false => False)
    | _ => False)
  | .raw (.slice none 0 0) => k rows []
  | _ => False
/-- rows that are put into a row of rows -/
def takeR (c : TyC) (e' : TypeId) : List (Option Row) → List AVal → (List (Option Row) → List (List c.α) → Prop) → Prop
  | rows, [], k => k rows []
  | rows, .row r :: l, k => (match nthj rows r with
    | some ⟨c', e2, true, ys⟩ => (match Nat.beq e2 e' with
      | true => (match h : TyC.same c' c with | true => castK (TyC.same_eq h) ys fun ys => setK rows r none fun rows' => takeR c e' rows' l fun rows2 yss => k rows2 (ys :: yss) | false => False)
      | false => False)
    | _ => False)
  | rows, .irow r i :: l, k => (match nthj rows r with
    | some ⟨.lst c' e2, _, true, yss⟩ => (match Nat.beq e2 e' with
      | true => (match h : TyC.same (.lst c' e2) (.lst c e2) with
        | true => castK (TyC.same_eq h) yss fun (yss : List (List c.α)) => i < yss.length ∧ setK rows r none fun rows' => takeR c e' rows' l fun rows2 zss => k rows2 (yss.getD i [] :: zss)
        | false => False)
      | false => False)
    | _ => False)
  | rows, .raw (.slice none 0 0) :: l, k => takeR c e' rows l fun rows2 yss => k rows2 ([] :: yss)
  | _, _, _ => False
/-- an append: the row it goes to is gone, a new one is there -/
def appA (T : TypeId → Option TInfo) (σ : St) (t : TypeId) (s x : Operand) (d : Nat) (k : St → Prop) : Prop :=
  match σ with
  | ⟨fr, hp, rows⟩ => with1 fr s fun s => with1 fr x fun x => (match T t with
    | some ti => (match ti.desc with
      | .slice e => (match T e with
        | some ei => (match ei.ty with
          | some c => (match c.isL with
            | false => dstA rows c e s fun rows1 xs => srcA rows c x fun ys =>
              ((xs.length : Int) + ys.length ≤ 9223372036854775807 ∧ ((xs.length : Int) + ys.length) * ei.bytes ≤ 140737488355328) ∧
              EqK (xs ++ ys) fun zs => lenK rows fun nr => pushK rows1 (some ⟨c, e, true, zs⟩) fun rows2 => setK fr d (.row nr) fun fr' => k ⟨fr', hp, rows2⟩
            | true => False)
          | none => (match ei.desc, ei.size with
            | .slice e', 1 => (match T e' with
              | some ei' => (match ei'.ty with
                | some c => (match c.isL with
                  | false => (match x with
                    | .bsl b m => (match nthj hp b with
                      | some cs => (match Nat.beq (lenN cs) m with
                        | true => dstA rows (.lst c e') e s fun rows1 yss => takeR c e' rows1 cs fun rows2 zss =>
                          ((List.length (α := List c.α) yss : Int) + zss.length ≤ 9223372036854775807 ∧ ((List.length (α := List c.α) yss : Int) + zss.length) * ei.bytes ≤ 140737488355328) ∧
                          EqK (List.append (α := List c.α) yss zss) fun xss => lenK rows fun nr => pushK rows2 (some ⟨.lst c e', e, true, xss⟩) fun rows3 => setK fr d (.row nr) fun fr' => k ⟨fr', hp, rows3⟩
                        | false => False)
                      | none => False)
                    | _ => False)
                  | true => False)
                | none => False)
              | none => False)
            | _, _ => False))
        | none => False)
      | _ => False)
    | none => False)

/-- clear of a part of a row -/
def clrA (T : TypeId → Option TInfo) (σ : St) (t : TypeId) (x : Operand) (dst : Option Tmp) (k : St → Prop) : Prop :=
  match σ with
  | ⟨fr, hp, rows⟩ => with1 fr x fun x => (match T t with
    | some ti => (match ti.desc with
      | .slice e => (match T e with
        | some ei => (match x with
          | .vw r lo n sz => (match nthj rows r with
            | some ⟨c, e1, true, xs⟩ => (match h : ei.ty with
              | some c' => (match c.isL, TyC.same c' c, Nat.beq sz c.sz with
                | false, true, true => lo + n ≤ xs.length ∧ EqK (xs.take lo ++ (List.replicate n c.dflt ++ xs.drop (lo + n))) fun ys => setK rows r (some ⟨c, e1, true, ys⟩) fun rows' => (match dst with
                  | none => k ⟨fr, hp, rows'⟩
                  | some d => setK fr d (.raw (.tuple #[])) fun fr' => k ⟨fr', hp, rows'⟩)
                | _, _, _ => False)
              | none => False)
            | _ => False)
          | _ => False)
        | none => False)
      | _ => False)
    | none => False)

/-- the rows behind a call that turns rows -/
def upsK : List (Nat × Option Row) → List (Option Row) → (List (Option Row) → Prop) → Prop
  | [], rows, k => k rows
  | (i, u) :: l, rows, k => setK rows i u fun rows' => upsK l rows' k
def mcallA (E : Env) (G : List (FuncId × Ctr)) (σ : St) (f : Operand) (args : Array Operand) (dst : Option Tmp) (k : St → Prop) : Prop :=
  match σ with
  | ⟨fr, hp, rows⟩ => with1 fr f fun g => withs fr args.toList fun vs => (match g with
    | .fn g fs cs => (match look G g with
      | some (.m c) => lenK rows fun nr => c (nthj hp) (nthj rows) nr (fs ++ (vs ++ cs)) fun ups new v => upsK ups rows fun rows1 => pushR rows1 new fun rows2 =>
        (match v.sc (lenN hp) [] (lenN rows2) [] with
        | true => (match dst with
          | none => k ⟨fr, hp, rows2⟩
          | some d => setK fr d v fun fr' => k ⟨fr', hp, rows2⟩)
        | false => False)
      | _ => False)
    | _ => False)

/-- what an operation does that turns what is there -/
def heavy (E : Env) (T : TypeId → Option TInfo) (G : List (FuncId × Ctr)) (σ : St) (o : Oper) (k : St → Prop) (alt : Prop) : Prop :=
  match o.op, o.dst with
  | .store t x v, none => (match σ with
    | ⟨fr, hp, rows⟩ => (match ev fr x, ev fr v with
      | some (.loc _ _), _ => stA T E.b0 ⟨fr, hp, rows⟩ t x v k
      | some (.iele _ _ _ _ _), _ => stA T E.b0 ⟨fr, hp, rows⟩ t x v k
      | some (.ele _ _ _ _), some (.row _) => putA T E.n0 ⟨fr, hp, rows⟩ t x v k
      | some (.ele _ _ _ _), _ => stA T E.b0 ⟨fr, hp, rows⟩ t x v k
      | _, _ => alt))
  | .call { callee := .builtin .append, args, argTypes }, some d => (match args.toList, argTypes.toList with
    | [s, x], [t, t'] => (match Nat.beq t t' with | true => appA T σ t s x d k | false => alt)
    | _, _ => alt)
  | .call { callee := .builtin .clear, args, argTypes }, dst => (match args.toList, argTypes.toList with
    | [x], [t] => clrA T σ t x dst k
    | _, _ => alt)
  | .call { callee := .value f, args, argTypes }, dst => mcallA E G σ f args dst k
  | _, _ => alt

/-- one operation, where its guard lets it be carried out -/
def vcOne (E : Env) (T : TypeId → Option TInfo) (G : List (FuncId × Ctr)) (all rest : List Oper) (o : Oper) (fr : List AVal) (hp : List (Option (List AVal))) (rows : List (Option Row)) (kN : St → Prop) (k : St → Prop) : Prop :=
  match auto G fr o.op with
  | true => lenK hp fun nb => lenK rows fun nr => opEff T G (nthj hp) (nthj rows) nb nr fr o.op fun e => putE ⟨fr, hp, rows⟩ o.dst e k
  | false => heavy E T G ⟨fr, hp, rows⟩ o k (VO E all (o :: rest) ⟨fr, hp, rows⟩ kN)

/-- what stands where an operation was not carried out -/
def uV : AVal := .raw (.tuple #[])
/-- what a guard's operation yielded -/
def gk : AVal → Option (Option Bool)
  | .bool b => some (some b)
  | .raw v => match v with | .bool _ => none | _ => some none
  | _ => none
theorem gk_raw {v : Value} (h : ∀ b, v = .bool b → False) : gk (.raw v) = some none := by
  cases v <;> first | rfl | exact (h _ rfl).elim
theorem gk_junk {x : AVal} {ob : Option Bool} (h : gk x = some ob) : x ≠ .junk := fun e => by subst e; cases h
theorem gk_yield {x : AVal} {ob : Option Bool} (h : gk x = some ob) {L : Array Oper} {tmps : Array Value} {g d : Nat} {og : Oper} (h1 : L[g]? = some og) (h2 : og.dst = some d) {A : Asg} (h3 : tmps[d]? = some (x.den A)) : yielded L tmps g = ob := by
  cases x <;> simp only [gk] at h
  all_goals first
    | (cases h; done)
    | (cases h; simp [yielded, h1, h2, h3, AVal.den]; done)
    | skip
  rename_i v
  simp only [AVal.den] at h3
  cases v <;> simp only at h <;> first | (cases h; done) | (cases h; simp [yielded, h1, h2, h3])

def vcOps (E : Env) (T : TypeId → Option TInfo) (G : List (FuncId × Ctr)) (all : List Oper) : List Oper → St → (St → Prop) → Prop
  | [], σ, kN => kN σ
  | o :: rest, ⟨fr, hp, rows⟩, kN =>
    match o.guard with
    | none => vcOne E T G all rest o fr hp rows kN fun σ' => vcOps E T G all rest σ' kN
    | some (j, want) => (match nth all j with
      | some oj => (match oj.dst, o.dst with
        | some d, some d' => (match nth fr d with
          | some (.bool b) => (match want with
            | true => bcond b
              (setK fr d (.bool true) fun fr1 => vcOne E T G all rest o fr1 hp rows kN fun σ' => vcOps E T G all rest σ' kN)
              (setK fr d (.bool false) fun fr1 => setK fr1 d' uV fun fr2 => vcOps E T G all rest ⟨fr2, hp, rows⟩ kN)
            | false => bcond b
              (setK fr d (.bool true) fun fr1 => setK fr1 d' uV fun fr2 => vcOps E T G all rest ⟨fr2, hp, rows⟩ kN)
              (setK fr d (.bool false) fun fr1 => vcOne E T G all rest o fr1 hp rows kN fun σ' => vcOps E T G all rest σ' kN))
          | some (.raw v) => (match v with
            | .bool _ => False
            | _ => setK fr d' uV fun fr2 => vcOps E T G all rest ⟨fr2, hp, rows⟩ kN)
          | _ => False)
        | _, _ => False)
      | none => False)

def vcCode (E : Env) (T : TypeId → Option TInfo) (G : List (FuncId × Ctr)) : Code → (St → Prop) → (Nat → St → Prop) → (St → Prop) → St → Prop
  | .skip, kN, _, _, σ => kN σ
  | .seq a b, kN, kE, kR, σ => vcCode E T G a (fun σ' => V E b kN kE kR σ') kE kR σ
  | .block id c, kN, kE, kR, σ => vcCode E T G c kN (fun j σ' => match Nat.beq j id with | true => kN σ' | false => kE j σ') kR σ
  | .exit id, _, kE, _, σ => kE id σ
  | .ret, _, _, kR, σ => kR σ
  | .cond c x y, kN, kE, kR, σ => (match σ with
    | ⟨fr, hp, rows⟩ => (match c with
      | .tmp t => (match nth fr t with
        | some (.bool b) => bcond b (setK fr t (.bool true) fun fr' => vcCode E T G x kN kE kR ⟨fr', hp, rows⟩) (setK fr t (.bool false) fun fr' => vcCode E T G y kN kE kR ⟨fr', hp, rows⟩)
        | _ => False)
      | .const (.bool b) => bcond b (vcCode E T G x kN kE kR ⟨fr, hp, rows⟩) (vcCode E T G y kN kE kR ⟨fr, hp, rows⟩)
      | _ => False))
  | .region id ops draw, kN, kE, kR, σ => (match draw with
    | false => vcOps E T G ops.toList ops.toList σ kN
    | true => V E (.region id ops true) kN kE kR σ)
  | c, kN, kE, kR, σ => V E c kN kE kR σ

/-- Code whose first step is reckoned. -/
def canStep : Code → Bool
  | .seq _ _ | .block _ _ | .cond _ _ _ | .skip | .exit _ | .ret => true
  | .region _ _ d => !d
  | _ => false

end Go.Proofs.Ytlplngafncobkaa.Fw
