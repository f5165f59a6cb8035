/- The walk: what is to be shown of a piece of code from a symbolic state, found by reckoning. -/
import Derived.Test.YtlplngafncobkaaFwD
namespace Go.Proofs.Ytlplngafncobkaa.Fw
open Go Go.RowKit
set_option linter.unusedVariables false
set_option linter.unusedSimpArgs false

def At (E : Env) (Q : Exit → Act → World → Prop) (e : Exit) (σ : St) : Prop := ∀ A a w, Sat E A σ a w → Q e a w

/-- What is left to do of a list of operations. -/
structure VO (E : Env) (all rest : List Oper) (σ : St) (kN : St → Prop) : Prop where
  out : ∀ Q : Exit → Act → World → Prop, (∀ σ', kN σ' → At E Q .normal σ') → ∀ A a w, Sat E A σ a w → wpList E.P all.toArray Q rest a w

/-- What is left to do of a piece of code. -/
structure V (E : Env) (c : Code) (kN : St → Prop) (kE : Nat → St → Prop) (kR : St → Prop) (σ : St) : Prop where
  out : ∀ Q : Exit → Act → World → Prop, (∀ σ', kN σ' → At E Q .normal σ') → (∀ i σ', kE i σ' → At E Q (.exit i) σ') → (∀ σ', kR σ' → At E Q .ret σ') →
    ∀ A a w, Sat E A σ a w → c.wp E.P Q a w

def pushO (l : List (Option (List AVal))) (x : Option (List AVal)) (k : List (Option (List AVal)) → Prop) : Prop :=
  match x with
  | none => k l
  | some x => pushK l (some x) k

def pushR : List (Option Row) → List Row → (List (Option Row) → Prop) → Prop
  | l, [], k => k l
  | l, r :: rs, k => pushK l (some r) fun l' => pushR l' rs k

/-- the state behind an operation's effect -/
def putE (σ : St) (dst : Option Tmp) (e : Eff) (k : St → Prop) : Prop :=
  match σ, e with
  | ⟨fr, hp, rows⟩, ⟨box, rs, v⟩ =>
    pushO hp box fun hp' => pushR rows rs fun rows' =>
      match v.sc (lenN hp') [] (lenN rows') [] with
      | true => (match (match box with | some cs => scs (lenN hp) [] (lenN rows) [] cs | none => true) with
        | true => (match dst with
          | none => k ⟨fr, hp', rows'⟩
          | some d => setK fr d v fun fr' => k ⟨fr', hp', rows'⟩)
        | false => False)
      | false => False

/-- Is an operation taken by itself? -/
def auto (G : List (FuncId × PCtr)) (fr : List AVal) : Op → Bool
  | .move _ | .assign _ | .pick _ _ _ | .alloc _ | .box _ _ | .build _ _ | .buildSlice _ _ _ | .load _ _ | .fieldAddr _ _ _ | .field _ _ _ | .indexAddr _ _ _ | .index _ _ _
  | .binOp _ _ _ _ _ | .unOp _ _ _ | .convert _ _ _ | .extract _ _ | .makeFunc (.func _) _ _ | .nilCheck _ | .makeSlice _ _ _ => true
  | .slice _ x _ _ none => match ev fr x with | some (.str _) => true | some (.row _) => true | _ => false
  | .call { callee := .value f, .. } => match ev fr f with | some (.fn g _ _) => (match look G g with | some _ => true | none => false) | _ => false
  | .call { callee := .builtin .len, .. } | .call { callee := .builtin .min, .. } | .call { callee := .builtin .max, .. } => true
  | _ => false

def autoStore (fr : List AVal) : Op → Bool
  | .store _ x _ => match ev fr x with | some (.loc _ _) => true | some (.ele _ _ _ _) => true | _ => false
  | _ => false

def AVal.one : AVal → Bool
  | .agg _ | .tup _ | .junk => false
  | .raw v => v.oneCell'
  | _ => true
def allOne : List AVal → Bool
  | [] => true
  | x :: l => match x.one with | true => allOne l | false => false

/-- a store into a box -/
def stA (T : TypeId → Option TInfo) (b0 : Nat) (σ : St) (t : TypeId) (x v : Operand) (k : St → Prop) : Prop :=
  match σ with
  | ⟨fr, hp, rows⟩ => with1 fr x fun x => with1 fr v fun v => match x with
    | .loc i off => (match Nat.ble b0 i with
      | true => (match nthj hp i with
        | some cs => (match T t with
          | some ti => cellsA v fun vs => (match Nat.beq (lenN vs) ti.size with
            | true => (match allOne vs with
              | true => over cs off vs fun cs' => setK hp i (some cs') fun hp' => k ⟨fr, hp', rows⟩
              | false => False)
            | false => False)
          | none => False)
        | none => False)
      | false => False)
    | .ele r i off sz => (match nthj rows r with
      | some ⟨c, e, true, xs⟩ => (match T t with
        | some ti => cellsA v fun vs => (match Nat.beq (lenN vs) ti.size with
          | true => (match Nat.beq sz c.sz with
            | true => over (c.enc (xs.getD i c.dflt)) off vs fun cs' => (match c.dec cs' with
              | some x' => i < xs.length ∧ setK rows r (some ⟨c, e, true, xs.set i x'⟩) fun rows' => k ⟨fr, hp, rows'⟩
              | none => False)
            | false => False)
          | false => False)
        | none => False)
      | _ => False)
    | _ => False

/-- one operation, where its guard lets it be carried out -/
def vcOne (E : Env) (T : TypeId → Option TInfo) (G : List (FuncId × PCtr)) (all rest : List Oper) (o : Oper) (fr : List AVal) (hp : List (Option (List AVal))) (rows : List (Option Row)) (kN : St → Prop) (k : St → Prop) : Prop :=
  match auto G fr o.op with
  | true => lenK hp fun nb => lenK rows fun nr => opEff T G (nthj hp) (nthj rows) nb nr fr o.op fun e => putE ⟨fr, hp, rows⟩ o.dst e k
  | false => (match autoStore fr o.op, o.op, o.dst with
    | true, .store t x v, none => stA T E.b0 ⟨fr, hp, rows⟩ t x v k
    | _, _, _ => VO E all (o :: rest) ⟨fr, hp, rows⟩ kN)

/-- what stands where an operation was not carried out -/
def uV : AVal := .raw (.tuple #[])
/-- what a guard's operation yielded -/
def gk : AVal → Option (Option Bool)
  | .bool b => some (some b)
  | .raw v => match v with | .bool _ => none | _ => some none
  | _ => none
theorem gk_raw {v : Value} (h : ∀ b, v = .bool b → False) : gk (.raw v) = some none := by
  cases v <;> first | rfl | exact (h _ rfl).elim
theorem gk_junk {x : AVal} {ob : Option Bool} (h : gk x = some ob) : x ≠ .junk := fun e => by subst e; cases h
theorem gk_yield {x : AVal} {ob : Option Bool} (h : gk x = some ob) {L : Array Oper} {tmps : Array Value} {g d : Nat} {og : Oper} (h1 : L[g]? = some og) (h2 : og.dst = some d) {A : Asg} (h3 : tmps[d]? = some (x.den A)) : yielded L tmps g = ob := by
  cases x <;> simp only [gk] at h
  all_goals first
    | (cases h; done)
    | (cases h; simp [yielded, h1, h2, h3, AVal.den]; done)
    | skip
  rename_i v
  simp only [AVal.den] at h3
  cases v <;> simp only at h <;> first | (cases h; done) | (cases h; simp [yielded, h1, h2, h3])

def vcOps (E : Env) (T : TypeId → Option TInfo) (G : List (FuncId × PCtr)) (all : List Oper) : List Oper → St → (St → Prop) → Prop
  | [], σ, kN => kN σ
  | o :: rest, ⟨fr, hp, rows⟩, kN =>
    match o.guard with
    | none => vcOne E T G all rest o fr hp rows kN fun σ' => vcOps E T G all rest σ' kN
    | some (j, want) => (match nth all j with
      | some oj => (match oj.dst, o.dst with
        | some d, some d' => (match nth fr d with
          | some (.bool b) => (match want with
            | true => bcond b
              (setK fr d (.bool true) fun fr1 => vcOne E T G all rest o fr1 hp rows kN fun σ' => vcOps E T G all rest σ' kN)
              (setK fr d (.bool false) fun fr1 => setK fr1 d' uV fun fr2 => vcOps E T G all rest ⟨fr2, hp, rows⟩ kN)
            | false => bcond b
              (setK fr d (.bool true) fun fr1 => setK fr1 d' uV fun fr2 => vcOps E T G all rest ⟨fr2, hp, rows⟩ kN)
              (setK fr d (.bool false) fun fr1 => vcOne E T G all rest o fr1 hp rows kN fun σ' => vcOps E T G all rest σ' kN))
          | some (.raw v) => (match v with
            | .bool _ => False
            | _ => setK fr d' uV fun fr2 => vcOps E T G all rest ⟨fr2, hp, rows⟩ kN)
          | _ => False)
        | _, _ => False)
      | none => False)

def vcCode (E : Env) (T : TypeId → Option TInfo) (G : List (FuncId × PCtr)) : Code → (St → Prop) → (Nat → St → Prop) → (St → Prop) → St → Prop
  | .skip, kN, _, _, σ => kN σ
  | .seq a b, kN, kE, kR, σ => vcCode E T G a (fun σ' => vcCode E T G b kN kE kR σ') kE kR σ
  | .block id c, kN, kE, kR, σ => vcCode E T G c kN (fun j σ' => match Nat.beq j id with | true => kN σ' | false => kE j σ') kR σ
  | .exit id, _, kE, _, σ => kE id σ
  | .ret, _, _, kR, σ => kR σ
  | .cond c x y, kN, kE, kR, σ => (match σ with
    | ⟨fr, hp, rows⟩ => (match c with
      | .tmp t => (match nth fr t with
        | some (.bool b) => bcond b (setK fr t (.bool true) fun fr' => vcCode E T G x kN kE kR ⟨fr', hp, rows⟩) (setK fr t (.bool false) fun fr' => vcCode E T G y kN kE kR ⟨fr', hp, rows⟩)
        | _ => False)
      | .const (.bool b) => bcond b (vcCode E T G x kN kE kR ⟨fr, hp, rows⟩) (vcCode E T G y kN kE kR ⟨fr, hp, rows⟩)
      | _ => False))
  | .region id ops draw, kN, kE, kR, σ => (match draw with
    | false => vcOps E T G ops.toList ops.toList σ kN
    | true => V E (.region id ops true) kN kE kR σ)
  | c, kN, kE, kR, σ => V E c kN kE kR σ

end Go.Proofs.Ytlplngafncobkaa.Fw
