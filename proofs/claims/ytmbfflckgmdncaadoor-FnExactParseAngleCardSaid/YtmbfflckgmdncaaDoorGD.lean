/- Entering a function, leaving it, loops. -/
import Derived.Test.YtmbfflckgmdncaaDoorGC
import Derived.Deep.LoopGhost
import Derived.StillTail
namespace Go.Proofs.YtmbfflckgmdncaaDoor.Fw
open Go Go.RowKit
set_option linter.unusedVariables false
set_option linter.unusedSimpArgs false

/-! ### fewer facts -/
def leFr : List AVal → List AVal → Prop
  | l, y :: l' => match y, l with
    | .junk, _ :: l => leFr l l'
    | y, x :: l => x = y ∧ leFr l l'
    | _, [] => False
  | [], [] => True
  | _ :: _, [] => False
def leO {α : Type} : List (Option α) → List (Option α) → Prop
  | _, [] => True
  | [], none :: l' => leO [] l'
  | _ :: l, none :: l' => leO l l'
  | x :: l, some y :: l' => x = some y ∧ leO l l'
  | [], some _ :: _ => False

def scO (nb nr : Nat) : List (Option (List AVal)) → Bool
  | [] => true
  | none :: l => scO nb nr l
  | some c :: l => match scs nb [] nr [] c with | true => scO nb nr l | false => false

def Le (E : Env) (σ σ' : St) : Prop :=
  match σ, σ' with
  | ⟨fr, hp, rows⟩, ⟨fr', hp', rows'⟩ => leFr fr fr' ∧ leO hp hp' ∧ leO rows rows' ∧ scs (lenN hp') [] (lenN rows') [] fr' = true ∧ scO (lenN hp') (lenN rows') hp' = true ∧ E.n0 ≤ lenN rows' ∧ E.b0 ≤ lenN hp'

theorem leFr_spec : ∀ (l l' : List AVal), leFr l l' → l.length = l'.length ∧ ∀ (t : Nat) (y : AVal), l'[t]? = some y → y = .junk ∨ l[t]? = some y
  | [], [], _ => ⟨rfl, fun t y h => by simp at h⟩
  | x :: l, [], h => h.elim
  | l, y :: l', h => by
    unfold leFr at h
    split at h
    · rename_i x l
      obtain ⟨h1, h2⟩ := leFr_spec l l' h
      refine ⟨by simp [h1], fun t z hz => ?_⟩
      cases t with
      | zero => simp at hz; exact .inl hz.symm
      | succ t => simpa using h2 t z (by simpa using hz)
    · rename_i x l _
      obtain ⟨hxy, h⟩ := h
      subst hxy
      obtain ⟨h1, h2⟩ := leFr_spec l l' h
      refine ⟨by simp [h1], fun t z hz => ?_⟩
      cases t with
      | zero => simp at hz; exact .inr (by simp [hz])
      | succ t => simpa using h2 t z (by simpa using hz)
    · exact h.elim

theorem leO_spec {α : Type} : ∀ (l l' : List (Option α)), leO l l' → ∀ (t : Nat) (y : α), nthj l' t = some y → nthj l t = some y
  | l, [], _, t, y, h => by simp [nthj] at h
  | [], none :: l', h, t, y, hy => by
    cases t with
    | zero => simp [nthj] at hy
    | succ t => have := leO_spec [] l' (by simpa [leO] using h) t y (by simpa [nthj] using hy); simp [nthj] at this
  | x :: l, none :: l', h, t, y, hy => by
    cases t with
    | zero => simp [nthj] at hy
    | succ t => simpa [nthj] using leO_spec l l' (by simpa [leO] using h) t y (by simpa [nthj] using hy)
  | x :: l, some z :: l', h, t, y, hy => by
    simp only [leO] at h
    cases t with
    | zero => simp [nthj] at hy ⊢; rw [h.1, hy]
    | succ t => simpa [nthj] using leO_spec l l' h.2 t y (by simpa [nthj] using hy)
  | [], some _ :: _, h, t, y, hy => by simp [leO] at h

theorem scO_spec {nb nr : Nat} : ∀ (l : List (Option (List AVal))), scO nb nr l = true → ∀ i cs, nthj l i = some cs → scs nb [] nr [] cs = true
  | [], _, i, cs, h => by simp [nthj] at h
  | none :: l, hs, i, cs, h => by
    cases i with
    | zero => simp [nthj] at h
    | succ i => exact scO_spec l (by simpa [scO] using hs) i cs (by simpa [nthj] using h)
  | some c :: l, hs, i, cs, h => by
    simp only [scO] at hs
    split at hs
    · rename_i hc
      cases i with
      | zero => simp [nthj] at h; subst h; exact hc
      | succ i => exact scO_spec l hs i cs (by simpa [nthj] using h)
    · cases hs

theorem Sat.le {E : Env} {A : Asg} {σ σ' : St} {a : Act} {w : World} (h : Sat E A σ a w) (hle : Le E σ σ') : Sat E A σ' a w := by
  obtain ⟨fr, hp, rows⟩ := σ
  obtain ⟨fr', hp', rows'⟩ := σ'
  simp only [Le, lenN_eq] at hle
  obtain ⟨h1, h2, h3, h4, h5, h6, h7⟩ := hle
  obtain ⟨hl, hf⟩ := leFr_spec _ _ h1
  rw [scs_all] at h4
  exact {
    defers := h.defers
    size := h.size.trans hl
    fr := fun t y hy => (hf t y hy).elim .inl (fun e => h.fr t y e)
    sc := fun t y hy => h4 y (List.mem_of_getElem? hy)
    hsc := fun i cs hi => scO_spec hp' h5 i cs hi
    mem := h.mem.sub (fun i c hi => leO_spec _ _ h2 i c hi) (fun k r hk => leO_spec _ _ h3 k r hk)
    klt := h.klt
    n0 := h6
    b0 := h7 }

theorem At.le {E : Env} {Q : Exit → Act → World → Prop} {e : Exit} {σ σ' : St} (hle : Le E σ σ') (h : At E Q e σ') : At E Q e σ := fun A a w hs => h A a w (hs.le hle)

/-! ### fewer facts, levels told anew -/
/-- Levels as other levels; a row may be the nil slice. -/
structure Ren where
  b : List Nat
  r : List (Option Nat)
def bGet : List Nat → Nat → Nat
  | [], i => i
  | x :: _, 0 => x
  | _ :: l, i + 1 => bGet l i
def rGet : List (Option Nat) → Nat → Option Nat
  | [], i => some i
  | x :: _, 0 => x
  | _ :: l, i + 1 => rGet l i

mutual
def AVal.ren (xb : List Nat) (xr : List (Option Nat)) : AVal → (AVal → Prop) → Prop
  | .loc i o, k => k (.loc (bGet xb i) o)
  | .bsl i n, k => k (.bsl (bGet xb i) n)
  | .mpr i, k => k (.mpr (bGet xb i))
  | .mps es, k => k (.mps es)
  | .row r, k => match rGet xr r with | some j => k (.row j) | none => k (.raw (.slice none 0 0))
  | .ele r i o s, k => match rGet xr r with | some j => k (.ele j i o s) | none => False
  | .irow r i, k => match rGet xr r with | some j => k (.irow j i) | none => False
  | .iele r i q o s, k => match rGet xr r with | some j => k (.iele j i q o s) | none => False
  | .vw r lo n s, k => match rGet xr r with | some j => k (.vw j lo n s) | none => False
  | .agg cs, k => rens xb xr cs fun l => k (.agg l)
  | .tup vs, k => rens xb xr vs fun l => k (.tup l)
  | .fn f fs cs, k => rens xb xr fs fun l => rens xb xr cs fun l' => k (.fn f l l')
  | .int a b, k => k (.int a b)
  | .bool b, k => k (.bool b)
  | .str s, k => k (.str s)
  | .raw v, k => k (.raw v)
  | .junk, _ => False
def rens (xb : List Nat) (xr : List (Option Nat)) : List AVal → (List AVal → Prop) → Prop
  | [], k => k []
  | x :: l, k => x.ren xb xr fun y => rens xb xr l fun l' => k (y :: l')
end

/-- How a renamed state reads. -/
def Asg.pull (A : Asg) (xb : List Nat) (xr : List (Option Nat)) : Asg :=
  ⟨fun i => A.bx (bGet xb i), fun i => match rGet xr i with | some j => A.rw j | none => ⟨none, 0, 0⟩, fun i => match rGet xr i with | some j => A.inn j | none => fun _ => ⟨none, 0, 0⟩⟩

mutual
theorem AVal.ren_den {xb : List Nat} {xr : List (Option Nat)} : ∀ (x : AVal) (k : AVal → Prop), x.ren xb xr k → ∃ y, k y ∧ ∀ A : Asg, y.den A = x.den (A.pull xb xr)
  | .loc i o, k, h => ⟨_, h, fun A => by simp [AVal.den, Asg.pull]⟩
  | .bsl i n, k, h => ⟨_, h, fun A => by simp [AVal.den, Asg.pull]⟩
  | .mpr i, k, h => ⟨_, h, fun A => by simp [AVal.den, Asg.pull]⟩
  | .mps es, k, h => ⟨_, h, fun A => by simp [AVal.den]⟩
  | .row r, k, h => by
    simp only [AVal.ren] at h
    split at h
    · rename_i j hj; exact ⟨_, h, fun A => by simp [AVal.den, Asg.pull, hj]⟩
    · rename_i hj; exact ⟨_, h, fun A => by simp [AVal.den, Asg.pull, hj, Hdr.val]⟩
  | .ele r i o s, k, h => by
    simp only [AVal.ren] at h
    split at h
    · rename_i j hj; exact ⟨_, h, fun A => by simp [AVal.den, Asg.pull, hj]⟩
    · exact h.elim
  | .irow r i, k, h => by
    simp only [AVal.ren] at h
    split at h
    · rename_i j hj; exact ⟨_, h, fun A => by simp [AVal.den, Asg.pull, hj]⟩
    · exact h.elim
  | .iele r i q o s, k, h => by
    simp only [AVal.ren] at h
    split at h
    · rename_i j hj; exact ⟨_, h, fun A => by simp [AVal.den, Asg.pull, hj]⟩
    · exact h.elim
  | .vw r lo n s, k, h => by
    simp only [AVal.ren] at h
    split at h
    · rename_i j hj; exact ⟨_, h, fun A => by simp [AVal.den, Asg.pull, hj]⟩
    · exact h.elim
  | .agg cs, k, h => by
    simp only [AVal.ren] at h
    obtain ⟨ys, h1, h2⟩ := rens_den cs _ h
    exact ⟨_, h1, fun A => by simp [AVal.den, h2]⟩
  | .tup cs, k, h => by
    simp only [AVal.ren] at h
    obtain ⟨ys, h1, h2⟩ := rens_den cs _ h
    exact ⟨_, h1, fun A => by simp [AVal.den, h2]⟩
  | .fn f fs cs, k, h => by
    simp only [AVal.ren] at h
    obtain ⟨ys, h1, h2⟩ := rens_den fs _ h
    obtain ⟨zs, h3, h4⟩ := rens_den cs _ h1
    exact ⟨_, h3, fun A => by simp [AVal.den, h2, h4]⟩
  | .int a b, k, h => ⟨_, h, fun A => by simp [AVal.den]⟩
  | .bool b, k, h => ⟨_, h, fun A => by simp [AVal.den]⟩
  | .str b, k, h => ⟨_, h, fun A => by simp [AVal.den]⟩
  | .raw b, k, h => ⟨_, h, fun A => by simp [AVal.den]⟩
  | .junk, k, h => h.elim
theorem rens_den {xb : List Nat} {xr : List (Option Nat)} : ∀ (l : List AVal) (k : List AVal → Prop), rens xb xr l k → ∃ ys, k ys ∧ ∀ A : Asg, dens A ys = dens (A.pull xb xr) l
  | [], k, h => ⟨[], h, fun A => by simp [dens]⟩
  | x :: l, k, h => by
    simp only [rens] at h
    obtain ⟨y, h1, h2⟩ := AVal.ren_den x _ h
    obtain ⟨ys, h3, h4⟩ := rens_den l _ h1
    exact ⟨_, h3, fun A => by simp [dens, h2, h4]⟩
end

theorem ren_mps {xb : List Nat} {xr : List (Option Nat)} {es : List ((ByteArray × ByteArray) × Int)} {x : AVal} {k : AVal → Prop} (h : x.ren xb xr k) (hk : ∀ y, k y → y = .mps es) : x = .mps es := by
  cases x <;> simp only [AVal.ren] at h <;> first
    | (have := hk _ h; first | exact this | cases this)
    | (split at h <;> first | (have := hk _ h; cases this) | exact h.elim)
    | (obtain ⟨_, h1, _⟩ := rens_den _ _ h; have := hk _ h1; cases this)
    | (obtain ⟨_, h1, _⟩ := rens_den _ _ h; obtain ⟨_, h2, _⟩ := rens_den _ _ h1; have := hk _ h2; cases this)
    | exact h.elim
theorem rens_map {xb : List Nat} {xr : List (Option Nat)} {c d : List AVal} (h : rens xb xr c (fun z => d = z)) : mapOf d = mapOf c := by
  cases hc : mapOf c with
  | some es =>
    have := mapOf_eq hc
    subst this
    simp only [rens, AVal.ren] at h
    subst h; rfl
  | none =>
    cases hd : mapOf d with
    | none => rfl
    | some es =>
      have := mapOf_eq hd
      subst this
      cases c with
      | nil => simp only [rens] at h; cases h
      | cons x l =>
        cases l with
        | cons y l =>
          simp only [rens] at h
          obtain ⟨_, h1, _⟩ := AVal.ren_den x _ h
          obtain ⟨_, h2, _⟩ := AVal.ren_den y _ h1
          obtain ⟨_, h3, _⟩ := rens_den l _ h2
          cases h3
        | nil =>
          simp only [rens] at h
          have := ren_mps (es := es) h (fun y hy => by cases hy; rfl)
          subst this
          cases hc
def leFrR (xb : List Nat) (xr : List (Option Nat)) : List AVal → List AVal → Prop
  | l, y :: l' => match y, l with
    | .junk, _ :: l => leFrR xb xr l l'
    | y, x :: l => y.ren xb xr (fun z => x = z) ∧ leFrR xb xr l l'
    | _, [] => False
  | [], [] => True
  | _ :: _, [] => False
/-- boxes -/
def leHpR (xb : List Nat) (xr : List (Option Nat)) (hp : List (Option (List AVal))) : Nat → List (Option (List AVal)) → Prop
  | _, [] => True
  | n, none :: l => leHpR xb xr hp (n + 1) l
  | n, some c :: l => (match nthj hp (bGet xb n) with | some d => rens xb xr c (fun z => d = z) ∧ leHpR xb xr hp (n + 1) l | none => False)
/-- rows -/
def leRwR (xr : List (Option Nat)) (rows : List (Option Row)) : Nat → List (Option Row) → Prop
  | _, [] => True
  | n, none :: l => leRwR xr rows (n + 1) l
  | n, some r :: l => (match rGet xr n with
    | some j => (match nthj rows j with | some q => q = r ∧ leRwR xr rows (n + 1) l | none => False)
    | none => (match r with | ⟨c, e, true, xs⟩ => xs = [] ∧ leRwR xr rows (n + 1) l | _ => False))
def notIn : Nat → List Nat → Bool
  | _, [] => true
  | n, m :: l => match Nat.beq n m with | true => false | false => notIn n l
def distN : List Nat → Bool
  | [] => true
  | n :: l => match notIn n l with | true => distN l | false => false
/-- the levels that are told, as the old levels -/
def usedB (xb : List Nat) : Nat → List (Option (List AVal)) → List Nat
  | _, [] => []
  | n, none :: l => usedB xb (n + 1) l
  | n, some _ :: l => bGet xb n :: usedB xb (n + 1) l
def usedR (xr : List (Option Nat)) : Nat → List (Option Row) → List Nat
  | _, [] => []
  | n, none :: l => usedR xr (n + 1) l
  | n, some _ :: l => match rGet xr n with | some j => j :: usedR xr (n + 1) l | none => usedR xr (n + 1) l
/-- the first levels stay -/
def fixB (xb : List Nat) : Nat → Bool
  | 0 => true
  | n + 1 => match Nat.beq (bGet xb n) n with | true => fixB xb n | false => false
def fixR (xr : List (Option Nat)) : Nat → Bool
  | 0 => true
  | n + 1 => match rGet xr n with | some j => (match Nat.beq j n with | true => fixR xr n | false => false) | none => false
/-- the later levels are later ones -/
def lateB (b0 : Nat) (xb : List Nat) : Nat → List (Option (List AVal)) → Bool
  | _, [] => true
  | n, none :: l => lateB b0 xb (n + 1) l
  | n, some _ :: l => match Nat.ble b0 n with
    | true => (match Nat.ble b0 (bGet xb n) with | true => lateB b0 xb (n + 1) l | false => false)
    | false => lateB b0 xb (n + 1) l

def LeR (E : Env) (xb : List Nat) (xr : List (Option Nat)) (σ σ' : St) : Prop :=
  match σ, σ' with
  | ⟨fr, hp, rows⟩, ⟨fr', hp', rows'⟩ => leFrR xb xr fr fr' ∧ leHpR xb xr hp 0 hp' ∧ leRwR xr rows 0 rows' ∧ distN (usedB xb 0 hp') = true ∧ distN (usedR xr 0 rows') = true ∧ fixB xb E.b0 = true ∧ fixR xr E.n0 = true ∧ lateB E.b0 xb 0 hp' = true ∧
    scs (lenN hp') [] (lenN rows') [] fr' = true ∧ scO (lenN hp') (lenN rows') hp' = true ∧ E.n0 ≤ lenN rows' ∧ E.b0 ≤ lenN hp'

theorem leFrR_spec {xb : List Nat} {xr : List (Option Nat)} : ∀ (l l' : List AVal), leFrR xb xr l l' → l.length = l'.length ∧ ∀ (t : Nat) (y : AVal), l'[t]? = some y → y = .junk ∨ ∃ x, l[t]? = some x ∧ x ≠ .junk ∧ ∀ A : Asg, x.den A = y.den (A.pull xb xr)
  | [], [], _ => ⟨rfl, fun t y h => by simp at h⟩
  | x :: l, [], h => h.elim
  | l, y :: l', h => by
    unfold leFrR at h
    split at h
    · rename_i x l
      obtain ⟨h1, h2⟩ := leFrR_spec l l' h
      refine ⟨by simp [h1], fun t z hz => ?_⟩
      cases t with
      | zero => simp at hz; exact .inl hz.symm
      | succ t => simpa using h2 t z (by simpa using hz)
    · rename_i x l _
      obtain ⟨hxy, h⟩ := h
      obtain ⟨h1, h2⟩ := leFrR_spec l l' h
      refine ⟨by simp [h1], fun t z hz => ?_⟩
      cases t with
      | zero =>
        simp at hz; subst hz
        have hne : ∀ w, AVal.ren xb xr y (fun z => w = z) → w ≠ .junk := fun w hw e => by
          subst e
          cases y <;> simp only [AVal.ren] at hw <;> first | cases hw | exact hw.elim | (split at hw <;> first | cases hw | exact hw.elim) | skip
          · obtain ⟨_, h3, _⟩ := rens_den _ _ hw; cases h3
          · obtain ⟨_, h3, _⟩ := rens_den _ _ hw; cases h3
          · obtain ⟨_, h3, _⟩ := rens_den _ _ hw; obtain ⟨_, h4, _⟩ := rens_den _ _ h3; cases h4
        have hj := hne x hxy
        obtain ⟨w, h3, h4⟩ := AVal.ren_den y _ hxy
        subst h3
        exact .inr ⟨x, by simp, hj, h4⟩
      | succ t => simpa using h2 t z (by simpa using hz)
    · exact h.elim
theorem leHpR_spec {xb : List Nat} {xr : List (Option Nat)} {hp : List (Option (List AVal))} : ∀ (l : List (Option (List AVal))) (n : Nat), leHpR xb xr hp n l → ∀ i c, nthj l i = some c → ∃ d, nthj hp (bGet xb (n + i)) = some d ∧ mapOf d = mapOf c ∧ ∀ A : Asg, dens A d = dens (A.pull xb xr) c
  | [], n, _, i, c, h => by simp [nthj] at h
  | none :: l, n, h, i, c, hi => by
    cases i with
    | zero => simp [nthj] at hi
    | succ i =>
      have := leHpR_spec l (n + 1) h i c (by simpa [nthj] using hi)
      rwa [show n + 1 + i = n + (i + 1) by omega] at this
  | some d :: l, n, h, i, c, hi => by
    simp only [leHpR] at h
    split at h
    · rename_i q hq
      obtain ⟨h1, h2⟩ := h
      cases i with
      | zero =>
        simp [nthj] at hi; subst hi
        have hmm := rens_map h1
        obtain ⟨z, h3, h4⟩ := rens_den _ _ h1
        subst h3
        exact ⟨q, hq, hmm, h4⟩
      | succ i =>
        have := leHpR_spec l (n + 1) h2 i c (by simpa [nthj] using hi)
        rwa [show n + 1 + i = n + (i + 1) by omega] at this
    · exact h.elim
theorem leRwR_spec {xr : List (Option Nat)} {rows : List (Option Row)} : ∀ (l : List (Option Row)) (n : Nat), leRwR xr rows n l → ∀ i r, nthj l i = some r → (∃ j, rGet xr (n + i) = some j ∧ nthj rows j = some r) ∨ (rGet xr (n + i) = none ∧ ∃ c e, r = ⟨c, e, true, []⟩)
  | [], n, _, i, c, h => by simp [nthj] at h
  | none :: l, n, h, i, c, hi => by
    cases i with
    | zero => simp [nthj] at hi
    | succ i =>
      have := leRwR_spec l (n + 1) h i c (by simpa [nthj] using hi)
      rwa [show n + 1 + i = n + (i + 1) by omega] at this
  | some r :: l, n, h, i, c, hi => by
    simp only [leRwR] at h
    have rest : leRwR xr rows (n + 1) l → ∀ i, nthj l i = some c → (∃ j, rGet xr (n + (i + 1)) = some j ∧ nthj rows j = some c) ∨ (rGet xr (n + (i + 1)) = none ∧ ∃ c' e, c = ⟨c', e, true, []⟩) := fun h2 i hi => by
      have := leRwR_spec l (n + 1) h2 i c hi
      rwa [show n + 1 + i = n + (i + 1) by omega] at this
    split at h
    · rename_i j hj
      split at h
      · rename_i q hq
        obtain ⟨h1, h2⟩ := h
        cases i with
        | zero => simp [nthj] at hi; subst hi; subst h1; exact .inl ⟨j, hj, hq⟩
        | succ i => exact rest h2 i (by simpa [nthj] using hi)
      · exact h.elim
    · rename_i hj
      split at h
      · rename_i c0 e0 xs0
        obtain ⟨h1, h2⟩ := h
        cases i with
        | zero => simp [nthj] at hi; subst hi; subst h1; exact .inr ⟨hj, _, _, rfl⟩
        | succ i => exact rest h2 i (by simpa [nthj] using hi)
      · exact h.elim
theorem notIn_eq : ∀ (n : Nat) (l : List Nat), notIn n l = true → n ∉ l
  | n, [], _, h => by simp at h
  | n, m :: l, hh, h => by
    unfold notIn at hh
    split at hh
    · cases hh
    · rename_i hb
      simp only [List.mem_cons] at h
      rcases h with rfl | h
      · simp at hb
      · exact notIn_eq n l hh h
theorem usedB_mem {xb : List Nat} : ∀ (l : List (Option (List AVal))) (n i : Nat) (c : List AVal), nthj l i = some c → bGet xb (n + i) ∈ usedB xb n l
  | [], n, i, c, h => by simp [nthj] at h
  | none :: l, n, i, c, h => by
    cases i with
    | zero => simp [nthj] at h
    | succ i =>
      have := usedB_mem (xb := xb) l (n + 1) i c (by simpa [nthj] using h)
      rw [show n + 1 + i = n + (i + 1) by omega] at this
      exact this
  | some d :: l, n, i, c, h => by
    cases i with
    | zero => simp [usedB]
    | succ i =>
      have := usedB_mem (xb := xb) l (n + 1) i c (by simpa [nthj] using h)
      rw [show n + 1 + i = n + (i + 1) by omega] at this
      exact List.mem_cons_of_mem _ this
theorem usedB_inj {xb : List Nat} : ∀ (l : List (Option (List AVal))) (n i j : Nat) (c d : List AVal), distN (usedB xb n l) = true → nthj l i = some c → nthj l j = some d → i ≠ j → bGet xb (n + i) ≠ bGet xb (n + j)
  | [], n, i, j, c, d, _, h, _, _ => by simp [nthj] at h
  | none :: l, n, i, j, c, d, hd, hi, hj, hij => by
    cases i with
    | zero => simp [nthj] at hi
    | succ i => cases j with
      | zero => simp [nthj] at hj
      | succ j =>
        have := usedB_inj (xb := xb) l (n + 1) i j c d hd (by simpa [nthj] using hi) (by simpa [nthj] using hj) (fun e => hij (by rw [e]))
        rw [show n + 1 + i = n + (i + 1) by omega, show n + 1 + j = n + (j + 1) by omega] at this
        exact this
  | some q :: l, n, i, j, c, d, hd, hi, hj, hij => by
    simp only [usedB, distN] at hd
    split at hd
    · rename_i hn
      have hn := notIn_eq _ _ hn
      cases i with
      | zero => cases j with
        | zero => exact absurd rfl hij
        | succ j =>
          have := usedB_mem (xb := xb) l (n + 1) j d (by simpa [nthj] using hj)
          rw [show n + 1 + j = n + (j + 1) by omega] at this
          exact fun e => hn (by have e : bGet xb n = bGet xb (n + (j + 1)) := e; rw [e]; exact this)
      | succ i => cases j with
        | zero =>
          have := usedB_mem (xb := xb) l (n + 1) i c (by simpa [nthj] using hi)
          rw [show n + 1 + i = n + (i + 1) by omega] at this
          exact fun e => hn (by have e : bGet xb (n + (i + 1)) = bGet xb n := e; rw [← e]; exact this)
        | succ j =>
          have := usedB_inj (xb := xb) l (n + 1) i j c d hd (by simpa [nthj] using hi) (by simpa [nthj] using hj) (fun e => hij (by rw [e]))
          rw [show n + 1 + i = n + (i + 1) by omega, show n + 1 + j = n + (j + 1) by omega] at this
          exact this
    · cases hd
theorem usedR_mem {xr : List (Option Nat)} : ∀ (l : List (Option Row)) (n i : Nat) (c : Row) (q : Nat), nthj l i = some c → rGet xr (n + i) = some q → q ∈ usedR xr n l
  | [], n, i, c, q, h, _ => by simp [nthj] at h
  | none :: l, n, i, c, q, h, hq => by
    cases i with
    | zero => simp [nthj] at h
    | succ i => exact usedR_mem (xr := xr) l (n + 1) i c q (by simpa [nthj] using h) (by rw [show n + 1 + i = n + (i + 1) by omega]; exact hq)
  | some d :: l, n, i, c, q, h, hq => by
    cases i with
    | zero => rw [Nat.add_zero] at hq; simp [usedR, hq]
    | succ i =>
      have := usedR_mem (xr := xr) l (n + 1) i c q (by simpa [nthj] using h) (by rw [show n + 1 + i = n + (i + 1) by omega]; exact hq)
      simp only [usedR]
      split
      · exact List.mem_cons_of_mem _ this
      · exact this
theorem usedR_inj {xr : List (Option Nat)} : ∀ (l : List (Option Row)) (n i j : Nat) (c d : Row) (p q : Nat), distN (usedR xr n l) = true → nthj l i = some c → nthj l j = some d → i ≠ j → rGet xr (n + i) = some p → rGet xr (n + j) = some q → p ≠ q
  | [], n, i, j, c, d, p, q, _, h, _, _, _, _ => by simp [nthj] at h
  | none :: l, n, i, j, c, d, p, q, hd, hi, hj, hij, hp, hq => by
    cases i with
    | zero => simp [nthj] at hi
    | succ i => cases j with
      | zero => simp [nthj] at hj
      | succ j => exact usedR_inj (xr := xr) l (n + 1) i j c d p q hd (by simpa [nthj] using hi) (by simpa [nthj] using hj) (fun e => hij (by rw [e])) (by rw [show n + 1 + i = n + (i + 1) by omega]; exact hp) (by rw [show n + 1 + j = n + (j + 1) by omega]; exact hq)
  | some x :: l, n, i, j, c, d, p, q, hd, hi, hj, hij, hp, hq => by
    have tail : distN (usedR xr (n + 1) l) = true := by
      simp only [usedR] at hd
      split at hd
      · simp only [distN] at hd
        split at hd
        · exact hd
        · cases hd
      · exact hd
    have head : ∀ p, rGet xr n = some p → p ∉ usedR xr (n + 1) l := fun p hp0 => by
      simp only [usedR, hp0, distN] at hd
      split at hd
      · rename_i hn; exact notIn_eq _ _ hn
      · cases hd
    cases i with
    | zero => cases j with
      | zero => exact absurd rfl hij
      | succ j =>
        have := usedR_mem (xr := xr) l (n + 1) j d q (by simpa [nthj] using hj) (by rw [show n + 1 + j = n + (j + 1) by omega]; exact hq)
        exact fun e => head p (by simpa using hp) (e ▸ this)
    | succ i => cases j with
      | zero =>
        have := usedR_mem (xr := xr) l (n + 1) i c p (by simpa [nthj] using hi) (by rw [show n + 1 + i = n + (i + 1) by omega]; exact hp)
        exact fun e => head q (by simpa using hq) (e ▸ this)
      | succ j => exact usedR_inj (xr := xr) l (n + 1) i j c d p q tail (by simpa [nthj] using hi) (by simpa [nthj] using hj) (fun e => hij (by rw [e])) (by rw [show n + 1 + i = n + (i + 1) by omega]; exact hp) (by rw [show n + 1 + j = n + (j + 1) by omega]; exact hq)
theorem fixB_eq {xb : List Nat} : ∀ (n : Nat), fixB xb n = true → ∀ i, i < n → bGet xb i = i
  | 0, _, i, hi => by omega
  | n + 1, h, i, hi => by
    unfold fixB at h
    split at h
    · rename_i hb
      by_cases e : i = n
      · subst e; exact Nat.eq_of_beq_eq_true hb
      · exact fixB_eq n h i (by omega)
    · cases h
theorem fixR_eq {xr : List (Option Nat)} : ∀ (n : Nat), fixR xr n = true → ∀ i, i < n → rGet xr i = some i
  | 0, _, i, hi => by omega
  | n + 1, h, i, hi => by
    unfold fixR at h
    split at h
    · rename_i j hj
      split at h
      · rename_i hb
        by_cases e : i = n
        · subst e; rw [hj, Nat.eq_of_beq_eq_true hb]
        · exact fixR_eq n h i (by omega)
      · cases h
    · cases h
theorem lateB_eq {b0 : Nat} {xb : List Nat} : ∀ (l : List (Option (List AVal))) (n : Nat), lateB b0 xb n l = true → ∀ i c, nthj l i = some c → b0 ≤ n + i → b0 ≤ bGet xb (n + i)
  | [], n, _, i, c, h, _ => by simp [nthj] at h
  | none :: l, n, hl, i, c, h, hi => by
    cases i with
    | zero => simp [nthj] at h
    | succ i =>
      have := lateB_eq (b0 := b0) (xb := xb) l (n + 1) hl i c (by simpa [nthj] using h) (by omega)
      rw [show n + 1 + i = n + (i + 1) by omega] at this
      exact this
  | some d :: l, n, hl, i, c, h, hi => by
    have tail : lateB b0 xb (n + 1) l = true := by
      unfold lateB at hl
      split at hl
      · split at hl
        · exact hl
        · cases hl
      · exact hl
    cases i with
    | zero =>
      unfold lateB at hl
      split at hl
      · split at hl
        · rename_i h2; exact Nat.le_of_ble_eq_true h2
        · cases hl
      · rename_i h2
        have : Nat.ble b0 n = true := Nat.ble_eq_true_of_le (by omega)
        rw [this] at h2; cases h2
    | succ i =>
      have := lateB_eq (b0 := b0) (xb := xb) l (n + 1) tail i c (by simpa [nthj] using h) (by omega)
      rw [show n + 1 + i = n + (i + 1) by omega] at this
      exact this

theorem Sat.leR {E : Env} {A : Asg} {σ σ' : St} {a : Act} {w : World} {xb : List Nat} {xr : List (Option Nat)} (h : Sat E A σ a w) (hle : LeR E xb xr σ σ') : Sat E (A.pull xb xr) σ' a w := by
  obtain ⟨fr, hp, rows⟩ := σ
  obtain ⟨fr', hp', rows'⟩ := σ'
  simp only [LeR, lenN_eq] at hle
  obtain ⟨h1, h2, h3, h4, h5, h6, h7, h8, h9, h10, h11, h12⟩ := hle
  obtain ⟨hl, hf⟩ := leFrR_spec _ _ h1
  rw [scs_all] at h9
  have hpS := leHpR_spec hp' 0 h2
  have rwS := leRwR_spec rows' 0 h3
  have hbS : ∀ i j ci cj, nthj hp' i = some ci → nthj hp' j = some cj → i ≠ j → bGet xb i ≠ bGet xb j := fun i j ci cj hi hj hij => by
    have := usedB_inj (xb := xb) hp' 0 i j ci cj h4 hi hj hij
    simpa using this
  have hfb := fixB_eq (xb := xb) E.b0 h6
  have hfr := fixR_eq (xr := xr) E.n0 h7
  have hm := h.mem
  have getR : ∀ k r, nthj rows' k = some r → (∃ j, rGet xr k = some j ∧ nthj rows j = some r ∧ (A.pull xb xr).rw k = A.rw j ∧ (A.pull xb xr).inn k = A.inn j) ∨ (rGet xr k = none ∧ (∃ c e, r = ⟨c, e, true, []⟩) ∧ (A.pull xb xr).rw k = ⟨none, 0, 0⟩) := fun k r hk => by
    rcases rwS k r hk with ⟨j, q1, q2⟩ | ⟨q1, q2⟩
    · rw [Nat.zero_add] at q1
      exact .inl ⟨j, q1, q2, by simp [Asg.pull, q1], by simp [Asg.pull, q1]⟩
    · rw [Nat.zero_add] at q1
      exact .inr ⟨q1, q2, by simp [Asg.pull, q1]⟩
  have noFeet : ∀ k r b, (∃ c e, r = (⟨c, e, true, []⟩ : Row)) → (A.pull xb xr).rw k = ⟨none, 0, 0⟩ → ¬ Feet r ((A.pull xb xr).rw k) ((A.pull xb xr).inn k) b := fun k r b ⟨c, e, hr⟩ hk hf => by
    subst hr
    rw [hk] at hf
    exact feet_nil hf
  have hbx : ∀ i, (A.pull xb xr).bx i = A.bx (bGet xb i) := fun i => rfl
  have how : ∀ i cs, nthj hp' i = some cs → E.ow i → E.ow (bGet xb i) := fun i cs hi ho => by
    rcases Nat.lt_or_ge i E.b0 with hlt | hge
    · rw [hfb i hlt]; exact ho
    · have := lateB_eq (b0 := E.b0) (xb := xb) hp' 0 h8 i cs hi (by omega)
      rw [Nat.zero_add] at this
      exact Env.ow_of this
  exact {
    defers := h.defers
    size := h.size.trans hl
    fr := fun t y hy => (hf t y hy).elim .inl (fun ⟨x, e1, e2, e3⟩ => .inr (by
      rcases h.fr t x e1 with e4 | e4
      · exact absurd e4 e2
      · rw [e4, e3]))
    sc := fun t y hy => h9 y (List.mem_of_getElem? hy)
    hsc := fun i cs hi => scO_spec hp' h10 i cs hi
    mem := {
      kept := hm.kept
      box := fun i cs hi => by
        obtain ⟨d, q1, qm, q2⟩ := hpS i cs hi
        rw [Nat.zero_add] at q1
        obtain ⟨⟨t, ht⟩, hn1, hn2⟩ := hm.box _ d q1
        rw [hbx]
        refine ⟨⟨t, by rw [← q2]; unfold objOf at ht ⊢; rw [← qm]; exact ht⟩, fun hlt => ?_, fun hge => hn2 (how i cs hi hge)⟩
        rw [hfb i hlt]
        rw [hfb i hlt] at hn1
        exact hn1 hlt
      row := fun k r hk => by
        rcases getR k r hk with ⟨j, q1, q2, q3, q4⟩ | ⟨q1, q2, q3⟩
        · rw [q3, q4]; exact hm.row j r q2
        · have hnf := fun b => noFeet k r b q2 q3
          obtain ⟨c, e, rfl⟩ := q2
          refine ⟨?_, fun _ => ⟨?_, fun b hb => (hnf b hb).elim⟩⟩
          · rw [q3]; exact (rows_nil _ _ _ _).at
          · rw [q3]; exact rows_nil _ _ _ _
      bb := fun i j ci cj h0 hi hj hij => by
        obtain ⟨d, q1, _⟩ := hpS i ci hi
        obtain ⟨d', q1', _⟩ := hpS j cj hj
        rw [Nat.zero_add] at q1 q1'
        have hge := how i ci hi h0
        rw [hbx, hbx]
        exact hm.bb _ _ d d' hge q1 q1' (hbS i j ci cj hi hj hij)
      br := fun i ci k r b h0 hi hk hf => by
        obtain ⟨d, q1, _⟩ := hpS i ci hi
        rw [Nat.zero_add] at q1
        have hge := how i ci hi h0
        rw [hbx]
        rcases getR k r hk with ⟨j, p1, p2, p3, p4⟩ | ⟨p1, p2, p3⟩
        · rw [p3, p4] at hf
          exact hm.br _ d j r b hge q1 p2 hf
        · exact (noFeet k r b p2 p3 hf).elim
      rr := fun k k' r r' b hk hk' hkk hown hf hf' => by
        rcases getR k r hk with ⟨j, p1, p2, p3, p4⟩ | ⟨p1, p2, p3⟩
        · rcases getR k' r' hk' with ⟨j', p1', p2', p3', p4'⟩ | ⟨p1', p2', p3'⟩
          · rw [p3, p4] at hf
            rw [p3', p4'] at hf'
            exact hm.rr j j' r r' b p2 p2' (usedR_inj (xr := xr) rows' 0 k k' r r' j j' h5 hk hk' hkk (by simpa using p1) (by simpa using p1')) hown hf hf'
          · exact noFeet k' r' b p2' p3' hf'
        · exact noFeet k r b p2 p3 hf
      args := fun k hk => by
        have := hfr k hk
        simp only [Asg.pull, this]
        exact hm.args k hk }
    klt := h.klt
    n0 := h11
    b0 := h12 }

/-- Which levels the new ones are, read off the frames and the boxes. -/
def setN {α : Type _} (d : Nat → α) : Nat → List α → Nat → α → List α
  | n, [], 0, v => [v]
  | n, [], i + 1, v => d n :: setN d (n + 1) [] i v
  | _, _ :: l, 0, v => v :: l
  | n, x :: l, i + 1, v => x :: setN d (n + 1) l i v
def gB (x y : AVal) (xb : List Nat) : List Nat :=
  match y, x with
  | .loc i _, .loc j _ => setN id 0 xb i j
  | .bsl i _, .bsl j _ => setN id 0 xb i j
  | .mpr i, .mpr j => setN id 0 xb i j
  | _, _ => xb
def gR (x y : AVal) (xr : List (Option Nat)) : List (Option Nat) :=
  match y, x with
  | .row i, .row j => setN some 0 xr i (some j)
  | .row i, .raw (.slice none 0 0) => setN some 0 xr i none
  | .vw i _ _ _, .vw j _ _ _ => setN some 0 xr i (some j)
  | .irow i _, .irow j _ => setN some 0 xr i (some j)
  | _, _ => xr
def gBs : List AVal → List AVal → List Nat → List Nat
  | x :: l, y :: l', xb => gBs l l' (gB x y xb)
  | _, _, xb => xb
def gRs : List AVal → List AVal → List (Option Nat) → List (Option Nat)
  | x :: l, y :: l', xr => gRs l l' (gR x y xr)
  | _, _, xr => xr
def gHp (xb : List Nat) (hp : List (Option (List AVal))) : Nat → List (Option (List AVal)) → List (Option Nat) → List (Option Nat)
  | _, [], xr => xr
  | n, none :: l, xr => gHp xb hp (n + 1) l xr
  | n, some c :: l, xr => match nthj hp (bGet xb n) with | some d => gHp xb hp (n + 1) l (gRs d c xr) | none => gHp xb hp (n + 1) l xr
def forceB : List Nat → (List Nat → Prop) → Prop
  | [], k => k []
  | x :: l, k => forceN x fun x => forceB l fun l' => k (x :: l')
  where forceN (n : Nat) (k : Nat → Prop) : Prop := match n with | 0 => k 0 | 1 => k 1 | 2 => k 2 | 3 => k 3 | 4 => k 4 | 5 => k 5 | 6 => k 6 | 7 => k 7 | 8 => k 8 | 9 => k 9 | 10 => k 10 | 11 => k 11 | 12 => k 12 | n => k n
theorem forceN_eq (n : Nat) (k : Nat → Prop) : forceB.forceN n k = k n := by unfold forceB.forceN; split <;> rfl
theorem forceB_eq : ∀ (l : List Nat) (k : List Nat → Prop), forceB l k = k l
  | [], _ => rfl
  | x :: l, k => by simp only [forceB, forceN_eq, forceB_eq l]
def forceR : List (Option Nat) → (List (Option Nat) → Prop) → Prop
  | [], k => k []
  | none :: l, k => forceR l fun l' => k (none :: l')
  | some x :: l, k => forceB.forceN x fun x => forceR l fun l' => k (some x :: l')
theorem forceR_eq : ∀ (l : List (Option Nat)) (k : List (Option Nat) → Prop), forceR l k = k l
  | [], _ => rfl
  | none :: l, k => by simp only [forceR, forceR_eq l]
  | some x :: l, k => by simp only [forceR, forceN_eq, forceR_eq l]
/-- Fewer facts, under a renaming that is read off. -/
def LeG (E : Env) (σ σ' : St) : Prop :=
  match σ, σ' with
  | ⟨fr, hp, rows⟩, ⟨fr', hp', rows'⟩ => forceB (gBs fr fr' []) fun xb => forceR (gHp xb hp 0 hp' (gRs fr fr' [])) fun xr => LeR E xb xr ⟨fr, hp, rows⟩ ⟨fr', hp', rows'⟩
theorem Sat.leG {E : Env} {A : Asg} {σ σ' : St} {a : Act} {w : World} (h : Sat E A σ a w) (hle : LeG E σ σ') : ∃ B, Sat E B σ' a w := by
  obtain ⟨fr, hp, rows⟩ := σ
  obtain ⟨fr', hp', rows'⟩ := σ'
  simp only [LeG, forceB_eq, forceR_eq] at hle
  exact ⟨_, h.leR hle⟩

/-- Code from a state with fewer facts. -/
theorem V_le {E : Env} {c : Code} {kN : St → Prop} {kE : Nat → St → Prop} {kR : St → Prop} {σ : St} (σ' : St) (hle : LeG E σ σ') (h : V E c kN kE kR σ') : V E c kN kE kR σ := ⟨fun Q h1 h2 h3 A a w hs => by
  obtain ⟨B, hs'⟩ := hs.leG hle
  exact h.out Q h1 h2 h3 B a w hs'⟩

/-- A loop: a state at its head for every ghost value of which the invariant holds; a round lowers the measure. -/
theorem V_loop {E : Env} {c : Code} {kN : St → Prop} {kE : Nat → St → Prop} {kR : St → Prop} {σ : St} {γ : Type} (σh : γ → St) (Inv : γ → Prop) (μ : γ → Nat) (g0 : γ) (h0 : Inv g0) (hle : LeG E σ (σh g0))
    (hb : ∀ g, Inv g → V E c (fun σ' => ∃ g', Inv g' ∧ μ g' < μ g ∧ LeG E σ' (σh g')) kE kR (σh g)) : V E (.loop c) kN kE kR σ := ⟨fun Q h1 h2 h3 A a w hs => by
  obtain ⟨B0, hs0⟩ := hs.leG hle
  refine wp_loop_ghost (fun n a w => ∃ g A, Inv g ∧ μ g = n ∧ Sat E A (σh g) a w) (μ g0) ⟨g0, B0, h0, rfl, hs0⟩ ?_
  rintro n a w ⟨g, A, hg, rfl, hs⟩
  refine (hb g hg).out _ ?_ ?_ ?_ A a w hs
  · rintro σ' ⟨g', hg', hlt, hle'⟩ B a' w' hs'
    obtain ⟨C, hs''⟩ := hs'.leG hle'
    exact ⟨μ g', hlt, g', C, hg', rfl, hs''⟩
  · intro i σ' hk B a' w' hs'; exact h2 i σ' hk B a' w' hs'
  · intro σ' hk B a' w' hs'; exact h3 σ' hk B a' w' hs'⟩

/-- The temporaries that code writes. -/
def opsDst : List Oper → List Nat
  | [] => []
  | o :: l => match o.dst with | some d => d :: opsDst l | none => opsDst l
def opsCond : List Oper → List Nat
  | [] => []
  | o :: l => opsCond l
def mods : Code → List Nat
  | .region _ ops _ => opsDst ops.toList
  | .seq a b => mods a ++ mods b
  | .cond c a b => mods a ++ mods b
  | .block _ c | .loop c | .scope c => mods c
  | _ => []
def junkAll : List Nat → List AVal → (List AVal → Prop) → Prop
  | [], l, k => k l
  | n :: ns, l, k => setK l n .junk fun l' => junkAll ns l' k

def junks : List AVal → List Nat → List AVal
  | l, [] => l
  | l, n :: ns => junks (l.set n .junk) ns
def setAll {α : Type} : List α → List (Nat × α) → List α
  | l, [] => l
  | l, (n, v) :: r => setAll (l.set n v) r
/-- The state at a loop's head: what the round writes is forgotten, but for what is told. -/
def St.head (σ : St) (js : List Nat) (vs : List (Nat × AVal)) (hs : List (Nat × List AVal)) (rs : List (Nat × Option Row)) : St :=
  ⟨setAll (junks σ.fr js) vs, setAll σ.hp (hs.map fun p => (p.1, some p.2)), setAll σ.rows rs⟩

/-- the same, laid out -/
def setAllK {α : Type} : List (Nat × α) → List α → (List α → Prop) → Prop
  | [], l, k => k l
  | (n, v) :: r, l, k => setK l n v fun l' => setAllK r l' k
theorem setAllK_eq {α : Type} : ∀ (r : List (Nat × α)) (l : List α) (k : List α → Prop), setAllK r l k = k (setAll l r)
  | [], _, _ => rfl
  | (n, v) :: r, l, k => by simp only [setAllK, setK_eq, setAllK_eq r, setAll]
theorem junkAll_eq : ∀ (js : List Nat) (l : List AVal) (k : List AVal → Prop), junkAll js l k = k (junks l js)
  | [], _, _ => rfl
  | n :: ns, l, k => by simp only [junkAll, setK_eq, junkAll_eq ns, junks]
def headK (σ : St) (js : List Nat) (vs : List (Nat × AVal)) (hs : List (Nat × List AVal)) (rs : List (Nat × Option Row)) (k : St → Prop) : Prop :=
  match σ with
  | ⟨fr, hp, rows⟩ => junkAll js fr fun fr => setAllK vs fr fun fr => setAllK (hs.map fun p => (p.1, some p.2)) hp fun hp => setAllK rs rows fun rows => k ⟨fr, hp, rows⟩
theorem headK_eq (σ : St) (js : List Nat) (vs : List (Nat × AVal)) (hs : List (Nat × List AVal)) (rs : List (Nat × Option Row)) (k : St → Prop) : headK σ js vs hs rs k = k (σ.head js vs hs rs) := by
  obtain ⟨fr, hp, rows⟩ := σ
  simp only [headK, junkAll_eq, setAllK_eq, St.head]

theorem V_loopH {E : Env} {c : Code} {kN : St → Prop} {kE : Nat → St → Prop} {kR : St → Prop} {σ : St} {γ : Type} (Inv : γ → Prop) (μ : γ → Nat) (vs : γ → List (Nat × AVal)) (hs : γ → List (Nat × List AVal)) (rs : γ → List (Nat × Option Row))
    (g0 : γ) (h0 : Inv g0) (hle : headK σ (mods c) (vs g0) (hs g0) (rs g0) fun σh => LeG E σ σh)
    (hb : ∀ g, Inv g → headK σ (mods c) (vs g) (hs g) (rs g) fun σh => V E c (fun σ' => ∃ g', Inv g' ∧ μ g' < μ g ∧ headK σ (mods c) (vs g') (hs g') (rs g') fun σh' => LeG E σ' σh') kE kR σh) : V E (.loop c) kN kE kR σ := by
  simp only [headK_eq] at hle hb
  exact V_loop (fun g => σ.head (mods c) (vs g) (hs g) (rs g)) Inv μ g0 h0 hle hb

/-! ### results -/
def resA (T : TypeId → Option TInfo) (fr : List AVal) (hp : List (Option (List AVal))) : List ResultVar → (List AVal → Prop) → Prop
  | [], k => k []
  | .tmp t :: l, k => with1 fr (.tmp t) fun v => resA T fr hp l fun vs => k (v :: vs)
  | .cell a ty :: l, k => with1 fr (.tmp a) fun x => match x with
    | .loc i off => (match nthj hp i with
      | some cs => (match T ty with
        | some ti => (match mapOf cs with | none => partA ti.agg ti.size cs off fun v => resA T fr hp l fun vs => k (v :: vs) | some _ => False)
        | none => False)
      | none => False)
    | _ => False

/-- What the function hands back at this state, and what is left to show of it. -/
structure Leaf (E : Env) (R : Ending → World → Prop) (hp : List (Option (List AVal))) (rows : List (Option Row)) (v : AVal) : Prop where
  out : ∀ A w, Mem E A (nthj hp) (nthj rows) w → R (.returned (v.den A)) w

def retA (E : Env) (T : TypeId → Option TInfo) (rs : List ResultVar) (R : Ending → World → Prop) (σ : St) : Prop :=
  match σ with
  | ⟨fr, hp, rows⟩ => resA T fr hp rs fun vs => (match vs with
    | [v] => Leaf E R hp rows v
    | vs => Leaf E R hp rows (.tup vs))

def resV (tmps : Array Value) : ResultVar → Sem Value
  | .tmp t => pure (tmps.getD t undef)
  | .cell a t => do loadVar t (← asAddr (tmps.getD a undef))
theorem results_eq (fn : Func) (tmps : Array Value) : results fn tmps = (do
    let vs ← fn.results.mapM (resV tmps)
    pure (if h : vs.size = 1 then vs[0] else .tuple vs)) := by
  unfold results
  congr 1

theorem resA_sound {E : Env} {T : TypeId → Option TInfo} (hT : TOk E.P T) {A : Asg} {σ : St} {a : Act} {w : World} (hs : Sat E A σ a w) : ∀ (l : List ResultVar) (k : List AVal → Prop), resA T σ.fr σ.hp l k →
    ∃ vs, k vs ∧ vs.length = l.length ∧ (l.mapM (resV a.tmps)).run E.P w = .ok (dens A vs) w
  | [], k, h => ⟨[], h, rfl, by simp [dens]⟩
  | .tmp t :: l, k, h => by
    simp only [resA] at h
    obtain ⟨v, hv, h⟩ := with1_eq h
    obtain ⟨vs, hk, hl, hr⟩ := resA_sound hT hs l _ h
    have ev := ev_sound hs hv
    simp only [Act.eval] at ev
    refine ⟨v :: vs, hk, by simp [hl], ?_⟩
    simp only [List.mapM_cons, Sem.run_bind, resV, Sem.run_pure, Result.andThen_ok, hr, ev, dens]
  | .cell x ty :: l, k, h => by
    simp only [resA] at h
    obtain ⟨v, hv, h⟩ := with1_eq h
    have ev := ev_sound hs hv
    simp only [Act.eval] at ev
    split at h
    · rename_i i off
      cases hi : nthj σ.hp i with
      | none => simp [hi] at h
      | some cs =>
        simp only [hi] at h
        cases ht : T ty with
        | none => simp [ht] at h
        | some ti =>
          simp only [ht] at h
          split at h
          case h_2 => exact h.elim
          rename_i hmo
          obtain ⟨u, h, hu⟩ := loadVar_sound (hT _ _ ht) h
          obtain ⟨vs, hk, hl, hr⟩ := resA_sound hT hs l _ h
          obtain ⟨t', hbx⟩ := (hs.mem.box i cs hi).1.cells hmo
          have hl' := hu A w ⟨A.bx i, 0, none⟩ (fun j c hj => by
            have : (⟨A.bx i, 0, none⟩ : Addr).add j = ⟨A.bx i, j, none⟩ := by unfold Addr.add; split <;> simp_all
            rw [this]
            simp [World.cell?, hbx, dens_eq, hj])
          have hadd : (⟨A.bx i, 0, none⟩ : Addr).add off = ⟨A.bx i, off, none⟩ := by unfold Addr.add; split <;> simp_all
          rw [hadd] at hl'
          refine ⟨u :: vs, hk, by simp [hl], ?_⟩
          simp only [List.mapM_cons, Sem.run_bind, resV, ev, AVal.den]
          simp only [asAddr, Sem.run_pure, Result.andThen_ok, hl', hr, dens]
    · exact h.elim

theorem retA_sound {E : Env} {T : TypeId → Option TInfo} (hT : TOk E.P T) {fn : Func} {R : Ending → World → Prop} {σ : St} (h : retA E T fn.results.toList R σ) {A : Asg} {a : Act} {w : World} (hs : Sat E A σ a w) :
    a.defers = [] ∧ ∃ v, (results fn a.tmps).run E.P w = .ok v w ∧ R (.returned v) w := by
  obtain ⟨fr, hp, rows⟩ := σ
  obtain ⟨vs, hk, hl, hr⟩ := resA_sound hT hs fn.results.toList _ h
  refine ⟨hs.defers, ?_⟩
  have hm : (fn.results.mapM (resV a.tmps)).run E.P w = .ok (dens A vs).toArray w := by
    rw [Array.mapM_eq_mapM_toList, Sem.run_map, hr]
    rfl
  rw [results_eq, Sem.run_bind, hm, Result.andThen_ok]
  split at hk
  · rename_i v
    exact ⟨v.den A, by simp [dens], hk.out A w hs.mem⟩
  · rename_i hne
    refine ⟨(AVal.tup vs).den A, ?_, hk.out A w hs.mem⟩
    have : (dens A vs).toArray.size ≠ 1 := by
      simp only [List.size_toArray, dens_eq, List.length_map]
      intro h1
      obtain ⟨v, rfl⟩ := List.length_eq_one_iff.1 h1
      exact hne v rfl
    simp only [this, dif_neg, not_false_eq_true, AVal.den]
    rfl

/-- The frame at the start of a function. -/
theorem Sat.start {E : Env} {A : Asg} {vals : List AVal} {rows : List (Option Row)} {hp : List (Option (List AVal))} {w : World} {fn : Func} {args : Array Value} (hsc : scs hp.length [] rows.length [] vals = true) (hargs : args = (dens A vals).toArray) (hlen : vals.length ≤ fn.ntmps) (hpsc : scO hp.length rows.length hp = true)
    (hm : Mem E A (nthj hp) (nthj rows) w) (hK : ∀ b, E.K b → b < w.heap.size) (hn0 : E.n0 ≤ rows.length) (hb0 : E.b0 ≤ hp.length) :
    Sat E A ⟨vals ++ List.replicate (fn.ntmps - vals.length) .junk, hp, rows⟩ { tmps := args ++ Array.replicate (fn.ntmps - args.size) undef, defers := [] } w := by
  have hl : (dens A vals).length = vals.length := by rw [dens_eq]; simp
  rw [scs_all] at hsc
  exact {
    defers := rfl
    size := by subst hargs; simp [hl]
    fr := fun t x hx => by
      subst hargs
      simp only [List.getElem?_append] at hx
      split at hx
      · rename_i hlt
        refine .inr ?_
        have : t < (dens A vals).length := by rw [hl]; exact hlt
        have hx' : vals[t] = x := by rw [List.getElem?_eq_getElem hlt] at hx; exact Option.some.inj hx
        simp [Array.getD_eq_getD_getElem?, Array.getElem?_append, this, dens_eq, hlt, hx']
      · rw [List.getElem?_replicate] at hx
        split at hx
        · cases hx; exact .inl rfl
        · cases hx
    sc := fun t x hx => by
      simp only [List.getElem?_append] at hx
      split at hx
      · exact hsc x (List.mem_of_getElem? hx)
      · rw [List.getElem?_replicate] at hx
        split at hx
        · cases hx; simp [AVal.sc]
        · cases hx
    hsc := fun i cs hi => scO_spec hp hpsc i cs hi
    mem := hm
    klt := hK
    n0 := hn0
    b0 := hb0 }

/-- Entering a function. -/
theorem enter {P : Program} {T : TypeId → Option TInfo} {G : List (FuncId × Ctr)} (hT : TOk P T) (hG : GOk P G) {f : FuncId} {fn : Func} {c : Code} (hf : P.funcs[f]? = some fn) (hb : fn.body = some c)
    {K : Nat → Prop} {w : World} (hK : ∀ b, K b → b < w.heap.size) {A : Asg} {vals : List AVal} {rows : List (Option Row)} {R : Ending → World → Prop} {hp : List (Option (List AVal))} {b0 : Nat} (hb0 : b0 = hp.length) {n0 : Nat} (hn0 : n0 ≤ rows.length)
    (hbox : ∀ i cs, nthj hp i = some cs → BoxAt A w (A.bx i) cs ∧ K (A.bx i)) (hpsc : scO hp.length rows.length hp = true)
    (hrows : ∀ k r, nthj rows k = some r → r.own = false ∧ RowsAt w (A.rw k) (A.inn k) r)
    (hsc : scs hp.length [] rows.length [] vals = true) {args : Array Value} (hargs : args = (dens A vals).toArray) (hlen : vals.length ≤ fn.ntmps)
    (h : vcCode ⟨P, w, K, A.rw, n0, b0, A.bx, fun _ => false⟩ T G c (retA ⟨P, w, K, A.rw, n0, b0, A.bx, fun _ => false⟩ T fn.results.toList R) (fun _ _ => False) (retA ⟨P, w, K, A.rw, n0, b0, A.bx, fun _ => false⟩ T fn.results.toList R) ⟨vals ++ List.replicate (fn.ntmps - vals.length) .junk, hp, rows⟩) :
    Calls P f args w R := by
  refine calls_of_wp hf hb ?_
  have hs := Sat.start (E := ⟨P, w, K, A.rw, n0, b0, A.bx, fun _ => false⟩) (fn := fn) hsc hargs hlen hpsc {
    kept := Kept.refl _ _
    box := fun i cs hi => ⟨(hbox i cs hi).1, fun _ => ⟨rfl, fun _ => (hbox i cs hi).2⟩, fun h0 => by have h0 := Env.ow_b0 h0 rfl; simp only [hb0] at h0; rw [nthj_none h0] at hi; cases hi⟩
    row := fun k r hk => ⟨(hrows k r hk).2, fun ho => by rw [(hrows k r hk).1] at ho; cases ho⟩
    bb := fun i j ci cj h0 hi => by have h0 := Env.ow_b0 h0 rfl; simp only [hb0] at h0; rw [nthj_none h0] at hi; cases hi
    br := fun i ci k r b h0 hi => by have h0 := Env.ow_b0 h0 rfl; simp only [hb0] at h0; rw [nthj_none h0] at hi; cases hi
    rr := fun k k' r r' b hk _ _ ho => by rw [(hrows k r hk).1] at ho; cases ho
    args := fun k _ => rfl } hK hn0 (Nat.le_of_eq hb0)
  refine (vcCode_sound (E := ⟨P, w, K, A.rw, n0, b0, A.bx, fun _ => false⟩) hT hG c _ _ _ _ h).out (bodyPost P fn R) ?_ ?_ ?_ A _ w hs
  · intro σ' hk B a' w' hs'; exact retA_sound hT hk hs'
  · intro i σ' hk; exact hk.elim
  · intro σ' hk B a' w' hs'; exact retA_sound hT hk hs'

/-- Entering a function that turns the first of its caller's boxes. -/
theorem enterX {P : Program} {T : TypeId → Option TInfo} {G : List (FuncId × Ctr)} (hT : TOk P T) (hG : GOk P G) {f : FuncId} {fn : Func} {c : Code} (hf : P.funcs[f]? = some fn) (hb : fn.body = some c)
    {w : World} {A : Asg} {vals : List AVal} {rows : List (Option Row)} {R : Ending → World → Prop} {hp : List (Option (List AVal))} {b0 : Nat} (hb0 : b0 = hp.length) {n0 : Nat} (hn0 : n0 ≤ rows.length)
    (hx : XMem A (nthj hp) (nthj rows) 0 w) (hpsc : scO hp.length rows.length hp = true) (hro : ∀ k r, nthj rows k = some r → r.own = false)
    (hsc : scs hp.length [] rows.length [] vals = true) {args : Array Value} (hargs : args = (dens A vals).toArray) (hlen : vals.length ≤ fn.ntmps)
    (h : vcCode ⟨P, w, fun b => b < w.heap.size ∧ b ≠ A.bx 0, A.rw, n0, b0, A.bx, fun i => Nat.beq i 0⟩ T G c (retA ⟨P, w, fun b => b < w.heap.size ∧ b ≠ A.bx 0, A.rw, n0, b0, A.bx, fun i => Nat.beq i 0⟩ T fn.results.toList R) (fun _ _ => False) (retA ⟨P, w, fun b => b < w.heap.size ∧ b ≠ A.bx 0, A.rw, n0, b0, A.bx, fun i => Nat.beq i 0⟩ T fn.results.toList R) ⟨vals ++ List.replicate (fn.ntmps - vals.length) .junk, hp, rows⟩) :
    Calls P f args w R := by
  refine calls_of_wp hf hb ?_
  have how : ∀ i cs, nthj hp i = some cs → Env.ow ⟨P, w, fun b => b < w.heap.size ∧ b ≠ A.bx 0, A.rw, n0, b0, A.bx, fun i => Nat.beq i 0⟩ i → i = 0 := fun i cs hi ho => by
    unfold Env.ow Env.owB at ho
    simp only at ho
    cases hbl : Nat.ble b0 i with
    | true =>
      have := Nat.le_of_ble_eq_true hbl
      rw [hb0] at this
      rw [nthj_none this] at hi; cases hi
    | false =>
      rw [hbl] at ho
      exact Nat.eq_of_beq_eq_true ho
  have hs := Sat.start (E := ⟨P, w, fun b => b < w.heap.size ∧ b ≠ A.bx 0, A.rw, n0, b0, A.bx, fun i => Nat.beq i 0⟩) (fn := fn) hsc hargs hlen hpsc {
    kept := Kept.refl _ _
    box := fun i cs hi => ⟨hx.box i cs hi, fun _ => ⟨rfl, fun hne => ⟨by obtain ⟨t, ht⟩ := hx.box i cs hi; exact lt_of_heap ht, hx.bb i cs hi (fun e => by subst e; cases hne)⟩⟩, fun ho hk => by
      obtain rfl := how i cs hi ho
      exact hk.2 rfl⟩
    row := fun k r hk => ⟨hx.row k r hk, fun ho => by rw [hro k r hk] at ho; cases ho⟩
    bb := fun i j ci cj ho hi hj hij => by
      obtain rfl := how i ci hi ho
      exact fun e => hx.bb j cj hj (fun e => hij e.symm) e.symm
    br := fun i ci k r b ho hi hk hf => by
      obtain rfl := how i ci hi ho
      exact hx.br k r b hk hf
    rr := fun k k' r r' b hk _ _ ho => by rw [hro k r hk] at ho; cases ho
    args := fun k _ => rfl } (fun b hb => hb.1) hn0 (Nat.le_of_eq hb0)
  refine (vcCode_sound (E := ⟨P, w, fun b => b < w.heap.size ∧ b ≠ A.bx 0, A.rw, n0, b0, A.bx, fun i => Nat.beq i 0⟩) hT hG c _ _ _ _ h).out (bodyPost P fn R) ?_ ?_ ?_ A _ w hs
  · intro σ' hk B a' w' hs'; exact retA_sound hT hk hs'
  · intro i σ' hk; exact hk.elim
  · intro σ' hk B a' w' hs'; exact retA_sound hT hk hs'

/-- What stays when rows of the caller's own are turned. -/
def keptM (A : Asg) (rows : List (Option Row)) (w : World) (b : Nat) : Prop := b < w.heap.size ∧ ¬ ∃ k r, nthj rows k = some r ∧ r.own = true ∧ Feet r (A.rw k) (A.inn k) b

/-- Entering a function that turns rows. -/
theorem enterM {P : Program} {T : TypeId → Option TInfo} {G : List (FuncId × Ctr)} (hT : TOk P T) (hG : GOk P G) {f : FuncId} {fn : Func} {c : Code} (hf : P.funcs[f]? = some fn) (hb : fn.body = some c)
    {w : World} {A : Asg} {vals : List AVal} {rows : List (Option Row)} {R : Ending → World → Prop} {hp : List (Option (List AVal))} {b0 : Nat} (hb0 : b0 = hp.length) {n0 : Nat} (hn0 : n0 ≤ rows.length)
    (hcm : CMem A (nthj hp) (nthj rows) w) (hpsc : scO hp.length rows.length hp = true)
    (hsc : scs hp.length [] rows.length [] vals = true) {args : Array Value} (hargs : args = (dens A vals).toArray) (hlen : vals.length ≤ fn.ntmps)
    (h : vcCode ⟨P, w, keptM A rows w, A.rw, n0, b0, A.bx, fun _ => false⟩ T G c (retA ⟨P, w, keptM A rows w, A.rw, n0, b0, A.bx, fun _ => false⟩ T fn.results.toList R) (fun _ _ => False) (retA ⟨P, w, keptM A rows w, A.rw, n0, b0, A.bx, fun _ => false⟩ T fn.results.toList R) ⟨vals ++ List.replicate (fn.ntmps - vals.length) .junk, hp, rows⟩) :
    Calls P f args w R := by
  refine calls_of_wp hf hb ?_
  have hs := Sat.start (E := ⟨P, w, keptM A rows w, A.rw, n0, b0, A.bx, fun _ => false⟩) (fn := fn) hsc hargs hlen hpsc {
    kept := Kept.refl _ _
    box := fun i cs hi => ⟨hcm.box i cs hi, fun _ => ⟨rfl, fun _ => ⟨by obtain ⟨t, ht⟩ := hcm.box i cs hi; exact lt_of_heap ht, fun ⟨k, r, h1, h2, h3⟩ => hcm.br i cs k r _ hi h1 h2 h3 rfl⟩⟩, fun h0 => by have h0 := Env.ow_b0 h0 rfl; simp only [hb0] at h0; rw [nthj_none h0] at hi; cases hi⟩
    row := fun k r hk => ⟨(hcm.row k r hk).1, fun ho => ⟨(hcm.row k r hk).2 ho, fun b hb hK => hK.2 ⟨k, r, hk, ho, hb⟩⟩⟩
    bb := fun i j ci cj h0 hi => by have h0 := Env.ow_b0 h0 rfl; simp only [hb0] at h0; rw [nthj_none h0] at hi; cases hi
    br := fun i ci k r b h0 hi => by have h0 := Env.ow_b0 h0 rfl; simp only [hb0] at h0; rw [nthj_none h0] at hi; cases hi
    rr := hcm.rr
    args := fun k _ => rfl } (fun b hb => hb.1) hn0 (Nat.le_of_eq hb0)
  refine (vcCode_sound (E := ⟨P, w, keptM A rows w, A.rw, n0, b0, A.bx, fun _ => false⟩) hT hG c _ _ _ _ h).out (bodyPost P fn R) ?_ ?_ ?_ A _ w hs
  · intro σ' hk B a' w' hs'; exact retA_sound hT hk hs'
  · intro i σ' hk; exact hk.elim
  · intro σ' hk B a' w' hs'; exact retA_sound hT hk hs'

/-- (Some operations taken in the other way.) Entering a function. -/
theorem enterF {P : Program} {T : TypeId → Option TInfo} {G : List (FuncId × Ctr)} (hT : TOk P T) (hG : GOk P G) {f : FuncId} {fn : Func} {c : Code} (hf : P.funcs[f]? = some fn) (hb : fn.body = some c)
    (fl : Nat → Bool) (hfl : ∀ i, i < 1000 → fl i = false) {K : Nat → Prop} {w : World} (hK : ∀ b, K b → b < w.heap.size) {A : Asg} {vals : List AVal} {rows : List (Option Row)} {R : Ending → World → Prop} {hp : List (Option (List AVal))} {b0 : Nat} (hb0 : b0 = hp.length) (hb1 : b0 ≤ 1000) {n0 : Nat} (hn0 : n0 ≤ rows.length)
    (hbox : ∀ i cs, nthj hp i = some cs → BoxAt A w (A.bx i) cs ∧ K (A.bx i)) (hpsc : scO hp.length rows.length hp = true)
    (hrows : ∀ k r, nthj rows k = some r → r.own = false ∧ RowsAt w (A.rw k) (A.inn k) r)
    (hsc : scs hp.length [] rows.length [] vals = true) {args : Array Value} (hargs : args = (dens A vals).toArray) (hlen : vals.length ≤ fn.ntmps)
    (h : vcCode ⟨P, w, K, A.rw, n0, b0, A.bx, fl⟩ T G c (retA ⟨P, w, K, A.rw, n0, b0, A.bx, fl⟩ T fn.results.toList R) (fun _ _ => False) (retA ⟨P, w, K, A.rw, n0, b0, A.bx, fl⟩ T fn.results.toList R) ⟨vals ++ List.replicate (fn.ntmps - vals.length) .junk, hp, rows⟩) :
    Calls P f args w R := by
  refine calls_of_wp hf hb ?_
  have hs := Sat.start (E := ⟨P, w, K, A.rw, n0, b0, A.bx, fl⟩) (fn := fn) hsc hargs hlen hpsc {
    kept := Kept.refl _ _
    box := fun i cs hi => ⟨(hbox i cs hi).1, fun _ => ⟨rfl, fun _ => (hbox i cs hi).2⟩, fun h0 => by have h0 := Env.ow_b1 h0 (fun i hi => hfl i (Nat.lt_of_lt_of_le hi hb1)); simp only [hb0] at h0; rw [nthj_none h0] at hi; cases hi⟩
    row := fun k r hk => ⟨(hrows k r hk).2, fun ho => by rw [(hrows k r hk).1] at ho; cases ho⟩
    bb := fun i j ci cj h0 hi => by have h0 := Env.ow_b1 h0 (fun i hi => hfl i (Nat.lt_of_lt_of_le hi hb1)); simp only [hb0] at h0; rw [nthj_none h0] at hi; cases hi
    br := fun i ci k r b h0 hi => by have h0 := Env.ow_b1 h0 (fun i hi => hfl i (Nat.lt_of_lt_of_le hi hb1)); simp only [hb0] at h0; rw [nthj_none h0] at hi; cases hi
    rr := fun k k' r r' b hk _ _ ho => by rw [(hrows k r hk).1] at ho; cases ho
    args := fun k _ => rfl } hK hn0 (Nat.le_of_eq hb0)
  refine (vcCode_sound (E := ⟨P, w, K, A.rw, n0, b0, A.bx, fl⟩) hT hG c _ _ _ _ h).out (bodyPost P fn R) ?_ ?_ ?_ A _ w hs
  · intro σ' hk B a' w' hs'; exact retA_sound hT hk hs'
  · intro i σ' hk; exact hk.elim
  · intro σ' hk B a' w' hs'; exact retA_sound hT hk hs'

/-- (Some operations taken in the other way.) Entering a function that turns rows. -/
theorem enterMF {P : Program} {T : TypeId → Option TInfo} {G : List (FuncId × Ctr)} (hT : TOk P T) (hG : GOk P G) {f : FuncId} {fn : Func} {c : Code} (hf : P.funcs[f]? = some fn) (hb : fn.body = some c)
    (fl : Nat → Bool) (hfl : ∀ i, i < 1000 → fl i = false) {w : World} {A : Asg} {vals : List AVal} {rows : List (Option Row)} {R : Ending → World → Prop} {hp : List (Option (List AVal))} {b0 : Nat} (hb0 : b0 = hp.length) (hb1 : b0 ≤ 1000) {n0 : Nat} (hn0 : n0 ≤ rows.length)
    (hcm : CMem A (nthj hp) (nthj rows) w) (hpsc : scO hp.length rows.length hp = true)
    (hsc : scs hp.length [] rows.length [] vals = true) {args : Array Value} (hargs : args = (dens A vals).toArray) (hlen : vals.length ≤ fn.ntmps)
    (h : vcCode ⟨P, w, keptM A rows w, A.rw, n0, b0, A.bx, fl⟩ T G c (retA ⟨P, w, keptM A rows w, A.rw, n0, b0, A.bx, fl⟩ T fn.results.toList R) (fun _ _ => False) (retA ⟨P, w, keptM A rows w, A.rw, n0, b0, A.bx, fl⟩ T fn.results.toList R) ⟨vals ++ List.replicate (fn.ntmps - vals.length) .junk, hp, rows⟩) :
    Calls P f args w R := by
  refine calls_of_wp hf hb ?_
  have hs := Sat.start (E := ⟨P, w, keptM A rows w, A.rw, n0, b0, A.bx, fl⟩) (fn := fn) hsc hargs hlen hpsc {
    kept := Kept.refl _ _
    box := fun i cs hi => ⟨hcm.box i cs hi, fun _ => ⟨rfl, fun _ => ⟨by obtain ⟨t, ht⟩ := hcm.box i cs hi; exact lt_of_heap ht, fun ⟨k, r, h1, h2, h3⟩ => hcm.br i cs k r _ hi h1 h2 h3 rfl⟩⟩, fun h0 => by have h0 := Env.ow_b1 h0 (fun i hi => hfl i (Nat.lt_of_lt_of_le hi hb1)); simp only [hb0] at h0; rw [nthj_none h0] at hi; cases hi⟩
    row := fun k r hk => ⟨(hcm.row k r hk).1, fun ho => ⟨(hcm.row k r hk).2 ho, fun b hb hK => hK.2 ⟨k, r, hk, ho, hb⟩⟩⟩
    bb := fun i j ci cj h0 hi => by have h0 := Env.ow_b1 h0 (fun i hi => hfl i (Nat.lt_of_lt_of_le hi hb1)); simp only [hb0] at h0; rw [nthj_none h0] at hi; cases hi
    br := fun i ci k r b h0 hi => by have h0 := Env.ow_b1 h0 (fun i hi => hfl i (Nat.lt_of_lt_of_le hi hb1)); simp only [hb0] at h0; rw [nthj_none h0] at hi; cases hi
    rr := hcm.rr
    args := fun k _ => rfl } (fun b hb => hb.1) hn0 (Nat.le_of_eq hb0)
  refine (vcCode_sound (E := ⟨P, w, keptM A rows w, A.rw, n0, b0, A.bx, fl⟩) hT hG c _ _ _ _ h).out (bodyPost P fn R) ?_ ?_ ?_ A _ w hs
  · intro σ' hk B a' w' hs'; exact retA_sound hT hk hs'
  · intro i σ' hk; exact hk.elim
  · intro σ' hk B a' w' hs'; exact retA_sound hT hk hs'

end Go.Proofs.YtmbfflckgmdncaaDoor.Fw

/- A region that draws its order: what its first n operations do does not depend on the order; the rest comes behind them, in order. -/
namespace Go.Proofs.YtmbfflckgmdncaaDoor.Fw
open Go Go.RowKit
set_option linter.unusedVariables false
set_option linter.unusedSimpArgs false

/-- What the walk of the lexical order knows of an operation. -/
structure Rec where
  o : Oper
  fr : List AVal
  run : Bool
  eff : Eff
  lb : Nat
  lr : Nat
  ab : List Nat
  ar : List Nat
  sto : Option (Nat × List AVal)
  hid : Bool

def rangeL : Nat → Nat → List Nat
  | _, 0 => []
  | a, n + 1 => a :: rangeL (a + 1) n
def Rec.ob (r : Rec) : List Nat := match r.eff.box with | some _ => [r.lb] | none => []
def Rec.orw (r : Rec) : List Nat := rangeL r.lr (lenN r.eff.rows)

def bindsAny (e : Edge) : Bool := match e.ground with | .textOnly _ => false | .gcOnly _ => false | _ => true

def depB (D : List Rec) : List Edge → List Nat
  | [] => []
  | e :: l => match bindsAny e with
    | true => (match nth D e.on with | some r => r.ob ++ (r.ab ++ depB D l) | none => depB D l)
    | false => depB D l
def depR (D : List Rec) : List Edge → List Nat
  | [] => []
  | e :: l => match bindsAny e with
    | true => (match nth D e.on with | some r => r.orw ++ (r.ar ++ depR D l) | none => depR D l)
    | false => depR D l

/-- The new boxes that a store of the head goes to: nothing else of the head looks at them. -/
def hidL : List Rec → List Nat
  | [] => []
  | r :: D => match r.hid with | true => r.ob ++ hidL D | false => hidL D
theorem mem_hidL {l : Nat} : ∀ {D : List Rec}, l ∈ hidL D → ∃ r ∈ D, r.hid = true ∧ l ∈ r.ob
  | [], h => by simp [hidL] at h
  | r :: D, h => by
    simp only [hidL] at h
    split at h
    · rename_i hh
      rcases List.mem_append.1 h with h | h
      · exact ⟨r, by simp, hh, h⟩
      · obtain ⟨q, h1, h2⟩ := mem_hidL h; exact ⟨q, by simp [h1], h2⟩
    · obtain ⟨q, h1, h2⟩ := mem_hidL h; exact ⟨q, by simp [h1], h2⟩
theorem hidL_mem {l : Nat} {r : Rec} (hh : r.hid = true) (hl : l ∈ r.ob) : ∀ {D : List Rec}, r ∈ D → l ∈ hidL D
  | [], h => by simp at h
  | q :: D, h => by
    simp only [hidL]
    rcases List.mem_cons.1 h with rfl | h
    · rw [hh]; simp [hl]
    · have := hidL_mem hh hl h
      split
      · simp [this]
      · exact this
def hgL {α : Type} (n : Nat) (ab : List Nat) (l : List (Option α)) : Nat → Option α := fun i => match lvl n ab i with | true => nthj l i | false => none
def hgX {α : Type} (hs : List Nat) (n : Nat) (ab : List Nat) (l : List (Option α)) : Nat → Option α := fun i => match inL i hs with | true => none | false => hgL n ab l i
theorem hgX_sub {α : Type} {hs : List Nat} {n : Nat} {ab : List Nat} {l : List (Option α)} {i : Nat} {c : α} (h : hgX hs n ab l i = some c) : i ∉ hs ∧ hgL n ab l i = some c := by
  unfold hgX at h
  split at h
  · cases h
  · rename_i hi
    exact ⟨fun hm => (by rw [(inL_eq i hs).2 hm] at hi; cases hi), h⟩

def copyN : List Nat → (List Nat → Prop) → Prop
  | [], k => k []
  | x :: l, k => numK x fun x => copyN l fun l' => k (x :: l')
theorem copyN_eq : ∀ (l : List Nat) (k : List Nat → Prop), copyN l k = k l
  | [], _ => rfl
  | x :: l, k => by simp only [copyN, numK_eq, copyN_eq l]

/-- one operation of the head, carried out -/
def headOne (T : TypeId → Option TInfo) (G : List (FuncId × Ctr)) (nb0 nr0 : Nat) (D : List Rec) (o : Oper) (fr : List AVal) (hp : List (Option (List AVal))) (rows : List (Option Row))
    (hid : Bool) (k : Rec → List AVal → List (Option (List AVal)) → List (Option Row) → Prop) : Prop :=
  lenK hp fun nb => lenK rows fun nr => copyN (depB D o.after.toList) fun ab => copyN (depR D o.after.toList) fun ar => copyN (hidL D) fun hs =>
  opEff T G (hgX hs nb0 ab hp) (hgL nr0 ar rows) nb nr fr o.op fun e =>
    match e with
    | ⟨box, rs, v⟩ => pushO hp box fun hp' => pushR rows rs fun rows' =>
      match v.sc nb0 (Rec.ob ⟨o, fr, true, ⟨box, rs, v⟩, nb, nr, [], [], none, false⟩ ++ ab) nr0 (Rec.orw ⟨o, fr, true, ⟨box, rs, v⟩, nb, nr, [], [], none, false⟩ ++ ar) with
      | true => (match (match box with | some cs => scs nb0 ab nr0 (Rec.orw ⟨o, fr, true, ⟨box, rs, v⟩, nb, nr, [], [], none, false⟩ ++ ar) cs | none => true) with
        | true => (match o.dst with
          | none => k ⟨o, fr, true, ⟨box, rs, v⟩, nb, nr, ab, ar, none, hid⟩ fr hp' rows'
          | some d => setK fr d v fun fr' => k ⟨o, fr, true, ⟨box, rs, v⟩, nb, nr, ab, ar, none, hid⟩ fr' hp' rows')
        | false => False)
      | false => False

def headSkip (D : List Rec) (o : Oper) (fr : List AVal) (hp : List (Option (List AVal))) (rows : List (Option Row))
    (k : Rec → List AVal → List (Option (List AVal)) → List (Option Row) → Prop) : Prop :=
  match o.dst with
  | none => False
  | some d => lenK hp fun nb => lenK rows fun nr => setK fr d uV fun fr' => k ⟨o, fr, false, val uV, nb, nr, [], [], none, false⟩ fr' hp rows

/-- No store of the head goes to this level. -/
def noSto (l : Nat) : List Rec → Bool
  | [] => true
  | r :: D => match r.sto with
    | some (l', _) => (match Nat.beq l l' with | true => false | false => noSto l D)
    | none => noSto l D
/-- a store of the head, into a box that was there or into a new one, which nothing else of the head looks at -/
def headStoK (T : TypeId → Option TInfo) (nb0 nr0 : Nat) (D : List Rec) (o : Oper) (t : TypeId) (l : Nat) (vv : AVal) (oc : List AVal) (ab ar : List Nat) (fr : List AVal) (hp : List (Option (List AVal))) (rows : List (Option Row))
    (k : Rec → List AVal → List (Option (List AVal)) → List (Option Row) → Prop) : Prop :=
  match T t with
  | some ti => cellsA vv fun vs => (match Nat.beq (lenN vs) ti.size with
    | true => (match Nat.beq (lenN vs) (lenN oc) with
      | true => (match allOne vs with
        | true => (match scs nb0 ab nr0 ar vs with
          | true => (match noSto l D with
            | true => (match mapOf oc, mapOf vs with
              | none, none => lenK hp fun nb => lenK rows fun nr => k ⟨o, fr, true, ⟨none, [], .junk⟩, nb, nr, ab, ar, some (l, vs), false⟩ fr hp rows
              | _, _ => False)
            | false => False)
          | false => False)
        | false => False)
      | false => False)
    | false => False)
  | none => False
def headSto (T : TypeId → Option TInfo) (b0 nb0 nr0 : Nat) (hp0 old : List (Option (List AVal))) (D : List Rec) (o : Oper) (fr : List AVal) (hp : List (Option (List AVal))) (rows : List (Option Row))
    (k : Rec → List AVal → List (Option (List AVal)) → List (Option Row) → Prop) : Prop :=
  match o.op, o.dst with
  | .store t x v, none => with1 fr x fun xv => with1 fr v fun vv => (match xv with
    | .loc l 0 => (match Nat.ble b0 l with
      | true => copyN (depB D o.after.toList) fun ab => copyN (depR D o.after.toList) fun ar => (match Nat.blt l nb0 with
        | true => (match nthj hp0 l with
          | some _ => False
          | none => (match nthj old l with
            | some oc => headStoK T nb0 nr0 D o t l vv oc ab ar fr hp rows k
            | none => False))
        | false => (match inL l (hidL D), inL l ab with
          | true, true => (match nthj hp l with
            | some oc => headStoK T nb0 nr0 D o t l vv oc ab ar fr hp rows k
            | none => False)
          | _, _ => False))
      | false => False)
    | _ => False)
  | _, _ => False
def isSto : Op → Bool
  | .store _ _ _ => true
  | _ => false
/-- Does a store of the rest go to the box that this operation makes? -/
def hasSto (d : Nat) : List Oper → Bool
  | [] => false
  | o :: l => match o.op with
    | .store _ (.tmp d') _ => (match Nat.beq d d' with | true => true | false => hasSto d l)
    | _ => hasSto d l
def hidden (o : Oper) (rest : List Oper) : Bool :=
  match o.op, o.dst with
  | .alloc _, some d => hasSto d rest
  | _, _ => false
def putSto (hp : List (Option (List AVal))) (r : Rec) : List (Option (List AVal)) := match r.sto with | some (l, vs) => hp.set l (some vs) | none => hp
/-- the boxes at the head's end: the old ones, the new ones, the stores put in -/
def finS (old : List (Option (List AVal))) (D : List Rec) (hp : List (Option (List AVal))) : List (Option (List AVal)) := D.foldl putSto (old ++ hp.drop old.length)
def appK {α : Type} : List α → List α → (List α → Prop) → Prop
  | [], m, k => k m
  | x :: l, m, k => appK l m fun l' => k (x :: l')
theorem appK_eq {α : Type} : ∀ (l m : List α) (k : List α → Prop), appK l m k = k (l ++ m)
  | [], m, k => rfl
  | x :: l, m, k => by simp only [appK, appK_eq l]; rfl
def dropK {α β : Type} : List β → List α → (List α → Prop) → Prop
  | [], m, k => k m
  | _ :: l, [], k => k []
  | _ :: l, _ :: m, k => dropK l m k
theorem dropK_eq {α β : Type} : ∀ (l : List β) (m : List α) (k : List α → Prop), dropK l m k = k (m.drop l.length)
  | [], m, k => by simp [dropK]
  | _ :: l, [], k => by simp [dropK]
  | _ :: l, _ :: m, k => by simp only [dropK, dropK_eq l m k, List.length_cons, List.drop_succ_cons]
def stoK : List Rec → List (Option (List AVal)) → (List (Option (List AVal)) → Prop) → Prop
  | [], hp, k => k hp
  | r :: D, hp, k => match r.sto with
    | some (l, vs) => setK hp l (some vs) fun hp' => stoK D hp' k
    | none => stoK D hp k
theorem stoK_eq : ∀ (D : List Rec) (hp : List (Option (List AVal))) (k : List (Option (List AVal)) → Prop), stoK D hp k = k (D.foldl putSto hp)
  | [], hp, k => rfl
  | r :: D, hp, k => by
    simp only [stoK, List.foldl_cons, putSto]
    cases hr : r.sto with
    | none => simp only [stoK_eq D]
    | some lv => obtain ⟨l, vs⟩ := lv; simp only [setK_eq, stoK_eq D]

def headRun (T : TypeId → Option TInfo) (G : List (FuncId × Ctr)) (L : List Oper) (nb0 nr0 : Nat) (b0 : Nat) (hp0 old : List (Option (List AVal))) : List Oper → List Rec → List AVal → List (Option (List AVal)) → List (Option Row) → (List Rec → St → Prop) → Prop
  | [], D, fr, hp, rows, k => k D ⟨fr, hp, rows⟩
  | o :: rest, D, fr, hp, rows, k =>
    match o.guard with
    | none => (match isSto o.op with
      | true => headSto T b0 nb0 nr0 hp0 old D o fr hp rows fun r fr' hp' rows' => pushK D r fun D' => headRun T G L nb0 nr0 b0 hp0 old rest D' fr' hp' rows' k
      | false => headOne T G nb0 nr0 D o fr hp rows (hidden o rest) fun r fr' hp' rows' => pushK D r fun D' => headRun T G L nb0 nr0 b0 hp0 old rest D' fr' hp' rows' k)
    | some (j, want) => (match nth L j with
      | some oj => (match oj.dst with
        | some d => (match nth fr d with
          | some (.bool b) => bcond b
            (setK fr d (.bool true) fun fr1 => match want with
              | true => headOne T G nb0 nr0 D o fr1 hp rows (hidden o rest) fun r fr' hp' rows' => pushK D r fun D' => headRun T G L nb0 nr0 b0 hp0 old rest D' fr' hp' rows' k
              | false => headSkip D o fr1 hp rows fun r fr' hp' rows' => pushK D r fun D' => headRun T G L nb0 nr0 b0 hp0 old rest D' fr' hp' rows' k)
            (setK fr d (.bool false) fun fr1 => match want with
              | true => headSkip D o fr1 hp rows fun r fr' hp' rows' => pushK D r fun D' => headRun T G L nb0 nr0 b0 hp0 old rest D' fr' hp' rows' k
              | false => headOne T G nb0 nr0 D o fr1 hp rows (hidden o rest) fun r fr' hp' rows' => pushK D r fun D' => headRun T G L nb0 nr0 b0 hp0 old rest D' fr' hp' rows' k)
          | some (.raw v) => (match v with
            | .bool _ => False
            | _ => headSkip D o fr hp rows fun r fr' hp' rows' => pushK D r fun D' => headRun T G L nb0 nr0 b0 hp0 old rest D' fr' hp' rows' k)
          | _ => False)
        | none => False)
      | none => False)

mutual
theorem AVal.sc_up {nb nb' nr nr' : Nat} {eb er : List Nat} (h1 : nb ≤ nb') (he : ∀ l ∈ eb, l < nb') (h2 : nr ≤ nr') (hr : ∀ l ∈ er, l < nr') : ∀ x : AVal, x.sc nb eb nr er = true → x.sc nb' [] nr' [] = true
  | .loc i _, h => by simp only [AVal.sc, lvl_eq, List.not_mem_nil, or_false] at h ⊢; exact h.elim (fun h => by omega) (fun h => he _ h)
  | .ele k _ _ _, h => by simp only [AVal.sc, lvl_eq, List.not_mem_nil, or_false] at h ⊢; exact h.elim (fun h => by omega) (fun h => hr _ h)
  | .row k, h => by simp only [AVal.sc, lvl_eq, List.not_mem_nil, or_false] at h ⊢; exact h.elim (fun h => by omega) (fun h => hr _ h)
  | .irow k _, h => by simp only [AVal.sc, lvl_eq, List.not_mem_nil, or_false] at h ⊢; exact h.elim (fun h => by omega) (fun h => hr _ h)
  | .iele k _ _ _ _, h => by simp only [AVal.sc, lvl_eq, List.not_mem_nil, or_false] at h ⊢; exact h.elim (fun h => by omega) (fun h => hr _ h)
  | .vw k _ _ _, h => by simp only [AVal.sc, lvl_eq, List.not_mem_nil, or_false] at h ⊢; exact h.elim (fun h => by omega) (fun h => hr _ h)
  | .bsl i _, h => by simp only [AVal.sc, lvl_eq, List.not_mem_nil, or_false] at h ⊢; exact h.elim (fun h => by omega) (fun h => he _ h)
  | .mpr i, h => by simp only [AVal.sc, lvl_eq, List.not_mem_nil, or_false] at h ⊢; exact h.elim (fun h => by omega) (fun h => he _ h)
  | .mps _, _ => by simp only [AVal.sc]
  | .agg cs, h => by simp only [AVal.sc] at h ⊢; exact scs_up h1 he h2 hr cs h
  | .tup vs, h => by simp only [AVal.sc] at h ⊢; exact scs_up h1 he h2 hr vs h
  | .fn _ fs cs, h => by
    simp only [AVal.sc] at h ⊢
    split at h
    · rename_i h3; rw [scs_up h1 he h2 hr fs h3]; exact scs_up h1 he h2 hr cs h
    · cases h
  | .int _ _, _ => by simp [AVal.sc]
  | .bool _, _ => by simp [AVal.sc]
  | .str _, _ => by simp [AVal.sc]
  | .raw _, _ => by simp [AVal.sc]
  | .junk, _ => by simp [AVal.sc]
theorem scs_up {nb nb' nr nr' : Nat} {eb er : List Nat} (h1 : nb ≤ nb') (he : ∀ l ∈ eb, l < nb') (h2 : nr ≤ nr') (hr : ∀ l ∈ er, l < nr') : ∀ l : List AVal, scs nb eb nr er l = true → scs nb' [] nr' [] l = true
  | [], _ => by simp [scs]
  | x :: l, h => by
    simp only [scs] at h ⊢
    split at h
    · rename_i h3; rw [AVal.sc_up h1 he h2 hr x h3]; exact scs_up h1 he h2 hr l h
    · cases h
end

/-! ### what the lexical walk of the head knows -/
def putFr (fr : List AVal) (r : Rec) : List AVal := match r.o.dst with | some d => fr.set d r.eff.v | none => fr
def frOf (fr0 : List AVal) (D : List Rec) : List AVal := D.foldl putFr fr0
def hpOf (hp0 : List (Option (List AVal))) (D : List Rec) : List (Option (List AVal)) := hp0 ++ D.flatMap fun r => boxL r.eff.box
def rwOf (rows0 : List (Option Row)) (D : List Rec) : List (Option Row) := rows0 ++ D.flatMap fun r => r.eff.rows.map some

/-- What is told of a store of the head. -/
structure StoOk (E : Env) (hp0 old : List (Option (List AVal))) (rows0 : List (Option Row)) (D : List Rec) (r : Rec) (l : Nat) (vs : List AVal) : Prop where
  run : r.run = true
  isS : isSto r.o.op = true
  eff : r.eff = ⟨none, [], .junk⟩
  dst : r.o.dst = none
  own : E.ow l
  sc : scs hp0.length r.ab rows0.length r.ar vs = true
  new : ∀ r' ∈ D, ∀ c, r'.sto ≠ some (l, c)
  step : ∃ oc, ((l < hp0.length ∧ nthj hp0 l = none ∧ nthj old l = some oc) ∨ (hp0.length ≤ l ∧ l ∈ hidL D ∧ l ∈ r.ab ∧ nthj (hpOf hp0 D) l = some oc)) ∧
    ∀ A (hp : Nat → Option (List AVal)) rw w (ρ : Operand → Value), Mem E A hp rw w → hp l = some oc → Match r.fr r.o ρ A →
    ∃ w', (execOp ρ r.o).run E.P w = .ok .skip w' ∧ Mem E A (upd hp l (some vs)) rw w' ∧ w.heap.size ≤ w'.heap.size

structure ROk (E : Env) (L : List Oper) (fr0 : List AVal) (hp0 old : List (Option (List AVal))) (rows0 : List (Option Row)) (D : List Rec) (r : Rec) : Prop where
  op : L[D.length]? = some r.o
  fr : r.fr = frOf fr0 D
  lb : r.lb = (hpOf hp0 D).length
  lr : r.lr = (rwOf rows0 D).length
  ab : ∀ l ∈ r.ab, l ∈ depB D r.o.after.toList
  ar : ∀ l ∈ r.ar, l ∈ depR D r.o.after.toList
  guard : match r.o.guard with
    | none => r.run = true
    | some (g, want) => ∃ og d x ob, L[g]? = some og ∧ og.dst = some d ∧ r.fr[d]? = some x ∧ gk x = some ob ∧ r.run = (ob == some want)
  eff : r.run = true → r.sto = none → ∀ A hp rw w (ρ : Operand → Value), Ctx E A hp rw r.lb r.eff.box.isSome r.lr r.eff.rows.length w → (∀ i c, hgX (hidL D) hp0.length r.ab (hpOf hp0 D) i = some c → hp i = some c) →
    (∀ i c, hgL rows0.length r.ar (rwOf rows0 D) i = some c → rw i = some c) → Match r.fr r.o ρ A → (r.eff.rows = [] → ∀ B, Agr r.lb r.eff.box.isSome r.lr r.eff.rows.length A B → ∀ cs, r.eff.box = some cs → dens B cs = dens A cs) →
    (∀ i c, hgX (hidL D) hp0.length r.ab (hpOf hp0 D) i = some c → ∀ B : Asg, B.bx = A.bx → (∀ k, k < r.lr + 1000 → B.rw k = A.rw k ∧ B.inn k = A.inn k) → dens B c = dens A c) →
    Runs E.P (fun u w' => Post E A hp rw r.lb r.lr w r.eff u w') ((execOp ρ r.o).run E.P w)
  skip : r.run = false → r.eff = val uV ∧ r.o.dst ≠ none
  sc : r.eff.v.sc hp0.length (r.ob ++ r.ab) rows0.length (r.orw ++ r.ar) = true
  bsc : ∀ cs, r.eff.box = some cs → scs hp0.length r.ab rows0.length (r.orw ++ r.ar) cs = true
  sto : ∀ l vs, r.sto = some (l, vs) → StoOk E hp0 old rows0 D r l vs

def HeadOk (E : Env) (L : List Oper) (fr0 : List AVal) (hp0 old : List (Option (List AVal))) (rows0 : List (Option Row)) (D : List Rec) : Prop :=
  ∀ (i : Nat) (r : Rec), D[i]? = some r → ROk E L fr0 hp0 old rows0 (D.take i) r

theorem HeadOk.snoc {E : Env} {L : List Oper} {fr0 : List AVal} {hp0 old : List (Option (List AVal))} {rows0 : List (Option Row)} {D : List Rec} {r : Rec} (h : HeadOk E L fr0 hp0 old rows0 D) (hr : ROk E L fr0 hp0 old rows0 D r) :
    HeadOk E L fr0 hp0 old rows0 (D ++ [r]) := by
  intro i r' hi
  rw [List.getElem?_append] at hi
  split at hi
  · rename_i hlt
    rw [List.take_append_of_le_length (by omega)]
    exact h i r' hi
  · rename_i hge
    have hi0 : i - D.length = 0 := by
      rcases Nat.eq_zero_or_pos (i - D.length) with h' | h'
      · exact h'
      · rw [List.getElem?_eq_none (by simp; omega)] at hi; cases hi
    rw [hi0] at hi
    simp at hi
    subst hi
    have : i = D.length := by omega
    subst this
    rw [List.take_append_of_le_length (Nat.le_refl _), List.take_length]
    exact hr

theorem frOf_snoc (fr0 : List AVal) (D : List Rec) (r : Rec) : frOf fr0 (D ++ [r]) = putFr (frOf fr0 D) r := by simp [frOf]
theorem hpOf_snoc (hp0 : List (Option (List AVal))) (D : List Rec) (r : Rec) : hpOf hp0 (D ++ [r]) = hpOf hp0 D ++ boxL r.eff.box := by simp [hpOf]
theorem rwOf_snoc (rows0 : List (Option Row)) (D : List Rec) (r : Rec) : rwOf rows0 (D ++ [r]) = rwOf rows0 D ++ r.eff.rows.map some := by simp [rwOf]

section
variable {E : Env} {T : TypeId → Option TInfo} {G : List (FuncId × Ctr)} {L : List Oper} {fr0 : List AVal} {hp0 old : List (Option (List AVal))} {rows0 : List (Option Row)} {D : List Rec}

theorem headOne_spec (hT : TOk E.P T) (hG : GOk E.P G) {o : Oper} {hid : Bool} {k : Rec → List AVal → List (Option (List AVal)) → List (Option Row) → Prop} (hop : L[D.length]? = some o)
    (hgd : match o.guard with
      | none => True
      | some (g, want) => ∃ og d, L[g]? = some og ∧ og.dst = some d ∧ (frOf fr0 D)[d]? = some (.bool want))
    (h : headOne T G hp0.length rows0.length D o (frOf fr0 D) (hpOf hp0 D) (rwOf rows0 D) hid k) :
    ∃ r, ROk E L fr0 hp0 old rows0 D r ∧ k r (frOf fr0 (D ++ [r])) (hpOf hp0 (D ++ [r])) (rwOf rows0 (D ++ [r])) := by
  simp only [headOne, lenK_eq, copyN_eq] at h
  obtain ⟨eff, h, hrun⟩ := opEff_sound hT hG h
  obtain ⟨box, rs, v⟩ := eff
  simp only [pushO_eq, pushR_eq] at h
  split at h
  · rename_i hsc
    split at h
    · rename_i hb
      have hrok : ROk E L fr0 hp0 old rows0 D ⟨o, frOf fr0 D, true, ⟨box, rs, v⟩, (hpOf hp0 D).length, (rwOf rows0 D).length, depB D o.after.toList, depR D o.after.toList, none, hid⟩ := {
        op := hop
        fr := rfl
        lb := rfl
        lr := rfl
        ab := fun l h => h
        ar := fun l h => h
        guard := by
          show match o.guard with | none => true = true | some (g, want) => _
          cases hg : o.guard with
          | none => rfl
          | some gw =>
            obtain ⟨g, want⟩ := gw
            rw [hg] at hgd
            obtain ⟨og, d, h1, h2, h3⟩ := hgd
            exact ⟨og, d, .bool want, some want, h1, h2, h3, rfl, by cases want <;> rfl⟩
        eff := fun _ _ => hrun
        sto := fun l vs h => by cases h
        skip := fun h => by cases h
        sc := hsc
        bsc := fun cs hcs => by
          simp only at hcs
          subst hcs
          exact hb }
      refine ⟨_, hrok, ?_⟩
      rw [frOf_snoc, hpOf_snoc, rwOf_snoc]
      cases hd : o.dst with
      | none => simp only [hd] at h; simpa [putFr, hd] using h
      | some d => simp only [hd, setK_eq] at h; simpa [putFr, hd] using h
    · exact h.elim
  · exact h.elim

theorem headSkip_spec {o : Oper} {k : Rec → List AVal → List (Option (List AVal)) → List (Option Row) → Prop} (hop : L[D.length]? = some o)
    (hgd : ∃ g want og d x ob, o.guard = some (g, want) ∧ L[g]? = some og ∧ og.dst = some d ∧ (frOf fr0 D)[d]? = some x ∧ gk x = some ob ∧ (ob == some want) = false)
    (h : headSkip D o (frOf fr0 D) (hpOf hp0 D) (rwOf rows0 D) k) :
    ∃ r, ROk E L fr0 hp0 old rows0 D r ∧ k r (frOf fr0 (D ++ [r])) (hpOf hp0 (D ++ [r])) (rwOf rows0 (D ++ [r])) := by
  simp only [headSkip] at h
  cases hd : o.dst with
  | none => simp [hd] at h
  | some d =>
    simp only [hd, lenK_eq, setK_eq] at h
    refine ⟨⟨o, frOf fr0 D, false, val uV, (hpOf hp0 D).length, (rwOf rows0 D).length, [], [], none, false⟩, ?_, ?_⟩
    · exact {
        op := hop
        fr := rfl
        lb := rfl
        lr := rfl
        ab := fun l h => by simp at h
        ar := fun l h => by simp at h
        guard := by
          obtain ⟨g, want, og, d', x, ob, h0, h1, h2, h3, h4, h5⟩ := hgd
          show match o.guard with | none => false = true | some (g, want) => _
          rw [h0]
          exact ⟨og, d', x, ob, h1, h2, h3, h4, h5.symm⟩
        eff := fun h => by cases h
        sto := fun l vs h => by cases h
        skip := fun _ => ⟨rfl, by simp [hd]⟩
        sc := rfl
        bsc := fun cs hcs => by cases hcs }
    · rw [frOf_snoc, hpOf_snoc, rwOf_snoc]
      simpa [putFr, hd, val, boxL, uV] using h

theorem noSto_spec {l : Nat} : ∀ {D : List Rec}, noSto l D = true → ∀ r ∈ D, ∀ c, r.sto ≠ some (l, c)
  | [], _, r, hr, c => by simp at hr
  | r0 :: D, h, r, hr, c => by
    simp only [noSto] at h
    rcases List.mem_cons.1 hr with rfl | hr
    · intro hc
      rw [hc] at h
      simp at h
    · split at h
      · split at h
        · cases h
        · exact noSto_spec h r hr c
      · exact noSto_spec h r hr c

theorem headStoK_spec (hT : TOk E.P T) {o : Oper} {t : TypeId} {x v : Operand} {l : Nat} {vv : AVal} {oc : List AVal} {k : Rec → List AVal → List (Option (List AVal)) → List (Option Row) → Prop} (hop : L[D.length]? = some o) (hgd : o.guard = none)
    (hoo : o.op = .store t x v) (hod : o.dst = none) (hx : ev (frOf fr0 D) x = some (.loc l 0)) (hv : ev (frOf fr0 D) v = some vv) (hb0 : E.b0 ≤ l)
    (hoc : (l < hp0.length ∧ nthj hp0 l = none ∧ nthj old l = some oc) ∨ (hp0.length ≤ l ∧ l ∈ hidL D ∧ l ∈ depB D o.after.toList ∧ nthj (hpOf hp0 D) l = some oc))
    (h : headStoK T hp0.length rows0.length D o t l vv oc (depB D o.after.toList) (depR D o.after.toList) (frOf fr0 D) (hpOf hp0 D) (rwOf rows0 D) k) :
    ∃ r, ROk E L fr0 hp0 old rows0 D r ∧ k r (frOf fr0 (D ++ [r])) (hpOf hp0 (D ++ [r])) (rwOf rows0 (D ++ [r])) := by
  obtain ⟨dst, op, ty, pos, after, guard⟩ := o
  simp only at hgd hoo hod
  subst hgd hoo hod
  unfold headStoK at h
  simp only at h
  cases ht : T t with
  | none => simp [ht] at h
  | some ti =>
  simp only [ht] at h
  replace h := cellsA_eq h; obtain ⟨vs, h, hvs⟩ := h
  split at h
  case h_2 => exact h.elim
  rename_i h1
  split at h
  case h_2 => exact h.elim
  rename_i h2
  split at h
  case h_2 => exact h.elim
  rename_i hone
  split at h
  case h_2 => exact h.elim
  rename_i hsc
  split at h
  case h_2 => exact h.elim
  rename_i hnew
  split at h
  case h_2 => exact h.elim
  rename_i hmo1 hmo2
  have h1 := Nat.eq_of_beq_eq_true h1
  have h2 := Nat.eq_of_beq_eq_true h2
  rw [lenN_eq] at h1
  rw [lenN_eq, lenN_eq] at h2
  rw [lenK_eq, lenK_eq] at h
  refine ⟨⟨⟨none, .store t x v, ty, pos, after, none⟩, frOf fr0 D, true, ⟨none, [], .junk⟩, (hpOf hp0 D).length, (rwOf rows0 D).length, depB D after.toList, depR D after.toList, some (l, vs), false⟩, ?_, ?_⟩
  · exact {
      op := hop
      fr := rfl
      lb := rfl
      lr := rfl
      ab := fun l h => h
      ar := fun l h => h
      guard := rfl
      eff := fun _ h => by cases h
      skip := fun h => by cases h
      sc := rfl
      bsc := fun cs hcs => by cases hcs
      sto := fun l' vs' he => by
        simp only [Option.some.injEq, Prod.mk.injEq] at he
        obtain ⟨rfl, rfl⟩ := he
        exact {
          run := rfl
          isS := rfl
          eff := rfl
          dst := rfl
          own := Env.ow_of hb0
          sc := hsc
          new := fun r' hr' c hc => noSto_spec hnew r' hr' c hc
          step := ⟨oc, hoc, fun A hp rw w ρ hm hl hmt => by
            have ex : ρ x = (AVal.loc l 0).den A := hmt x (by simp [Op.operands]) _ hx
            have evv : ρ v = vv.den A := hmt v (by simp [Op.operands]) _ hv
            refine ⟨w.setRow (A.bx l) (dens A vs).toArray, ?_, hm.setBox (Env.ow_of hb0) hl hmo1 hmo2, by rw [setRow_size]; exact Nat.le_refl _⟩
            obtain ⟨t', ht'⟩ := (hm.box l oc hl).1.cells hmo1
            have hl1 : (dens A oc).length = oc.length := by rw [dens_eq]; simp
            have hl2 : (dens A vs).length = vs.length := by rw [dens_eq]; simp
            have hst := run_storeCells_at E.P (A.bx l) 0 t' (dens A vs) 0 (dens A oc).toArray w ht' (by simp [hl1, hl2]; omega) (allOne_den hone A)
            have hcells : (vv.den A).cells = (dens A vs).toArray := hvs A
            have hsz : ((dens A vs).toArray.size ≠ ti.size) = False := by simp [hl2, h1]
            have hd : (dens A oc).drop vs.length = [] := List.drop_eq_nil_of_le (by omega)
            simp only [execOp, ex, evv, AVal.den]
            simp only [Instr.storeAt, Instr.sureAddr, Sem.run_bind, Sem.run_pure, Result.andThen_ok, storeVar, run_size (hT _ _ ht), hcells, hsz, if_false, hst]
            simp [hl2, hd]⟩ } }
  · rw [frOf_snoc, hpOf_snoc, rwOf_snoc]
    simpa [putFr, boxL] using h

theorem headSto_spec (hT : TOk E.P T) {o : Oper} {k : Rec → List AVal → List (Option (List AVal)) → List (Option Row) → Prop} (hop : L[D.length]? = some o) (hgd : o.guard = none)
    (h : headSto T E.b0 hp0.length rows0.length hp0 old D o (frOf fr0 D) (hpOf hp0 D) (rwOf rows0 D) k) :
    ∃ r, ROk E L fr0 hp0 old rows0 D r ∧ k r (frOf fr0 (D ++ [r])) (hpOf hp0 (D ++ [r])) (rwOf rows0 (D ++ [r])) := by
  unfold headSto at h
  simp only [copyN_eq] at h
  split at h
  case h_2 => exact h.elim
  rename_i t x v hoo hod
  replace h := with1_eq h; obtain ⟨xv, hx, h⟩ := h
  replace h := with1_eq h; obtain ⟨vv, hv, h⟩ := h
  split at h
  case h_2 => exact h.elim
  rename_i l
  cases hb : Nat.ble E.b0 l with
  | false => simp [hb] at h
  | true =>
  simp only [hb] at h
  have hb0 : E.b0 ≤ l := Nat.le_of_ble_eq_true hb
  cases hlt : Nat.blt l hp0.length with
  | true =>
    simp only [hlt] at h
    have hlt' : l < hp0.length := by rw [← Nat.blt_eq]; exact hlt
    cases hg : nthj hp0 l with
    | some _ => simp [hg] at h
    | none =>
    simp only [hg] at h
    cases ho : nthj old l with
    | none => simp [ho] at h
    | some oc =>
    simp only [ho] at h
    exact headStoK_spec hT hop hgd hoo hod hx hv hb0 (.inl ⟨hlt', hg, ho⟩) h
  | false =>
    simp only [hlt] at h
    have hge : hp0.length ≤ l := by
      rcases Nat.lt_or_ge l hp0.length with h' | h'
      · rw [← Nat.blt_eq, hlt] at h'; cases h'
      · exact h'
    split at h
    case h_2 => exact h.elim
    rename_i h1 h2
    cases ho : nthj (hpOf hp0 D) l with
    | none => simp [ho] at h
    | some oc =>
    simp only [ho] at h
    exact headStoK_spec hT hop hgd hoo hod hx hv hb0 (.inr ⟨hge, (inL_eq _ _).1 h1, (inL_eq _ _).1 h2, ho⟩) h

theorem headRun_spec (hT : TOk E.P T) (hG : GOk E.P G) {k : List Rec → St → Prop} : ∀ (rest : List Oper) (D : List Rec), HeadOk E L fr0 hp0 old rows0 D → (∀ j, j < rest.length → L[D.length + j]? = rest[j]?) →
    headRun T G L hp0.length rows0.length E.b0 hp0 old rest D (frOf fr0 D) (hpOf hp0 D) (rwOf rows0 D) k →
    ∃ D', HeadOk E L fr0 hp0 old rows0 D' ∧ D'.length = D.length + rest.length ∧ k D' ⟨frOf fr0 D', hpOf hp0 D', rwOf rows0 D'⟩
  | [], D, hD, _, h => ⟨D, hD, by simp, by simpa [headRun] using h⟩
  | o :: rest, D, hD, hL, h => by
    have hop : L[D.length]? = some o := by simpa using hL 0 (by simp)
    have next : ∀ r, ROk E L fr0 hp0 old rows0 D r → (pushK D r fun D' => headRun T G L hp0.length rows0.length E.b0 hp0 old rest D' (frOf fr0 (D ++ [r])) (hpOf hp0 (D ++ [r])) (rwOf rows0 (D ++ [r])) k) →
        ∃ D', HeadOk E L fr0 hp0 old rows0 D' ∧ D'.length = D.length + (o :: rest).length ∧ k D' ⟨frOf fr0 D', hpOf hp0 D', rwOf rows0 D'⟩ := fun r hr h' => by
      rw [pushK_eq] at h'
      obtain ⟨D', h1, h2, h3⟩ := headRun_spec hT hG rest (D ++ [r]) (hD.snoc hr) (fun j hj => by
        have := hL (j + 1) (by simp; omega)
        simp only [List.length_append, List.length_cons, List.length_nil] at *
        rw [show D.length + (0 + 1) + j = D.length + (j + 1) by omega]
        simpa using this) h'
      exact ⟨D', h1, by rw [h2]; simp; omega, h3⟩
    simp only [headRun] at h
    split at h
    · rename_i hg
      split at h
      · obtain ⟨r, hr, hk⟩ := headSto_spec hT hop hg h
        exact next r hr hk
      · obtain ⟨r, hr, hk⟩ := headOne_spec hT hG hop (by rw [hg]; trivial) h
        exact next r hr hk
    · rename_i g want hg
      split at h
      · rename_i og hog
        rw [nth_eq] at hog
        split at h
        · rename_i d hd
          split at h
          · rename_i b hb
            rw [nth_eq] at hb
            have hset : (frOf fr0 D).set d (.bool b) = frOf fr0 D := by
              apply List.ext_getElem?
              intro i
              by_cases hi : i = d
              · subst hi; rw [List.getElem?_set_self', hb]; rfl
              · rw [List.getElem?_set_ne (fun e => hi e.symm)]
            cases b <;> simp only [bcond, setK_eq, hset] at h <;> cases want <;> simp only at h
            · obtain ⟨r, hr, hk⟩ := headOne_spec hT hG hop (by rw [hg]; exact ⟨og, d, hog, hd, hb⟩) h
              exact next r hr hk
            · obtain ⟨r, hr, hk⟩ := headSkip_spec (E := E) hop ⟨g, true, og, d, .bool false, some false, hg, hog, hd, hb, rfl, rfl⟩ h
              exact next r hr hk
            · obtain ⟨r, hr, hk⟩ := headSkip_spec (E := E) hop ⟨g, false, og, d, .bool true, some true, hg, hog, hd, hb, rfl, rfl⟩ h
              exact next r hr hk
            · obtain ⟨r, hr, hk⟩ := headOne_spec hT hG hop (by rw [hg]; exact ⟨og, d, hog, hd, hb⟩) h
              exact next r hr hk
          · rename_i v hb
            rw [nth_eq] at hb
            split at h
            · exact h.elim
            · rename_i hnb
              obtain ⟨r, hr, hk⟩ := headSkip_spec (E := E) hop ⟨g, want, og, d, .raw v, none, hg, hog, hd, hb, gk_raw fun b e => hnb b e, rfl⟩ h
              exact next r hr hk
          · exact h.elim
        · exact h.elim
      · exact h.elim

end
end Go.Proofs.YtmbfflckgmdncaaDoor.Fw

/- A region that draws its order: the theorem. -/
namespace Go.Proofs.YtmbfflckgmdncaaDoor.Fw
open Go Go.RowKit
set_option linter.unusedVariables false
set_option linter.unusedSimpArgs false

theorem bindsAny_eq (e : Edge) : Region.binds .any e = bindsAny e := by
  unfold Region.binds bindsAny
  cases e.ground <;> rfl

def edgeTo (o : Oper) (j : Nat) : Bool := o.after.toList.any fun e => bindsAny e && e.on == j

/-- The head's operations wait for what they look at; no place is written twice. -/
def chkHead (L : List Oper) (n : Nat) : Bool :=
  (List.range n).all fun i => match L[i]? with
    | some oi => (oi.after.toList.all fun e => !bindsAny e || decide (e.on < i)) &&
      (List.range n).all fun j => (j == i) || (match L[j]? with
        | some oj => (match oj.dst with
          | none => true
          | some t => (!(oi.looksAt L.toArray).contains t || (decide (j < i) && edgeTo oi j) || (decide (i < j) && edgeTo oj i)) && (match oi.dst with | some t' => t != t' | none => true))
        | none => true)
    | none => false

def chkTail (L : List Oper) (n : Nat) : Bool :=
  (n == L.length || (Region.sinkB .any L.toArray n && Region.chainB .any L.toArray n)) && Region.seqB .any L.toArray (L.length - n) n ((List.replicate n true ++ List.replicate (L.length - n) false).toArray)

def chkRegion (L : List Oper) (n : Nat) : Bool := decide (n ≤ L.length) && chkHead L n && chkTail L n

theorem mem_rangeL : ∀ (n a l : Nat), l ∈ rangeL a n ↔ a ≤ l ∧ l < a + n
  | 0, a, l => by simp [rangeL]
  | n + 1, a, l => by
    simp only [rangeL, List.mem_cons, mem_rangeL n (a + 1) l]
    omega

section
variable {E : Env} {L : List Oper} {fr0 : List AVal} {hp0 old : List (Option (List AVal))} {rows0 : List (Option Row)} {D : List Rec} {n : Nat}

theorem chkHead_spec (h : chkHead L n = true) {i j : Nat} {oi oj : Oper} {t : Nat} (hi : i < n) (hj : j < n) (hij : j ≠ i) (hoi : L[i]? = some oi) (hoj : L[j]? = some oj) (ht : oj.dst = some t) :
    (t ∈ oi.looksAt L.toArray → (j < i ∧ ∃ e ∈ oi.after.toList, bindsAny e = true ∧ e.on = j) ∨ (i < j ∧ ∃ e ∈ oj.after.toList, bindsAny e = true ∧ e.on = i)) ∧ oi.dst ≠ some t := by
  unfold chkHead at h
  have h1 := List.all_eq_true.1 h i (List.mem_range.2 hi)
  rw [hoi] at h1
  simp only [Bool.and_eq_true] at h1
  have h2 := List.all_eq_true.1 h1.2 j (List.mem_range.2 hj)
  have hji : (j == i) = false := by simpa using hij
  simp only [hoj, ht, hji, Bool.false_or, Bool.and_eq_true, Bool.or_eq_true, Bool.not_eq_true', decide_eq_true_eq] at h2
  refine ⟨fun hm => ?_, fun hd => ?_⟩
  · have edge : ∀ (o : Oper) (x : Nat), edgeTo o x = true → ∃ e ∈ o.after.toList, bindsAny e = true ∧ e.on = x := fun o x hx => by
      unfold edgeTo at hx
      obtain ⟨e, he, hb⟩ := List.any_eq_true.1 hx
      simp only [Bool.and_eq_true, beq_iff_eq] at hb
      exact ⟨e, he, hb.1, hb.2⟩
    rcases h2.1 with (h3 | h3) | h3
    · have : (oi.looksAt L.toArray).contains t = true := by simpa using hm
      rw [this] at h3; cases h3
    · exact .inl ⟨h3.1, edge _ _ h3.2⟩
    · exact .inr ⟨h3.1, edge _ _ h3.2⟩
  · rw [hd] at h2
    simp at h2

theorem chkHead_edge (h : chkHead L n = true) {i : Nat} {oi : Oper} (hi : i < n) (hoi : L[i]? = some oi) {e : Edge} (he : e ∈ oi.after.toList) (hb : bindsAny e = true) : e.on < i := by
  unfold chkHead at h
  have h1 := List.all_eq_true.1 h i (List.mem_range.2 hi)
  rw [hoi] at h1
  simp only [Bool.and_eq_true] at h1
  have h2 := List.all_eq_true.1 h1.1 e he
  simpa [hb] using h2

theorem depB_mem : ∀ (l : List Edge) (x : Nat), x ∈ depB D l → ∃ e ∈ l, bindsAny e = true ∧ ∃ r, D[e.on]? = some r ∧ (x ∈ r.ob ∨ x ∈ r.ab)
  | [], x, h => by simp [depB] at h
  | e :: l, x, h => by
    simp only [depB] at h
    split at h
    · rename_i hb
      rw [nth_eq] at h
      cases hr : D[e.on]? with
      | none =>
        simp only [hr] at h
        obtain ⟨e', h1, h2⟩ := depB_mem l x h
        exact ⟨e', by simp [h1], h2⟩
      | some r =>
        simp only [hr, List.mem_append] at h
        rcases h with h | h | h
        · exact ⟨e, by simp, hb, r, hr, .inl h⟩
        · exact ⟨e, by simp, hb, r, hr, .inr h⟩
        · obtain ⟨e', h1, h2⟩ := depB_mem l x h
          exact ⟨e', by simp [h1], h2⟩
    · obtain ⟨e', h1, h2⟩ := depB_mem l x h
      exact ⟨e', by simp [h1], h2⟩
theorem depR_mem : ∀ (l : List Edge) (x : Nat), x ∈ depR D l → ∃ e ∈ l, bindsAny e = true ∧ ∃ r, D[e.on]? = some r ∧ (x ∈ r.orw ∨ x ∈ r.ar)
  | [], x, h => by simp [depR] at h
  | e :: l, x, h => by
    simp only [depR] at h
    split at h
    · rename_i hb
      rw [nth_eq] at h
      cases hr : D[e.on]? with
      | none =>
        simp only [hr] at h
        obtain ⟨e', h1, h2⟩ := depR_mem l x h
        exact ⟨e', by simp [h1], h2⟩
      | some r =>
        simp only [hr, List.mem_append] at h
        rcases h with h | h | h
        · exact ⟨e, by simp, hb, r, hr, .inl h⟩
        · exact ⟨e, by simp, hb, r, hr, .inr h⟩
        · obtain ⟨e', h1, h2⟩ := depR_mem l x h
          exact ⟨e', by simp [h1], h2⟩
    · obtain ⟨e', h1, h2⟩ := depR_mem l x h
      exact ⟨e', by simp [h1], h2⟩

/-- the frame of the lexical walk at a place -/
theorem frOf_get (fr0 : List AVal) : ∀ (D : List Rec) (t : Nat), (∀ r ∈ D, r.o.dst ≠ some t) → (frOf fr0 D)[t]? = fr0[t]? := by
  intro D
  induction D generalizing fr0 with
  | nil => intro t _; rfl
  | cons r D ih =>
    intro t h
    show (frOf (putFr fr0 r) D)[t]? = _
    rw [ih _ t (fun r' hr' => h r' (by simp [hr']))]
    unfold putFr
    cases hd : r.o.dst with
    | none => rfl
    | some d =>
      have : d ≠ t := fun e => h r (by simp) (by rw [hd, e])
      rw [List.getElem?_set_ne this]
theorem frOf_len (fr0 : List AVal) : ∀ (D : List Rec), (frOf fr0 D).length = fr0.length := by
  intro D
  induction D generalizing fr0 with
  | nil => rfl
  | cons r D ih =>
    show (frOf (putFr fr0 r) D).length = _
    rw [ih]
    unfold putFr
    split <;> simp
theorem frOf_hit (fr0 : List AVal) : ∀ (D : List Rec) (i t : Nat) (r : Rec), D[i]? = some r → r.o.dst = some t → (∀ j r', D[j]? = some r' → j ≠ i → r'.o.dst ≠ some t) → t < fr0.length → (frOf fr0 D)[t]? = some r.eff.v := by
  intro D
  induction D generalizing fr0 with
  | nil => intro i t r h; simp at h
  | cons r0 D ih =>
    intro i t r hi ht hu hlt
    show (frOf (putFr fr0 r0) D)[t]? = _
    cases i with
    | zero =>
      simp at hi
      subst hi
      rw [frOf_get _ D t (fun r' hr' => by
        obtain ⟨j, hj⟩ := List.mem_iff_getElem?.1 hr'
        exact hu (j + 1) r' (by simpa using hj) (by omega))]
      simp only [putFr, ht]
      rw [List.getElem?_set_self hlt]
    | succ i =>
      refine ih _ i t r (by simpa using hi) ht (fun j r' hj hne => hu (j + 1) r' (by simpa using hj) (by omega)) ?_
      unfold putFr
      split <;> simpa using hlt

theorem nthj_append_left {α : Type _} (l l' : List (Option α)) (i : Nat) (h : i < l.length) : nthj (l ++ l') i = nthj l i := by
  rw [nthj_eq, nthj_eq, List.getElem?_append_left h]
theorem nthj_lt {α : Type _} {l : List (Option α)} {i : Nat} {c : α} (h : nthj l i = some c) : i < l.length := by
  rcases Nat.lt_or_ge i l.length with h' | h'
  · exact h'
  · rw [nthj_none h'] at h; cases h

theorem hpOf_app (D D' : List Rec) : hpOf hp0 (D ++ D') = hpOf hp0 D ++ D'.flatMap fun r => boxL r.eff.box := by simp [hpOf]
theorem rwOf_app (D D' : List Rec) : rwOf rows0 (D ++ D') = rwOf rows0 D ++ D'.flatMap fun r => r.eff.rows.map some := by simp [rwOf]
theorem hpOf_take (i : Nat) : hpOf hp0 D = hpOf hp0 (D.take i) ++ (D.drop i).flatMap fun r => boxL r.eff.box := by
  rw [← hpOf_app, List.take_append_drop]
theorem rwOf_take (i : Nat) : rwOf rows0 D = rwOf rows0 (D.take i) ++ (D.drop i).flatMap fun r => r.eff.rows.map some := by
  rw [← rwOf_app, List.take_append_drop]
theorem drop_cons {i : Nat} {r : Rec} (h : D[i]? = some r) : D.drop i = r :: D.drop (i + 1) := by
  have hlt := (List.getElem?_eq_some_iff.1 h).1
  rw [List.drop_eq_getElem_cons hlt]
  rw [List.getElem?_eq_getElem hlt] at h
  rw [Option.some.inj h]
theorem take_snoc' {i : Nat} {r : Rec} (h : D[i]? = some r) : D.take (i + 1) = D.take i ++ [r] := by
  rw [List.take_add_one, h]; rfl

theorem hp0_le (D : List Rec) : hp0.length ≤ (hpOf hp0 D).length := by simp [hpOf]
theorem rw0_le (D : List Rec) : rows0.length ≤ (rwOf rows0 D).length := by simp [rwOf]
theorem nthj_hp0 {l : Nat} (h : l < hp0.length) (D : List Rec) : nthj (hpOf hp0 D) l = nthj hp0 l := nthj_append_left _ _ _ h
theorem nthj_rw0 {l : Nat} (h : l < rows0.length) (D : List Rec) : nthj (rwOf rows0 D) l = nthj rows0 l := nthj_append_left _ _ _ h

theorem lb_step (hD : HeadOk E L fr0 hp0 old rows0 D) {i j : Nat} {r r' : Rec} (hi : D[i]? = some r) (hj : D[j]? = some r') (hij : i < j) : r.lb + (boxL r.eff.box).length ≤ r'.lb ∧ r.lr + r.eff.rows.length ≤ r'.lr := by
  have h1 := hD i r hi
  have h2 := hD j r' hj
  rw [h1.lb, h2.lb, h1.lr, h2.lr]
  have e : D.take j = D.take (i + 1) ++ ((D.take j).drop (i + 1)) := by
    have : D.take (i + 1) = (D.take j).take (i + 1) := by rw [List.take_take]; congr 1; omega
    rw [this, List.take_append_drop]
  rw [e, take_snoc' hi, hpOf_app, hpOf_app, rwOf_app, rwOf_app]
  simp

theorem box_at (hD : HeadOk E L fr0 hp0 old rows0 D) {i : Nat} {r : Rec} (hi : D[i]? = some r) {c : List AVal} (hc : r.eff.box = some c) : nthj (hpOf hp0 D) r.lb = some c := by
  rw [hpOf_take i, drop_cons hi, (hD i r hi).lb, nthj_eq, List.getElem?_append_right (Nat.le_refl _)]
  simp [hc, boxL]
theorem row_at (hD : HeadOk E L fr0 hp0 old rows0 D) {i : Nat} {r : Rec} (hi : D[i]? = some r) {j : Nat} {row : Row} (hc : r.eff.rows[j]? = some row) : nthj (rwOf rows0 D) (r.lr + j) = some row := by
  rw [rwOf_take i, drop_cons hi, (hD i r hi).lr, nthj_eq, List.getElem?_append_right (by omega)]
  have hlt := (List.getElem?_eq_some_iff.1 hc).1
  rw [List.flatMap_cons, show (rwOf rows0 (D.take i)).length + j - (rwOf rows0 (D.take i)).length = j by omega, List.getElem?_append_left (by simpa using hlt)]
  simp [hc]
theorem pre_hp (i : Nat) {l : Nat} {c : List AVal} (h : nthj (hpOf hp0 (D.take i)) l = some c) : nthj (hpOf hp0 D) l = some c := by
  rw [hpOf_take i, nthj_append_left _ _ _ (nthj_lt h)]; exact h
theorem pre_rw (i : Nat) {l : Nat} {c : Row} (h : nthj (rwOf rows0 (D.take i)) l = some c) : nthj (rwOf rows0 D) l = some c := by
  rw [rwOf_take i, nthj_append_left _ _ _ (nthj_lt h)]; exact h

theorem ob_mem {r : Rec} {l : Nat} : l ∈ r.ob ↔ l = r.lb ∧ r.eff.box.isSome = true := by
  unfold Rec.ob
  cases r.eff.box <;> simp
theorem orw_mem {r : Rec} {l : Nat} : l ∈ r.orw ↔ r.lr ≤ l ∧ l < r.lr + r.eff.rows.length := by
  unfold Rec.orw
  rw [mem_rangeL, lenN_eq]

end
end Go.Proofs.YtmbfflckgmdncaaDoor.Fw

/- A region that draws its order: one operation of the head, in whatever order. -/
namespace Go.Proofs.YtmbfflckgmdncaaDoor.Fw
open Go Go.RowKit
set_option linter.unusedVariables false
set_option linter.unusedSimpArgs false

section
variable {E : Env} {L : List Oper} {fr0 : List AVal} {hp0 old : List (Option (List AVal))} {rows0 : List (Option Row)} {D : List Rec} {n : Nat}

def Lst (listed : Array Bool) (j : Nat) : Prop := listed.getD j false = true
def PB (hp0 : List (Option (List AVal))) (D : List Rec) (listed : Array Bool) (l : Nat) : Prop := l < hp0.length ∨ ∃ (j : Nat) (r : Rec), Lst listed j ∧ D[j]? = some r ∧ l ∈ r.ob
def PR (rows0 : List (Option Row)) (D : List Rec) (listed : Array Bool) (l : Nat) : Prop := l < rows0.length ∨ ∃ (j : Nat) (r : Rec), Lst listed j ∧ D[j]? = some r ∧ l ∈ r.orw
open Classical in
noncomputable def stoF (D : List Rec) (listed : Array Bool) (l : Nat) : Option (List AVal) := if h : ∃ vs, ∃ (j : Nat) (r : Rec), Lst listed j ∧ D[j]? = some r ∧ r.sto = some (l, vs) then some h.choose else none
open Classical in
noncomputable def hpS (hp0 old : List (Option (List AVal))) (D : List Rec) (listed : Array Bool) : Nat → Option (List AVal) := fun l =>
  match stoF D listed l with
  | some c => some c
  | none => if l < hp0.length then nthj old l else if PB hp0 D listed l then nthj (hpOf hp0 D) l else none
open Classical in
noncomputable def rwS (rows0 : List (Option Row)) (D : List Rec) (listed : Array Bool) : Nat → Option Row := fun l => if PR rows0 D listed l then nthj (rwOf rows0 D) l else none

structure DInv (E : Env) (fr0 : List AVal) (hp0 hpo : List (Option (List AVal))) (rows0 : List (Option Row)) (D : List Rec) (listed : Array Bool) (A : Asg) (a : Act) (w : World) : Prop where
  defers : a.defers = []
  size : a.tmps.size = fr0.length
  set : ∀ (j : Nat) (r : Rec), Lst listed j → D[j]? = some r → ∀ t, r.o.dst = some t → t < fr0.length → (r.eff.v = .junk ∨ a.tmps.getD t undef = r.eff.v.den A)
  old : ∀ (t : Nat) (x : AVal), fr0[t]? = some x → (∀ (j : Nat) (r : Rec), Lst listed j → D[j]? = some r → r.o.dst ≠ some t) → x = .junk ∨ a.tmps.getD t undef = x.den A
  mem : Mem E A (hpS hp0 hpo D listed) (rwS rows0 D listed) w
  klt : ∀ b, E.K b → b < w.heap.size

/-- what is told of the state before the region -/
structure Base (E : Env) (fr0 : List AVal) (hp0 old : List (Option (List AVal))) (rows0 : List (Option Row)) : Prop where
  fr : ∀ (t : Nat) (x : AVal), fr0[t]? = some x → x.sc hp0.length [] rows0.length [] = true
  len : old.length = hp0.length
  sub : ∀ i cs, nthj hp0 i = some cs → nthj old i = some cs
  hp : ∀ i cs, nthj old i = some cs → scs hp0.length [] rows0.length [] cs = true
  n0 : E.n0 ≤ rows0.length
  b0 : E.b0 ≤ hp0.length

def Closed (D : List Rec) (listed : Array Bool) : Prop := ∀ (j : Nat) (r : Rec), Lst listed j → D[j]? = some r → ∀ e ∈ r.o.after.toList, bindsAny e = true → Lst listed e.on

theorem ab_pres (hD : HeadOk E L fr0 hp0 old rows0 D) {listed : Array Bool} (hcl : Closed D listed) : ∀ (m j : Nat), j < m → ∀ (r : Rec), D[j]? = some r → (∀ e ∈ r.o.after.toList, bindsAny e = true → Lst listed e.on) →
    (∀ l ∈ r.ab, PB hp0 D listed l) ∧ (∀ l ∈ r.ar, PR rows0 D listed l) := by
  intro m
  induction m with
  | zero => intro j hj; omega
  | succ m ih =>
    intro j hj r hr hdep
    have hok := hD j r hr
    have take : ∀ (i : Nat) (r' : Rec), (D.take j)[i]? = some r' → i < j ∧ D[i]? = some r' := fun i r' h => by
      rw [List.getElem?_take] at h
      split at h
      · rename_i hlt; exact ⟨hlt, h⟩
      · cases h
    constructor
    · intro l hl
      obtain ⟨e, he, hb, r', hr', ho⟩ := depB_mem _ _ (hok.ab l hl)
      obtain ⟨hlt, hr''⟩ := take _ _ hr'
      rcases ho with ho | ho
      · exact .inr ⟨e.on, r', hdep e he hb, hr'', ho⟩
      · exact (ih e.on (by omega) r' hr'' (hcl e.on r' (hdep e he hb) hr'')).1 l ho
    · intro l hl
      obtain ⟨e, he, hb, r', hr', ho⟩ := depR_mem _ _ (hok.ar l hl)
      obtain ⟨hlt, hr''⟩ := take _ _ hr'
      rcases ho with ho | ho
      · exact .inr ⟨e.on, r', hdep e he hb, hr'', ho⟩
      · exact (ih e.on (by omega) r' hr'' (hcl e.on r' (hdep e he hb) hr'')).2 l ho

theorem ab_early (hD : HeadOk E L fr0 hp0 old rows0 D) : ∀ (m j : Nat), j < m → ∀ (r : Rec), D[j]? = some r →
    (∀ l ∈ r.ab, ∃ i r', i < j ∧ D[i]? = some r' ∧ l ∈ r'.ob) ∧ (∀ l ∈ r.ar, ∃ i r', i < j ∧ D[i]? = some r' ∧ l ∈ r'.orw) := by
  intro m
  induction m with
  | zero => intro j hj; omega
  | succ m ih =>
    intro j hj r hr
    have hok := hD j r hr
    have take : ∀ (i : Nat) (r' : Rec), (D.take j)[i]? = some r' → i < j ∧ D[i]? = some r' := fun i r' h => by
      rw [List.getElem?_take] at h
      split at h
      · rename_i hlt; exact ⟨hlt, h⟩
      · cases h
    constructor
    · intro l hl
      obtain ⟨e, he, hb, r', hr', ho⟩ := depB_mem _ _ (hok.ab l hl)
      obtain ⟨hlt, hr''⟩ := take _ _ hr'
      rcases ho with ho | ho
      · exact ⟨e.on, r', hlt, hr'', ho⟩
      · obtain ⟨i, r2, h1, h2, h3⟩ := (ih e.on (by omega) r' hr'').1 l ho
        exact ⟨i, r2, by omega, h2, h3⟩
    · intro l hl
      obtain ⟨e, he, hb, r', hr', ho⟩ := depR_mem _ _ (hok.ar l hl)
      obtain ⟨hlt, hr''⟩ := take _ _ hr'
      rcases ho with ho | ho
      · exact ⟨e.on, r', hlt, hr'', ho⟩
      · obtain ⟨i, r2, h1, h2, h3⟩ := (ih e.on (by omega) r' hr'').2 l ho
        exact ⟨i, r2, by omega, h2, h3⟩

variable {listed : Array Bool} {A : Asg} {a : Act} {w : World} {j : Nat} {r : Rec}

/-- what an operation of the head looks at is what the lexical walk says -/
theorem looks_ok (hc : chkHead L n = true) (hD : HeadOk E L fr0 hp0 old rows0 D) (hlen : D.length = n) (hinv : DInv E fr0 hp0 old rows0 D listed A a w) (hcl : Closed D listed) (hn : ¬ Lst listed j) (hj : D[j]? = some r)
    (hdep : ∀ e ∈ r.o.after.toList, bindsAny e = true → Lst listed e.on) {t : Nat} (ht : t ∈ r.o.looksAt L.toArray) {x : AVal} (hx : r.fr[t]? = some x) : x = .junk ∨ a.tmps.getD t undef = x.den A := by
  have hok := hD j r hj
  have hjn : j < n := by rw [← hlen]; exact (List.getElem?_eq_some_iff.1 hj).1
  have hop : ∀ (i : Nat) (r' : Rec), D[i]? = some r' → L[i]? = some r'.o ∧ i < n := fun i r' hi => by
    have h1 := (hD i r' hi).op
    have hlt := (List.getElem?_eq_some_iff.1 hi).1
    rw [List.length_take, show min i D.length = i by omega] at h1
    exact ⟨h1, by omega⟩
  rw [hok.fr] at hx
  have htl : t < fr0.length := by
    have := (List.getElem?_eq_some_iff.1 hx).1
    rwa [frOf_len] at this
  have take : ∀ (i : Nat) (r' : Rec), (D.take j)[i]? = some r' → i < j ∧ D[i]? = some r' := fun i r' h => by
    rw [List.getElem?_take] at h
    split at h
    · rename_i hlt; exact ⟨hlt, h⟩
    · cases h
  by_cases hex : ∃ (i : Nat) (r' : Rec), D[i]? = some r' ∧ i ≠ j ∧ r'.o.dst = some t
  · obtain ⟨i, r', hi, hij, hd⟩ := hex
    obtain ⟨hLi, hin⟩ := hop i r' hi
    obtain ⟨hLj, _⟩ := hop j r hj
    rcases (chkHead_spec hc hjn hin hij hLj hLi hd).1 ht with ⟨hlt, e, he, hb, heon⟩ | ⟨hlt, e, he, hb, heon⟩
    case inr =>
      -- it is written behind: not yet
      have hni : ¬ Lst listed i := fun hl => hn (by rw [← heon]; exact hcl i r' hl hi e he hb)
      have only : ∀ (i2 : Nat) (r2 : Rec), D[i2]? = some r2 → r2.o.dst = some t → i2 = i ∨ i2 = j := fun i2 r2 h2 hd2 => by
        by_cases h3 : i2 = i
        · exact .inl h3
        · obtain ⟨hL2, hin2⟩ := hop i2 r2 h2
          exact absurd hd2 (chkHead_spec hc hin2 hin (fun e => h3 e.symm) hL2 hLi hd).2
      rw [frOf_get fr0 (D.take j) t (fun r2 hr2 hd2 => by
        obtain ⟨i2, h2⟩ := List.mem_iff_getElem?.1 hr2
        obtain ⟨hlt2, h2'⟩ := take _ _ h2
        rcases only i2 r2 h2' hd2 with h | h <;> omega)] at hx
      exact hinv.old t x hx (fun i2 r2 hl2 h2 hd2 => by
        rcases only i2 r2 h2 hd2 with rfl | rfl
        · exact hni hl2
        · exact hn hl2)
    have hli : Lst listed i := by rw [← heon]; exact hdep e he hb
    have hhit := frOf_hit fr0 (D.take j) i t r' (by rw [List.getElem?_take, if_pos hlt]; exact hi) hd (fun i2 r2 h2 hne hd2 => by
      obtain ⟨hlt2, hr2⟩ := take _ _ h2
      obtain ⟨hL2, hin2⟩ := hop i2 r2 hr2
      exact (chkHead_spec hc hin2 hin hne.symm hL2 hLi hd).2 hd2) htl
    rw [hhit] at hx
    cases hx
    exact hinv.set i r' hli hi t hd htl
  · rw [frOf_get fr0 (D.take j) t (fun r' hr' hd => by
      obtain ⟨i, hi⟩ := List.mem_iff_getElem?.1 hr'
      obtain ⟨hlt, hi'⟩ := take _ _ hi
      exact hex ⟨i, r', hi', by omega, hd⟩)] at hx
    exact hinv.old t x hx (fun i r' hli hi hd => hex ⟨i, r', hi, fun e => hn (e ▸ hli), hd⟩)

theorem not_PB (hD : HeadOk E L fr0 hp0 old rows0 D) (hn : ¬ Lst listed j) (hj : D[j]? = some r) (hb : r.eff.box.isSome = true) : ¬ PB hp0 D listed r.lb := by
  have hok := hD j r hj
  rintro (h | ⟨i, r', hli, hi, ho⟩)
  · have := hp0_le (hp0 := hp0) (D.take j)
    rw [hok.lb] at h; omega
  · rw [ob_mem] at ho
    have hij : i ≠ j := fun e => hn (e ▸ hli)
    have hl : ∀ x : Option (List AVal), x.isSome = true → (boxL x).length = 1 := fun x hx => by cases x with | none => cases hx | some _ => rfl
    rcases Nat.lt_or_gt_of_ne hij with h | h
    · have := (lb_step hD hi hj h).1
      rw [hl _ ho.2] at this; omega
    · have := (lb_step hD hj hi h).1
      rw [hl _ hb] at this; omega
theorem not_PR (hD : HeadOk E L fr0 hp0 old rows0 D) (hn : ¬ Lst listed j) (hj : D[j]? = some r) {l : Nat} (h1 : r.lr ≤ l) (h2 : l < r.lr + r.eff.rows.length) : ¬ PR rows0 D listed l := by
  have hok := hD j r hj
  rintro (h | ⟨i, r', hli, hi, ho⟩)
  · have := rw0_le (rows0 := rows0) (D.take j)
    rw [hok.lr] at h1; omega
  · rw [orw_mem] at ho
    have hij : i ≠ j := fun e => hn (e ▸ hli)
    rcases Nat.lt_or_gt_of_ne hij with h | h
    · have := (lb_step hD hi hj h).2; omega
    · have := (lb_step hD hj hi h).2; omega

/-- two stores of the head go to two levels -/
theorem sto_uniq (hD : HeadOk E L fr0 hp0 old rows0 D) {i k : Nat} {q q' : Rec} {l : Nat} {v v' : List AVal} (hi : D[i]? = some q) (h : q.sto = some (l, v)) (hk : D[k]? = some q') (h' : q'.sto = some (l, v')) : i = k := by
  rcases Nat.lt_trichotomy i k with hlt | heq | hlt
  · exact absurd h (((hD k q' hk).sto l v' h').new q (List.mem_iff_getElem?.2 ⟨i, by rw [List.getElem?_take, if_pos hlt]; exact hi⟩) v)
  · exact heq
  · exact absurd h' (((hD i q hi).sto l v h).new q' (List.mem_iff_getElem?.2 ⟨k, by rw [List.getElem?_take, if_pos hlt]; exact hk⟩) v')
theorem stoF_some (hD : HeadOk E L fr0 hp0 old rows0 D) {l : Nat} {v : List AVal} (hl : Lst listed j) (hj : D[j]? = some r) (h : r.sto = some (l, v)) : stoF D listed l = some v := by
  have hex : ∃ vs, ∃ (j : Nat) (r : Rec), Lst listed j ∧ D[j]? = some r ∧ r.sto = some (l, vs) := ⟨v, j, r, hl, hj, h⟩
  unfold stoF
  rw [dif_pos hex]
  obtain ⟨j', r', _, h2, h3⟩ := hex.choose_spec
  have := sto_uniq hD hj h h2 h3
  subst this
  rw [hj] at h2; cases h2
  rw [h] at h3
  exact congrArg some (by simpa using h3.symm)
theorem stoF_none {l : Nat} (h : ∀ (i : Nat) (q : Rec) (v : List AVal), Lst listed i → D[i]? = some q → q.sto ≠ some (l, v)) : stoF D listed l = none := by
  unfold stoF
  rw [dif_neg]
  rintro ⟨v, i, q, h1, h2, h3⟩
  exact h i q v h1 h2 h3
theorem stoF_inv {l : Nat} {c : List AVal} (h : stoF D listed l = some c) : ∃ (i : Nat) (q : Rec), Lst listed i ∧ D[i]? = some q ∧ q.sto = some (l, c) := by
  unfold stoF at h
  split at h
  · rename_i hex
    cases h
    exact hex.choose_spec
  · cases h

/-- what names only levels that are there does not feel new ones -/
theorem stab (hD : HeadOk E L fr0 hp0 old rows0 D) (hn : ¬ Lst listed j) (hj : D[j]? = some r) {B : Asg} (hag : Agr r.lb r.eff.box.isSome r.lr r.eff.rows.length A B) {eb er : List Nat}
    (heb : ∀ l ∈ eb, PB hp0 D listed l) (her : ∀ l ∈ er, PR rows0 D listed l) :
    (∀ x : AVal, x.sc hp0.length eb rows0.length er = true → x.den A = x.den B) ∧ (∀ l : List AVal, scs hp0.length eb rows0.length er l = true → dens A l = dens B l) := by
  have hb : ∀ i, (i < hp0.length ∨ i ∈ eb) → A.bx i = B.bx i := fun i hi => hag.bx i (fun hbo e => not_PB hD hn hj hbo (by
    rw [← e]
    rcases hi with hi | hi
    · exact .inl hi
    · exact heb i hi))
  have hr : ∀ i, (i < rows0.length ∨ i ∈ er) → A.rw i = B.rw i ∧ A.inn i = B.inn i := fun i hi => hag.rw i (by
    have hp : PR rows0 D listed i := by
      rcases hi with hi | hi
      · exact .inl hi
      · exact her i hi
    rcases Nat.lt_or_ge i r.lr with h | h
    · exact .inl h
    · rcases Nat.lt_or_ge i (r.lr + r.eff.rows.length) with h' | h'
      · exact absurd hp (not_PR hD hn hj h h')
      · exact .inr h')
  exact ⟨fun x hx => AVal.den_congr hb hr x hx, fun l hl => dens_congr hb hr l hl⟩

end
end Go.Proofs.YtmbfflckgmdncaaDoor.Fw

/- A region that draws its order: the whole. -/
namespace Go.Proofs.YtmbfflckgmdncaaDoor.Fw
open Go Go.RowKit
set_option linter.unusedVariables false
set_option linter.unusedSimpArgs false

section
variable {E : Env} {L : List Oper} {fr0 : List AVal} {hp0 old : List (Option (List AVal))} {rows0 : List (Option Row)} {D : List Rec} {n : Nat}
variable {listed : Array Bool} {A : Asg} {a : Act} {w : World} {j : Nat} {r : Rec}

theorem Lst_set (hj : j < listed.size) (i : Nat) : Lst (listed.setIfInBounds j true) i ↔ i = j ∨ Lst listed i := by
  unfold Lst
  by_cases h : i = j
  · subst h; simp [hj]
  · rw [getD_set_ne false (fun e => h e.symm)]; simp [h]

theorem PB_set (hj : D[j]? = some r) (hs : j < listed.size) (l : Nat) : PB hp0 D (listed.setIfInBounds j true) l ↔ PB hp0 D listed l ∨ l ∈ r.ob := by
  unfold PB
  constructor
  · rintro (h | ⟨i, r', h1, h2, h3⟩)
    · exact .inl (.inl h)
    · rcases (Lst_set hs i).1 h1 with rfl | h1
      · rw [hj] at h2; cases h2; exact .inr h3
      · exact .inl (.inr ⟨i, r', h1, h2, h3⟩)
  · rintro ((h | ⟨i, r', h1, h2, h3⟩) | h)
    · exact .inl h
    · exact .inr ⟨i, r', (Lst_set hs i).2 (.inr h1), h2, h3⟩
    · exact .inr ⟨j, r, (Lst_set hs j).2 (.inl rfl), hj, h⟩
theorem PR_set (hj : D[j]? = some r) (hs : j < listed.size) (l : Nat) : PR rows0 D (listed.setIfInBounds j true) l ↔ PR rows0 D listed l ∨ l ∈ r.orw := by
  unfold PR
  constructor
  · rintro (h | ⟨i, r', h1, h2, h3⟩)
    · exact .inl (.inl h)
    · rcases (Lst_set hs i).1 h1 with rfl | h1
      · rw [hj] at h2; cases h2; exact .inr h3
      · exact .inl (.inr ⟨i, r', h1, h2, h3⟩)
  · rintro ((h | ⟨i, r', h1, h2, h3⟩) | h)
    · exact .inl h
    · exact .inr ⟨i, r', (Lst_set hs i).2 (.inr h1), h2, h3⟩
    · exact .inr ⟨j, r, (Lst_set hs j).2 (.inl rfl), hj, h⟩

theorem stoF_set (hD : HeadOk E L fr0 hp0 old rows0 D) (hj : D[j]? = some r) (hs : j < listed.size) (hn : r.sto = none) (l : Nat) : stoF D (listed.setIfInBounds j true) l = stoF D listed l := by
  cases h : stoF D listed l with
  | some c =>
    obtain ⟨i, q, h1, h2, h3⟩ := stoF_inv h
    exact stoF_some hD ((Lst_set hs i).2 (.inr h1)) h2 h3
  | none =>
    refine stoF_none fun i q v h1 h2 h3 => ?_
    rcases (Lst_set hs i).1 h1 with rfl | h1
    · rw [hj] at h2; cases h2
      rw [hn] at h3; cases h3
    · rw [stoF_some hD h1 h2 h3] at h; cases h

theorem hpS_sto_eq {l : Nat} {c : List AVal} (h : stoF D listed l = some c) : hpS hp0 old D listed l = some c := by unfold hpS; rw [h]
theorem hpS_old {l : Nat} (h : stoF D listed l = none) (hl : l < hp0.length) : hpS hp0 old D listed l = nthj old l := by unfold hpS; rw [h]; simp only; rw [if_pos hl]
theorem hpS_new {l : Nat} (h : stoF D listed l = none) (hl : ¬ l < hp0.length) (hp : PB hp0 D listed l) : hpS hp0 old D listed l = nthj (hpOf hp0 D) l := by unfold hpS; rw [h]; simp only; rw [if_neg hl, if_pos hp]
theorem hpS_none {l : Nat} (h : stoF D listed l = none) (hl : ¬ l < hp0.length) (hp : ¬ PB hp0 D listed l) : hpS hp0 old D listed l = none := by unfold hpS; rw [h]; simp only; rw [if_neg hl, if_neg hp]
/-- what is stored to is there -/
theorem sto_PB (hb0 : Base E fr0 hp0 old rows0) (hD : HeadOk E L fr0 hp0 old rows0 D) (hcl : Closed D listed) {i : Nat} {q : Rec} {l : Nat} {c : List AVal} (hl : Lst listed i) (hi : D[i]? = some q) (h : q.sto = some (l, c)) : PB hp0 D listed l := by
  obtain ⟨oc, hoc, _⟩ := ((hD i q hi).sto l c h).step
  rcases hoc with ⟨h1, _⟩ | ⟨_, _, h2, _⟩
  · exact .inl h1
  · exact (ab_pres hD hcl (i + 1) i (by omega) q hi (hcl i q hl hi)).1 l h2
theorem hpS_set (hD : HeadOk E L fr0 hp0 old rows0 D) (hn' : ∀ (i : Nat) (q : Rec) (c : List AVal), Lst listed i → D[i]? = some q → q.sto ≠ some (r.lb, c) ∨ r.eff.box = none) (hj : D[j]? = some r) (hs : j < listed.size) (hn : r.sto = none) : hpS hp0 old D (listed.setIfInBounds j true) = updO (hpS hp0 old D listed) r.lb r.eff.box := by
  funext l
  have hge := hp0_le (hp0 := hp0) (D.take j)
  rw [← (hD j r hj).lb] at hge
  have hsto := stoF_set hD hj hs hn l
  cases hst : stoF D listed l with
  | some c =>
    rw [hst] at hsto
    rw [hpS_sto_eq hsto]
    cases hb : r.eff.box with
    | none => simp only [updO]; rw [hpS_sto_eq hst]
    | some b =>
      have hne : l ≠ r.lb := fun e => by
        subst e
        obtain ⟨i, q, h1, h2, h3⟩ := stoF_inv hst
        rcases hn' i q c h1 h2 with h | h
        · exact h h3
        · rw [hb] at h; cases h
      simp only [updO, if_neg hne]; rw [hpS_sto_eq hst]
  | none =>
  rw [hst] at hsto
  by_cases hlt : l < hp0.length
  · have hne : l ≠ r.lb := by omega
    have e1 : hpS hp0 old D (listed.setIfInBounds j true) l = hpS hp0 old D listed l := by
      rw [hpS_old hsto hlt, hpS_old hst hlt]
    rw [e1]
    cases r.eff.box with
    | none => rfl
    | some c => simp only [updO, if_neg hne]
  · cases hb : r.eff.box with
    | none =>
      have : r.ob = [] := by unfold Rec.ob; rw [hb]
      simp only [updO]
      have e : PB hp0 D (listed.setIfInBounds j true) l ↔ PB hp0 D listed l := by rw [PB_set hj hs]; simp [this]
      by_cases h : PB hp0 D listed l
      · rw [hpS_new hsto hlt (e.2 h), hpS_new hst hlt h]
      · rw [hpS_none hsto hlt (fun h' => h (e.1 h')), hpS_none hst hlt h]
    | some c =>
      have : r.ob = [r.lb] := by unfold Rec.ob; rw [hb]
      simp only [updO]
      have e : PB hp0 D (listed.setIfInBounds j true) l ↔ PB hp0 D listed l ∨ l = r.lb := by rw [PB_set hj hs]; simp [this]
      by_cases hl : l = r.lb
      · rw [hpS_new hsto hlt (e.2 (.inr hl)), if_pos hl, hl]; exact box_at hD hj hb
      · rw [if_neg hl]
        by_cases h : PB hp0 D listed l
        · rw [hpS_new hsto hlt (e.2 (.inl h)), hpS_new hst hlt h]
        · rw [hpS_none hsto hlt (fun h' => h ((e.1 h').resolve_right hl)), hpS_none hst hlt h]
/-- a store is listed -/
theorem hpS_sto (hb0 : Base E fr0 hp0 old rows0) (hD : HeadOk E L fr0 hp0 old rows0 D) (hcl : Closed D listed) (hdep : ∀ e ∈ r.o.after.toList, bindsAny e = true → Lst listed e.on) (hj : D[j]? = some r) (hs : j < listed.size) (hn : ¬ Lst listed j) {l : Nat} {vs oc : List AVal} (hr : r.sto = some (l, vs))
    (hoc : (l < hp0.length ∧ nthj hp0 l = none ∧ nthj old l = some oc) ∨ (hp0.length ≤ l ∧ l ∈ hidL (D.take j) ∧ l ∈ r.ab ∧ nthj (hpOf hp0 (D.take j)) l = some oc)) :
    hpS hp0 old D listed l = some oc ∧ hpS hp0 old D (listed.setIfInBounds j true) = upd (hpS hp0 old D listed) l (some vs) := by
  have hst := (hD j r hj).sto l vs hr
  have hno : stoF D listed l = none := stoF_none fun i q v h1 h2 h3 => by
    have := sto_uniq hD h2 h3 hj hr
    subst this; exact hn h1
  constructor
  · rcases hoc with ⟨h1, _, h3⟩ | ⟨h1, h2, h3, h4⟩
    · rw [hpS_old hno h1]; exact h3
    · rw [hpS_new hno (by omega) ((ab_pres hD hcl (j + 1) j (by omega) r hj hdep).1 l h3)]
      exact pre_hp j h4
  · funext m
    by_cases hm : m = l
    · subst hm
      rw [upd_same]
      exact hpS_sto_eq (stoF_some hD ((Lst_set hs j).2 (.inl rfl)) hj hr)
    · rw [upd_ne _ _ _ hm]
      have hob : r.ob = [] := by unfold Rec.ob; rw [hst.eff]
      have : stoF D (listed.setIfInBounds j true) m = stoF D listed m := by
        cases h : stoF D listed m with
        | some c =>
          obtain ⟨i, q, h1, h2, h3⟩ := stoF_inv h
          exact stoF_some hD ((Lst_set hs i).2 (.inr h1)) h2 h3
        | none =>
          refine stoF_none fun i q v h1 h2 h3 => ?_
          rcases (Lst_set hs i).1 h1 with rfl | h1
          · rw [hj] at h2; cases h2
            rw [hr] at h3; cases h3; exact hm rfl
          · rw [stoF_some hD h1 h2 h3] at h; cases h
      have e : PB hp0 D (listed.setIfInBounds j true) m ↔ PB hp0 D listed m := by rw [PB_set hj hs]; simp [hob]
      cases hsm : stoF D listed m with
      | some c => rw [hsm] at this; rw [hpS_sto_eq this, hpS_sto_eq hsm]
      | none =>
        rw [hsm] at this
        by_cases hml : m < hp0.length
        · rw [hpS_old this hml, hpS_old hsm hml]
        · by_cases h : PB hp0 D listed m
          · rw [hpS_new this hml (e.2 h), hpS_new hsm hml h]
          · rw [hpS_none this hml (fun h' => h (e.1 h')), hpS_none hsm hml h]
theorem rwS_set (hD : HeadOk E L fr0 hp0 old rows0 D) (hj : D[j]? = some r) (hs : j < listed.size) : rwS rows0 D (listed.setIfInBounds j true) = updL (rwS rows0 D listed) r.lr r.eff.rows := by
  funext l
  unfold rwS updL
  by_cases hl : r.lr ≤ l ∧ l < r.lr + r.eff.rows.length
  · rw [if_pos ((PR_set hj hs l).2 (.inr (orw_mem.2 hl))), if_pos hl]
    have hlt : l - r.lr < r.eff.rows.length := by omega
    have := row_at hD hj (List.getElem?_eq_getElem hlt)
    rw [show r.lr + (l - r.lr) = l by omega] at this
    rw [this, List.getElem?_eq_getElem hlt]
  · rw [if_neg hl]
    have e : PR rows0 D (listed.setIfInBounds j true) l ↔ PR rows0 D listed l := by rw [PR_set hj hs, orw_mem]; simp [hl]
    by_cases h : PR rows0 D listed l
    · rw [if_pos (e.2 h)]; exact (if_pos h).symm
    · rw [if_neg (fun h' => h (e.1 h'))]; exact (if_neg h).symm

theorem step (hb0 : Base E fr0 hp0 old rows0) (hc : chkHead L n = true) (hD : HeadOk E L fr0 hp0 old rows0 D) (hlen : D.length = n) (hinv : DInv E fr0 hp0 old rows0 D listed A a w) (hcl : Closed D listed) (hs : j < listed.size)
    (hn : ¬ Lst listed j) (hj : D[j]? = some r) (hdep : ∀ e ∈ r.o.after.toList, bindsAny e = true → Lst listed e.on) {K : Act → World → Prop} {Q : Exit → Act → World → Prop}
    (hK : ∀ A' a' w', DInv E fr0 hp0 old rows0 D (listed.setIfInBounds j true) A' a' w' → K a' w') : wpOp E.P L.toArray Q j K a w := by
  have hok := hD j r hj
  have hop : L[j]? = some r.o := by
    have h1 := hok.op
    have hlt := (List.getElem?_eq_some_iff.1 hj).1
    rwa [List.length_take, show min j D.length = j by omega] at h1
  have hpres := ab_pres hD hcl (j + 1) j (by omega) r hj hdep
  -- the new frame
  have newInv : ∀ (B : Asg) (u : Value) (w' : World), Agr r.lb r.eff.box.isSome r.lr r.eff.rows.length A B → (r.eff.v = .junk ∨ u = r.eff.v.den B) →
      Mem E B (hpS hp0 old D (listed.setIfInBounds j true)) (rwS rows0 D (listed.setIfInBounds j true)) w' → w.heap.size ≤ w'.heap.size →
      DInv E fr0 hp0 old rows0 D (listed.setIfInBounds j true) B (a.put r.o.dst u) w' := fun B u w' hag hu hm hsz => by
    have get_ne : ∀ t, r.o.dst ≠ some t → (a.put r.o.dst u).tmps.getD t undef = a.tmps.getD t undef := fun t ht => by
      unfold Act.put
      cases hd : r.o.dst with
      | none => rfl
      | some d =>
        have : d ≠ t := fun e => ht (by rw [hd, e])
        simp only [Array.getD_eq_getD_getElem?]
        rw [Array.getElem?_setIfInBounds_ne this]
    have uniq : ∀ (i : Nat) (r' : Rec), D[i]? = some r' → i ≠ j → ∀ t, r'.o.dst = some t → r.o.dst ≠ some t := fun i r' hi hij t hd => by
      have h1 := (hD i r' hi).op
      have hlt := (List.getElem?_eq_some_iff.1 hi).1
      rw [List.length_take, show min i D.length = i by omega] at h1
      have hltj := (List.getElem?_eq_some_iff.1 hj).1
      exact (chkHead_spec hc (by omega) (by omega) hij hop h1 hd).2
    refine ⟨?_, ?_, fun i r' hli hi t hd htl => ?_, fun t x hx hnone => ?_, hm, fun b hb => Nat.lt_of_lt_of_le (hinv.klt b hb) hsz⟩
    · unfold Act.put; split <;> exact hinv.defers
    · unfold Act.put; split <;> simp [hinv.size]
    · rcases (Lst_set hs i).1 hli with rfl | hli'
      · rw [hj] at hi; cases hi
        refine hu.imp id (fun e => ?_)
        rw [← e]
        unfold Act.put
        simp only [hd]
        have : t < a.tmps.size := by rw [hinv.size]; exact htl
        simp [Array.getD_eq_getD_getElem?, this]
      · have hij : i ≠ j := fun e => hn (e ▸ hli')
        rw [get_ne t (uniq i r' hi hij t hd)]
        refine (hinv.set i r' hli' hi t hd htl).imp id (fun e => e.trans ?_)
        have hpres' := ab_pres hD hcl (i + 1) i (by omega) r' hi (hcl i r' hli' hi)
        exact (stab hD hn hj hag (eb := r'.ob ++ r'.ab) (er := r'.orw ++ r'.ar) (fun l hl => by
          rcases List.mem_append.1 hl with hl | hl
          · exact .inr ⟨i, r', hli', hi, hl⟩
          · exact hpres'.1 l hl) (fun l hl => by
          rcases List.mem_append.1 hl with hl | hl
          · exact .inr ⟨i, r', hli', hi, hl⟩
          · exact hpres'.2 l hl)).1 _ (hD i r' hi).sc
    · rw [get_ne t (hnone j r ((Lst_set hs j).2 (.inl rfl)) hj)]
      refine (hinv.old t x hx (fun i r' hli hi => hnone i r' ((Lst_set hs i).2 (.inr hli)) hi)).imp id (fun e => e.trans ?_)
      exact (stab hD hn hj hag (eb := []) (er := []) (fun l hl => by simp at hl) (fun l hl => by simp at hl)).1 x (hb0.fr t x hx)
  -- the guard
  have hwant : Region.wanted r.o (yielded L.toArray a.tmps) = r.run := by
    have hg := hok.guard
    unfold Region.wanted
    cases hgd : r.o.guard with
    | none => rw [hgd] at hg; exact hg.symm
    | some gw =>
      obtain ⟨g, want⟩ := gw
      rw [hgd] at hg
      obtain ⟨og, d, x, ob, h1, h2, h3, h3', h4⟩ := hg
      have hd : d ∈ r.o.looksAt L.toArray := by
        unfold Oper.looksAt
        rw [hgd]
        simp [h1, h2]
      have hv := looks_ok hc hD hlen hinv hcl hn hj hdep hd h3
      have htl : d < a.tmps.size := by
        have := (List.getElem?_eq_some_iff.1 h3).1
        rw [hok.fr, frOf_len] at this
        rw [hinv.size]; exact this
      have hv' : a.tmps[d]? = some (x.den A) := by
        rcases hv with hv | hv
        · exact absurd hv (gk_junk h3')
        · rw [Array.getD_eq_getD_getElem?, Array.getElem?_eq_getElem htl] at hv
          rw [Array.getElem?_eq_getElem htl]
          exact congrArg some hv
      have hy : yielded L.toArray a.tmps g = ob := gk_yield h3' (by simpa using h1) h2 hv'
      rw [h4]
      simp only [hy]
  have hop' : L.toArray[j]? = some r.o := by simpa using hop
  unfold wpOp
  rw [hop']
  simp only
  cases hrun : r.run
  · rw [if_neg (by rw [hwant, hrun]; simp)]
    obtain ⟨heff, hdst⟩ := hok.skip hrun
    have hns : r.sto = none := by
      cases hsto : r.sto with
      | none => rfl
      | some lv => have := (hok.sto lv.1 lv.2 hsto).run; rw [hrun] at this; cases this
    have hbx : r.eff.box = none := by rw [heff]; rfl
    have hrw : r.eff.rows = [] := by rw [heff]; rfl
    refine hK A _ w (newInv A undef w ⟨fun _ _ => rfl, fun _ _ => ⟨rfl, rfl⟩⟩ (.inr (by rw [heff]; rfl)) ?_ (Nat.le_refl _))
    rw [hpS_set hD (fun _ _ _ _ _ => .inr hbx) hj hs hns, rwS_set hD hj hs, hbx, hrw, updO_none, updL_nil]
    exact hinv.mem
  · rw [if_pos (by rw [hwant, hrun])]
    have hmatch : Match r.fr r.o a.eval A := by
      intro x hx v hv
      cases x with
      | tmp t =>
        simp only [ev, nth_eq] at hv
        split at hv
        · cases hv
        · rename_i hne
          have hm : t ∈ r.o.looksAt L.toArray := by
            unfold Oper.looksAt
            refine List.mem_append.2 (.inl ?_)
            exact List.mem_filterMap.2 ⟨_, hx, rfl⟩
          rcases looks_ok hc hD hlen hinv hcl hn hj hdep hm hv with rfl | h'
          · exact absurd hv (by simpa using hne)
          · exact h'
      | const v' => cases v' <;> simp [ev] at hv <;> subst hv <;> simp [Act.eval, AVal.den]
      | global g => simp [ev] at hv
      | func f => simp [ev] at hv; subst hv; simp [Act.eval, AVal.den, dens]
    have hge0 := hp0_le (hp0 := hp0) (D.take j)
    rw [← hok.lb] at hge0
    cases hsto : r.sto with
    | some lv =>
      obtain ⟨l, vs⟩ := lv
      have hst := hok.sto l vs hsto
      obtain ⟨oc, hoc, hstep⟩ := hst.step
      obtain ⟨h1, h2⟩ := hpS_sto hb0 hD hcl hdep hj hs hn hsto hoc
      obtain ⟨w', hrn, hm', hsz⟩ := hstep A (hpS hp0 old D listed) (rwS rows0 D listed) w a.eval hinv.mem h1 hmatch
      refine .inl ?_
      unfold Oper.wp
      rw [hrn]
      have hbx : r.eff.box = none := by rw [hst.eff]
      have hrw : r.eff.rows = [] := by rw [hst.eff]
      have hv : r.eff.v = .junk := by rw [hst.eff]
      have := newInv A undef w' ⟨fun _ _ => rfl, fun _ _ => ⟨rfl, rfl⟩⟩ (.inl hv) (by
        rw [h2, rwS_set hD hj hs, hrw, updL_nil]
        exact hm') hsz
      exact hK A _ w' this
    | none =>
    -- nothing was stored to a box that is not there yet
    have hnob : ∀ (i : Nat) (q : Rec) (c : List AVal), Lst listed i → D[i]? = some q → q.sto ≠ some (r.lb, c) ∨ r.eff.box = none := fun i q c h1 h2 => by
      cases hbx : r.eff.box with
      | none => exact .inr rfl
      | some b =>
        refine .inl fun h3 => ?_
        exact not_PB hD hn hj (by rw [hbx]; rfl) (sto_PB hb0 hD hcl h1 h2 h3)
    refine .inl (wp_of_runs (hok.eff hrun hsto A (hpS hp0 old D listed) (rwS rows0 D listed) w a.eval ?_ ?_ ?_ ?_ ?_ ?_) ?_)
    · exact {
        mem := hinv.mem
        klt := hinv.klt
        fb := fun hb => hpS_none (stoF_none fun i q c h1 h2 h3 => by
          rcases hnob i q c h1 h2 with h | h
          · exact h h3
          · rw [h] at hb; cases hb) (by omega) (not_PB hD hn hj hb)
        fr := fun i h1 h2 => by unfold rwS; rw [if_neg (not_PR hD hn hj h1 h2)]
        n0 := by rw [hok.lr]; exact Nat.le_trans hb0.n0 (rw0_le _)
        b0 := by rw [hok.lb]; exact Nat.le_trans hb0.b0 (hp0_le _)
        stb := fun B hag i c hi => by
          cases hsf : stoF D listed i with
          | some c' =>
            rw [hpS_sto_eq hsf] at hi
            cases hi
            obtain ⟨i', q, h1, h2, h3⟩ := stoF_inv hsf
            have hpres' := ab_pres hD hcl (i' + 1) i' (by omega) q h2 (hcl i' q h1 h2)
            exact ((stab hD hn hj hag hpres'.1 hpres'.2).2 c ((hD i' q h2).sto _ _ h3).sc).symm
          | none =>
          by_cases hlt : i < hp0.length
          · rw [hpS_old hsf hlt] at hi
            exact ((stab hD hn hj hag (eb := []) (er := []) (fun l hl => by simp at hl) (fun l hl => by simp at hl)).2 c (hb0.hp i c hi)).symm
          · by_cases hp : PB hp0 D listed i
            · rw [hpS_new hsf hlt hp] at hi
              rcases hp with hp | ⟨i', r', hli, hi', ho⟩
              · exact absurd hp hlt
              · rw [ob_mem] at ho
                obtain ⟨rfl, hb⟩ := ho
                cases hbx : r'.eff.box with
                | none => rw [hbx] at hb; cases hb
                | some c' =>
                  rw [box_at hD hi' hbx] at hi
                  cases hi
                  have hpres' := ab_pres hD hcl (i' + 1) i' (by omega) r' hi' (hcl i' r' hli hi')
                  exact ((stab hD hn hj hag (er := r'.orw ++ r'.ar) hpres'.1 (fun l hl => by
                    rcases List.mem_append.1 hl with hl | hl
                    · exact .inr ⟨i', r', hli, hi', hl⟩
                    · exact hpres'.2 l hl)).2 c ((hD i' r' hi').bsc c hbx)).symm
            · rw [hpS_none hsf hlt hp] at hi; cases hi }
    · intro i c hi
      obtain ⟨hnh, hi⟩ := hgX_sub hi
      unfold hgL at hi
      split at hi
      · rename_i hl
        rw [lvl_eq] at hl
        have hp : PB hp0 D listed i := by
          rcases hl with hl | hl
          · exact .inl hl
          · exact hpres.1 i hl
        by_cases hlt : i < hp0.length
        · rw [nthj_hp0 hlt] at hi
          have hno : stoF D listed i = none := stoF_none fun i2 q v h1 h2 h3 => by
            obtain ⟨oc, hoc, _⟩ := ((hD i2 q h2).sto i v h3).step
            rcases hoc with ⟨_, hg, _⟩ | ⟨hge, _⟩
            · rw [hi] at hg; cases hg
            · omega
          rw [hpS_old hno hlt]
          exact hb0.sub i c hi
        · have hno : stoF D listed i = none := stoF_none fun i2 q v h1 h2 h3 => by
            obtain ⟨oc, hoc, _⟩ := ((hD i2 q h2).sto i v h3).step
            rcases hoc with ⟨hlt', _⟩ | ⟨_, hh, _⟩
            · exact hlt hlt'
            · -- the box that is stored to is hidden from all others
              obtain ⟨q0, hq0, hhid, hob⟩ := mem_hidL hh
              obtain ⟨i0, hi0⟩ := List.mem_iff_getElem?.1 hq0
              have hi0' : D[i0]? = some q0 := by
                rw [List.getElem?_take] at hi0
                split at hi0
                · exact hi0
                · cases hi0
              -- its record lies ahead of r
              have hlj : i0 < j := by
                rcases Nat.lt_or_ge i0 j with h | h
                · exact h
                · exfalso
                  have h5 := nthj_lt hi
                  rw [← hok.lb] at h5
                  rw [ob_mem] at hob
                  obtain ⟨hob, hbb⟩ := hob
                  rcases Nat.lt_or_ge j i0 with h6 | h6
                  · have := (lb_step hD hj hi0' h6).1
                    omega
                  · obtain rfl : i0 = j := by omega
                    rw [hj] at hi0'; cases hi0'
                    omega
              refine hnh ?_
              exact hidL_mem hhid hob (List.mem_iff_getElem?.2 ⟨i0, by rw [List.getElem?_take, if_pos hlj]; exact hi0'⟩)
          rw [hpS_new hno hlt hp]; exact pre_hp j hi
      · cases hi
    · intro i c hi
      unfold hgL at hi
      split at hi
      · rename_i hl
        rw [lvl_eq] at hl
        have hp : PR rows0 D listed i := by
          rcases hl with hl | hl
          · exact .inl hl
          · exact hpres.2 i hl
        unfold rwS
        rw [if_pos hp]; exact pre_rw j hi
      · cases hi
    · exact hmatch
    · intro hrs B hag cs hcs
      have ho0 : r.orw = [] := by unfold Rec.orw; rw [hrs]; rfl
      have hb := hok.bsc cs hcs
      rw [ho0, List.nil_append] at hb
      exact ((stab hD hn hj hag hpres.1 hpres.2).2 cs hb).symm
    · intro i c hi B hbx hB
      have hi := (hgX_sub hi).2
      unfold hgL at hi
      split at hi
      · rename_i hl
        rw [lvl_eq] at hl
        rcases hl with hl | hl
        · rw [nthj_hp0 hl] at hi
          refine dens_congr (fun q _ => by rw [hbx]) (fun q hq => hB q ?_) c (hb0.hp i c (hb0.sub i c hi))
          have hq : q < rows0.length := by simpa using hq
          have := rw0_le (rows0 := rows0) (D.take j)
          rw [hok.lr]; omega
        · obtain ⟨i', r', hlt, hi', ho⟩ := (ab_early hD (j + 1) j (by omega) r hj).1 i hl
          rw [ob_mem] at ho
          obtain ⟨rfl, hb⟩ := ho
          cases hbx' : r'.eff.box with
          | none => rw [hbx'] at hb; cases hb
          | some c' =>
            have := pre_hp j hi
            rw [box_at hD hi' hbx'] at this
            cases this
            refine dens_congr (fun q _ => by rw [hbx]) (fun q hq => hB q ?_) c ((hD i' r' hi').bsc c hbx')
            have h1 := (lb_step hD hi' hj hlt).2
            rcases hq with hq | hq
            · have := rw0_le (rows0 := rows0) (D.take j)
              rw [hok.lr]; omega
            rcases List.mem_append.1 hq with hq | hq
            · rw [orw_mem] at hq
              omega
            · obtain ⟨i2, r2, hlt2, hi2, ho2⟩ := (ab_early hD (i' + 1) i' (by omega) r' hi').2 q hq
              rw [orw_mem] at ho2
              have h2 := (lb_step hD hi2 hi' hlt2).2
              omega
      · cases hi
    · intro u w' hpost
      obtain ⟨B, hag, hu, hm, hsz⟩ := hpost.out
      refine hK B _ w' (newInv B u w' hag (.inr hu) ?_ hsz)
      rw [hpS_set hD hnob hj hs hsto, rwS_set hD hj hs]
      exact hm

structure Head (L : List Oper) (D : List Rec) (n : Nat) (listed : Array Bool) : Prop where
  size : listed.size = L.length
  closed : Closed D listed
  tail : ∀ t, n ≤ t → t < L.length → listed.getD t true = false

theorem not_lst {listed : Array Bool} {i : Nat} (h : i < listed.size) : listed.getD i true = false ↔ ¬ Lst listed i := by
  unfold Lst
  simp [h]

theorem fold_len : ∀ (D : List Rec) (base : List (Option (List AVal))), (D.foldl putSto base).length = base.length
  | [], base => rfl
  | r :: D, base => by
    rw [List.foldl_cons, fold_len D]
    unfold putSto
    split <;> simp
theorem fold_get : ∀ (D : List Rec) (base : List (Option (List AVal))) (l : Nat), l < base.length →
    (∃ r ∈ D, ∃ vs, r.sto = some (l, vs) ∧ nthj (D.foldl putSto base) l = some vs) ∨ ((∀ r ∈ D, ∀ vs, r.sto ≠ some (l, vs)) ∧ nthj (D.foldl putSto base) l = nthj base l)
  | [], base, l, _ => .inr ⟨fun r hr => by simp at hr, rfl⟩
  | r :: D, base, l, hl => by
    rw [List.foldl_cons]
    have hl' : l < (putSto base r).length := by unfold putSto; split <;> simpa using hl
    rcases fold_get D (putSto base r) l hl' with ⟨q, hq, vs, h1, h2⟩ | ⟨h1, h2⟩
    · exact .inl ⟨q, by simp [hq], vs, h1, h2⟩
    · cases hr : r.sto with
      | none =>
        refine .inr ⟨fun q hq vs => ?_, by rw [h2]; simp [putSto, hr]⟩
        rcases List.mem_cons.1 hq with rfl | hq
        · rw [hr]; simp
        · exact h1 q hq vs
      | some lv =>
        obtain ⟨m, vs⟩ := lv
        by_cases hm : m = l
        · subst hm
          exact .inl ⟨r, by simp, vs, hr, by rw [h2]; simp [putSto, hr, nthj_set _ _ _ hl, upd_same]⟩
        · refine .inr ⟨fun q hq ws => ?_, ?_⟩
          · rcases List.mem_cons.1 hq with rfl | hq
            · rw [hr]; intro h; cases h; exact hm rfl
            · exact h1 q hq ws
          · rw [h2]
            simp only [putSto, hr]
            rcases Nat.lt_or_ge m base.length with h | h
            · rw [nthj_set _ _ _ h, upd_ne _ _ _ (fun e => hm e.symm)]
            · rw [List.set_eq_of_length_le h]
theorem fin_len (hl : old.length = hp0.length) : (finS old D (hpOf hp0 D)).length = (hpOf hp0 D).length := by
  unfold finS
  rw [fold_len, List.length_append, List.length_drop]
  have := hp0_le (hp0 := hp0) D
  omega
theorem fin_cases (hD : HeadOk E L fr0 hp0 old rows0 D) (hl : old.length = hp0.length) {l : Nat} {c : List AVal} (h : nthj (finS old D (hpOf hp0 D)) l = some c) :
    (∃ (i : Nat) (r : Rec), D[i]? = some r ∧ r.sto = some (l, c)) ∨ (l < hp0.length ∧ nthj old l = some c ∧ ∀ r ∈ D, ∀ vs, r.sto ≠ some (l, vs)) ∨ (hp0.length ≤ l ∧ nthj (hpOf hp0 D) l = some c ∧ ∀ r ∈ D, ∀ vs, r.sto ≠ some (l, vs)) := by
  have hlt := nthj_lt h
  rw [fin_len hl] at hlt
  unfold finS at h
  have hbl : l < (old ++ (hpOf hp0 D).drop old.length).length := by rw [List.length_append, List.length_drop]; omega
  rcases fold_get D _ l hbl with ⟨r, hr, vs, h1, h2⟩ | ⟨h1, h2⟩
  · rw [h2] at h; cases h
    obtain ⟨i, hi⟩ := List.mem_iff_getElem?.1 hr
    exact .inl ⟨i, r, hi, h1⟩
  · rw [h2] at h
    rcases Nat.lt_or_ge l hp0.length with hlo | hlo
    · rw [nthj_append_left _ _ _ (by omega)] at h
      exact .inr (.inl ⟨hlo, h, h1⟩)
    · refine .inr (.inr ⟨hlo, ?_, h1⟩)
      rw [nthj_eq, List.getElem?_append_right (by omega), List.getElem?_drop, show old.length + (l - old.length) = l by omega] at h
      rw [nthj_eq]; exact h

theorem draw_any (hb0 : Base E fr0 hp0 old rows0) (hc : chkRegion L n = true) (hD : HeadOk E L fr0 hp0 old rows0 D) (hlen : D.length = n) {Q : Exit → Act → World → Prop}
    (hQ : ∀ A a w, Sat E A ⟨frOf fr0 D, finS old D (hpOf hp0 D), rwOf rows0 D⟩ a w → wpList E.P L.toArray Q (L.drop n) a w) :
    ∀ (m fuel : Nat) (listed : Array Bool) (A : Asg) (a : Act) (w : World), ((List.range n).filter fun i => !listed.getD i false).length = m → fuel = m + (L.length - n) → Head L D n listed → DInv E fr0 hp0 old rows0 D listed A a w →
      wpAny E.P .any L.toArray Q fuel listed a w := by
  unfold chkRegion at hc
  simp only [Bool.and_eq_true, decide_eq_true_eq] at hc
  obtain ⟨⟨hnL, hch⟩, hct⟩ := hc
  unfold chkTail at hct
  simp only [Bool.and_eq_true, Bool.or_eq_true, beq_iff_eq] at hct
  obtain ⟨hsc, hseq⟩ := hct
  have hop : ∀ (i : Nat) (r : Rec), D[i]? = some r → L[i]? = some r.o ∧ i < n := fun i r hi => by
    have h1 := (hD i r hi).op
    have hlt := (List.getElem?_eq_some_iff.1 hi).1
    rw [List.length_take, show min i D.length = i by omega] at h1
    exact ⟨h1, by omega⟩
  intro m
  induction m with
  | zero =>
    intro fuel listed A a w hm hf hh hinv
    have hall : ∀ i, i < n → Lst listed i := fun i hi => by
      have := List.eq_nil_of_length_eq_zero hm
      rw [List.filter_eq_nil_iff] at this
      have := this i (List.mem_range.2 hi)
      unfold Lst
      simpa using this
    have hlst : listed = (List.replicate n true ++ List.replicate (L.length - n) false).toArray := by
      apply Array.ext
      · simp [hh.size]; omega
      · intro i h1 h2
        rcases Nat.lt_or_ge i n with h | h
        · have := hall i h
          unfold Lst at this
          simp [h1] at this
          simp [this, List.getElem_append, h]
        · have := hh.tail i h (by rw [← hh.size]; exact h1)
          simp [h1] at this
          simp [this, List.getElem_append, Nat.not_lt.2 h]
    have hsat : Sat E A ⟨frOf fr0 D, finS old D (hpOf hp0 D), rwOf rows0 D⟩ a w := by
      have hfl : (finS old D (hpOf hp0 D)).length = (hpOf hp0 D).length := fin_len hb0.len
      have pb : ∀ l c, nthj (hpOf hp0 D) l = some c → PB hp0 D listed l := fun l c hl => by
        rcases Nat.lt_or_ge l hp0.length with h | h
        · exact .inl h
        · -- it lies in the box of a record
          have : ∀ (D' : List Rec) (b : Nat), b ≤ D.length → D' = D.take b → ∀ l c, nthj (hpOf hp0 D') l = some c → hp0.length ≤ l → ∃ (i : Nat) (r : Rec), D[i]? = some r ∧ l ∈ r.ob := by
            intro D' b
            induction b generalizing D' with
            | zero =>
              intro _ hD' l c hl hge
              subst hD'
              have := nthj_lt hl
              simp [hpOf] at this
              omega
            | succ b ih =>
              intro hb hD' l c hl hge
              have hlt : b < D.length := by omega
              have hDb := List.getElem?_eq_getElem hlt
              subst hD'
              rw [take_snoc' hDb, hpOf_snoc] at hl
              rcases Nat.lt_or_ge l (hpOf hp0 (D.take b)).length with h' | h'
              · rw [nthj_append_left _ _ _ h'] at hl
                exact ih _ (by omega) rfl l c hl hge
              · refine ⟨b, D[b], hDb, ?_⟩
                rw [ob_mem, (hD b _ hDb).lb]
                have hl2 := nthj_lt hl
                cases hbx : D[b].eff.box with
                | none => simp [hbx, boxL] at hl2; omega
                | some c' => simp [hbx, boxL] at hl2; exact ⟨by omega, rfl⟩
          obtain ⟨i, r, hi, ho⟩ := this D D.length (Nat.le_refl _) (List.take_length).symm l c hl h
          exact .inr ⟨i, r, hall i (hop i r hi).2, hi, ho⟩
      have pr : ∀ l c, nthj (rwOf rows0 D) l = some c → PR rows0 D listed l := fun l c hl => by
        rcases Nat.lt_or_ge l rows0.length with h | h
        · exact .inl h
        · have : ∀ (D' : List Rec) (b : Nat), b ≤ D.length → D' = D.take b → ∀ l c, nthj (rwOf rows0 D') l = some c → rows0.length ≤ l → ∃ (i : Nat) (r : Rec), D[i]? = some r ∧ l ∈ r.orw := by
            intro D' b
            induction b generalizing D' with
            | zero =>
              intro _ hD' l c hl hge
              subst hD'
              have := nthj_lt hl
              simp [rwOf] at this
              omega
            | succ b ih =>
              intro hb hD' l c hl hge
              have hlt : b < D.length := by omega
              have hDb := List.getElem?_eq_getElem hlt
              subst hD'
              rw [take_snoc' hDb, rwOf_snoc] at hl
              rcases Nat.lt_or_ge l (rwOf rows0 (D.take b)).length with h' | h'
              · rw [nthj_append_left _ _ _ h'] at hl
                exact ih _ (by omega) rfl l c hl hge
              · refine ⟨b, D[b], hDb, ?_⟩
                rw [orw_mem, (hD b _ hDb).lr]
                have hl2 := nthj_lt hl
                simp at hl2
                omega
          obtain ⟨i, r, hi, ho⟩ := this D D.length (Nat.le_refl _) (List.take_length).symm l c hl h
          exact .inr ⟨i, r, hall i (hop i r hi).2, hi, ho⟩
      have ehp : ∀ l c, nthj (finS old D (hpOf hp0 D)) l = some c → hpS hp0 old D listed l = some c := fun l c hl => by
        rcases fin_cases hD hb0.len hl with ⟨i, r, hi, hr⟩ | ⟨hlt, ho, hno⟩ | ⟨hge, hn, hno⟩
        · exact hpS_sto_eq (stoF_some hD (hall i (hop i r hi).2) hi hr)
        · rw [hpS_old (stoF_none (fun i q v _ h2 h3 => hno q (List.mem_iff_getElem?.2 ⟨i, h2⟩) v h3)) hlt]
          exact ho
        · rw [hpS_new (stoF_none (fun i q v _ h2 h3 => hno q (List.mem_iff_getElem?.2 ⟨i, h2⟩) v h3)) (by omega) (pb l c hn)]
          exact hn
      have erw : ∀ l c, nthj (rwOf rows0 D) l = some c → rwS rows0 D listed l = some c := fun l c hl => by unfold rwS; rw [if_pos (pr l c hl)]; exact hl
      -- whatever a record tells lies below the last levels
      have lvls : ∀ (i : Nat) (r : Rec), D[i]? = some r → (∀ l ∈ r.ob, l < (hpOf hp0 D).length) ∧ (∀ l ∈ r.orw, l < (rwOf rows0 D).length) := fun i r hi => by
        constructor
        · intro l hl
          rw [ob_mem] at hl
          obtain ⟨rfl, hb⟩ := hl
          cases hbx : r.eff.box with
          | none => rw [hbx] at hb; cases hb
          | some c => exact nthj_lt (box_at hD hi hbx)
        · intro l hl
          rw [orw_mem] at hl
          have hlt : l - r.lr < r.eff.rows.length := by omega
          have := nthj_lt (row_at hD hi (List.getElem?_eq_getElem hlt))
          omega
      have up : ∀ {eb er : List Nat}, (∀ l ∈ eb, PB hp0 D listed l) → (∀ l ∈ er, PR rows0 D listed l) → (∀ l ∈ eb, l < (hpOf hp0 D).length) ∧ (∀ l ∈ er, l < (rwOf rows0 D).length) := fun {eb er} h1 h2 => by
        constructor
        · intro l hl
          rcases h1 l hl with h | ⟨i, r, _, hi, ho⟩
          · exact Nat.lt_of_lt_of_le h (hp0_le D)
          · exact (lvls i r hi).1 l ho
        · intro l hl
          rcases h2 l hl with h | ⟨i, r, _, hi, ho⟩
          · exact Nat.lt_of_lt_of_le h (rw0_le D)
          · exact (lvls i r hi).2 l ho
      exact {
        defers := hinv.defers
        size := by rw [frOf_len]; exact hinv.size
        fr := fun t x hx => by
          have htl : t < fr0.length := by have := (List.getElem?_eq_some_iff.1 hx).1; rwa [frOf_len] at this
          by_cases hex : ∃ (i : Nat) (r : Rec), D[i]? = some r ∧ r.o.dst = some t
          · obtain ⟨i, r, hi, hd⟩ := hex
            obtain ⟨hLi, hin⟩ := hop i r hi
            rw [frOf_hit fr0 D i t r hi hd (fun i2 r2 h2 hne hd2 => (chkHead_spec hch (hop i2 r2 h2).2 hin hne.symm (hop i2 r2 h2).1 hLi hd).2 hd2) htl] at hx
            cases hx
            exact hinv.set i r (hall i hin) hi t hd htl
          · rw [frOf_get fr0 D t (fun r hr hd => by
              obtain ⟨i, hi⟩ := List.mem_iff_getElem?.1 hr
              exact hex ⟨i, r, hi, hd⟩)] at hx
            exact hinv.old t x hx (fun i r _ hi hd => hex ⟨i, r, hi, hd⟩)
        sc := fun t x hx => by
          have htl : t < fr0.length := by have := (List.getElem?_eq_some_iff.1 hx).1; rwa [frOf_len] at this
          show x.sc (finS old D (hpOf hp0 D)).length [] (rwOf rows0 D).length [] = true
          rw [hfl]
          by_cases hex : ∃ (i : Nat) (r : Rec), D[i]? = some r ∧ r.o.dst = some t
          · obtain ⟨i, r, hi, hd⟩ := hex
            obtain ⟨hLi, hin⟩ := hop i r hi
            rw [frOf_hit fr0 D i t r hi hd (fun i2 r2 h2 hne hd2 => (chkHead_spec hch (hop i2 r2 h2).2 hin hne.symm (hop i2 r2 h2).1 hLi hd).2 hd2) htl] at hx
            cases hx
            have hpres := ab_pres hD hh.closed (i + 1) i (by omega) r hi (hh.closed i r (hall i hin) hi)
            obtain ⟨u1, u2⟩ := up hpres.1 hpres.2
            exact AVal.sc_up (hp0_le D) (fun l hl => by
              rcases List.mem_append.1 hl with hl | hl
              · exact (lvls i r hi).1 l hl
              · exact u1 l hl) (rw0_le D) (fun l hl => by
              rcases List.mem_append.1 hl with hl | hl
              · exact (lvls i r hi).2 l hl
              · exact u2 l hl) _ (hD i r hi).sc
          · rw [frOf_get fr0 D t (fun r hr hd => by
              obtain ⟨i, hi⟩ := List.mem_iff_getElem?.1 hr
              exact hex ⟨i, r, hi, hd⟩)] at hx
            exact AVal.sc_mono (hp0_le D) (rw0_le D) x (hb0.fr t x hx)
        hsc := fun l c hl => by
          show scs (finS old D (hpOf hp0 D)).length [] (rwOf rows0 D).length [] c = true
          rw [hfl]
          rcases fin_cases hD hb0.len hl with ⟨i, r, hi, hr⟩ | ⟨hlt, ho, hno⟩ | ⟨hge, hl, _⟩
          · have hpres := ab_pres hD hh.closed (i + 1) i (by omega) r hi (hh.closed i r (hall i (hop i r hi).2) hi)
            obtain ⟨u1, u2⟩ := up hpres.1 hpres.2
            exact scs_up (hp0_le D) u1 (rw0_le D) u2 c ((hD i r hi).sto _ _ hr).sc
          · exact scs_mono (hp0_le D) (rw0_le D) c (hb0.hp l c ho)
          rcases pb l c hl with h | ⟨i, r, _, hi, ho⟩
          · omega
          · rw [ob_mem] at ho
            obtain ⟨rfl, hb⟩ := ho
            cases hbx : r.eff.box with
            | none => rw [hbx] at hb; cases hb
            | some c' =>
              rw [box_at hD hi hbx] at hl
              cases hl
              have hpres := ab_pres hD hh.closed (i + 1) i (by omega) r hi (hh.closed i r (hall i (hop i r hi).2) hi)
              obtain ⟨u1, u2⟩ := up hpres.1 hpres.2
              exact scs_up (hp0_le D) u1 (rw0_le D) (fun l hl => by
                rcases List.mem_append.1 hl with hl | hl
                · exact (lvls i r hi).2 l hl
                · exact u2 l hl) c ((hD i r hi).bsc c hbx)
        mem := hinv.mem.sub ehp erw
        klt := hinv.klt
        n0 := Nat.le_trans hb0.n0 (rw0_le D)
        b0 := by
          show E.b0 ≤ (finS old D (hpOf hp0 D)).length
          rw [hfl]; exact Nat.le_trans hb0.b0 (hp0_le D) }
    have := wpAny_of_seq (P := E.P) (md := .any) (ops := L.toArray) (Q' := Q) (L.drop n) n listed a w (fun i => by simp [List.getElem?_drop]) (by rw [List.length_drop, hlst]; exact hseq) (hQ A a w hsat)
    rw [List.length_drop] at this
    rw [hf, Nat.zero_add]
    exact this
  | succ m ih =>
    intro fuel listed A a w hm hf hh hinv
    obtain ⟨fuel, rfl⟩ : ∃ f, fuel = f + 1 := ⟨fuel - 1, by omega⟩
    -- somebody in the head has not come up: the least one may
    have hex : ∃ i, i < n ∧ ¬ Lst listed i := by
      have hne : ((List.range n).filter fun i => !listed.getD i false) ≠ [] := fun e => by rw [e] at hm; cases hm
      obtain ⟨i, hi⟩ := List.exists_mem_of_ne_nil _ hne
      rw [List.mem_filter] at hi
      exact ⟨i, List.mem_range.1 hi.1, by unfold Lst; simpa using hi.2⟩
    have hready : ∀ i, i ∈ Region.ready .any L.toArray listed ↔ listed.getD i true = false ∧ ∃ o, L[i]? = some o ∧ ∀ e ∈ o.after.toList, bindsAny e = true → Lst listed e.on := fun i => by
      rw [mem_ready]
      constructor
      · rintro ⟨h1, o, h2, h3⟩
        exact ⟨h1, o, by simpa using h2, fun e he hb => h3 e (by simpa using he) (by rw [bindsAny_eq]; exact hb)⟩
      · rintro ⟨h1, o, h2, h3⟩
        exact ⟨h1, o, by simpa using h2, fun e he hb => h3 e (by simpa using he) (by rw [← bindsAny_eq]; exact hb)⟩
    have hleast : ∃ i, i < n ∧ i ∈ Region.ready .any L.toArray listed := by
      obtain ⟨i, hi, hmin⟩ := exists_least hex
      refine ⟨i, hi.1, (hready i).2 ⟨(not_lst (by rw [hh.size]; omega)).2 hi.2, ?_⟩⟩
      have hil : i < L.length := by omega
      refine ⟨L[i], List.getElem?_eq_getElem hil, fun e he hb => ?_⟩
      have hlt := chkHead_edge hch hi.1 (List.getElem?_eq_getElem hil) he hb
      by_cases hl : Lst listed e.on
      · exact hl
      · have := hmin e.on ⟨by omega, hl⟩; omega
    refine ⟨fun h0 => ?_, fun i hi => ?_⟩
    · obtain ⟨i, _, hi⟩ := hleast
      rw [h0] at hi; cases hi
    · -- whoever comes up is of the head
      have hin : i < n := by
        rcases Nat.lt_or_ge i n with h | h
        · exact h
        · rcases hsc with hsc | ⟨hs1, hs2⟩
          · obtain ⟨_, o, ho, _⟩ := (hready i).1 hi
            have := (List.getElem?_eq_some_iff.1 ho).1
            omega
          · obtain ⟨i0, hi0, hn0⟩ := hex
            have hilt : i < L.length := by
              obtain ⟨_, o, ho, _⟩ := (hready i).1 hi
              exact (List.getElem?_eq_some_iff.1 ho).1
            have hinvH : HeadInv .any L.toArray n listed := ⟨by simpa using hh.size, fun j oj hj hl e he hb => by
              have hj' : L[j]? = some oj := by simpa using hj
              have hjl := (List.getElem?_eq_some_iff.1 hj').1
              have hjn : j < n := by
                rcases Nat.lt_or_ge j n with h' | h'
                · exact h'
                · have := hh.tail j h' hjl
                  rw [not_lst (by rw [hh.size]; exact hjl)] at this
                  exact absurd hl this
              obtain ⟨r, hr⟩ : ∃ r, D[j]? = some r := ⟨D[j]'(by omega), List.getElem?_eq_getElem (by omega)⟩
              have := (hop j r hr).1
              rw [hj'] at this
              cases this
              exact hh.closed j r hl hr e (by simpa using he) (by rw [← bindsAny_eq]; exact hb), fun t h1 h2 => hh.tail t h1 (by simpa using h2)⟩
            exact absurd hi (tail_waits hs1 hs2 (by simp; omega) hinvH _ i0 rfl hi0 ((not_lst (by rw [hh.size]; omega)).2 hn0) i h)
      obtain ⟨r, hr⟩ : ∃ r, D[i]? = some r := ⟨D[i]'(by omega), List.getElem?_eq_getElem (by omega)⟩
      obtain ⟨hnl, o, ho, hdep⟩ := (hready i).1 hi
      have hsz : i < listed.size := by rw [hh.size]; omega
      rw [not_lst hsz] at hnl
      have := (hop i r hr).1
      rw [ho] at this
      cases this
      refine step hb0 hch hD hlen hinv hh.closed hsz hnl hr hdep (fun A' a' w' hinv' => ih fuel _ A' a' w' ?_ (by omega) ?_ hinv')
      · -- one less
        have key : ∀ l : List Nat, l.Nodup → i ∈ l → ((l.filter fun x => !(listed.setIfInBounds i true).getD x false).length + 1 = (l.filter fun x => !listed.getD x false).length) := by
          intro l
          induction l with
          | nil => intro _ h; simp at h
          | cons x l ihl =>
            intro hnd hmem
            rw [List.nodup_cons] at hnd
            by_cases hx : x = i
            · subst hx
              have e1 : (listed.setIfInBounds x true).getD x false = true := by simp [hsz]
              have e2 : listed.getD x false = false := by unfold Lst at hnl; simpa using hnl
              have e3 : (l.filter fun y => !(listed.setIfInBounds x true).getD y false) = l.filter fun y => !listed.getD y false := by
                apply List.filter_congr
                intro y hy
                have : x ≠ y := fun e => hnd.1 (e ▸ hy)
                rw [getD_set_ne false this]
              rw [List.filter_cons, List.filter_cons, e1, e2, e3]
              simp
            · have hil : i ∈ l := by
                rcases List.mem_cons.1 hmem with h | h
                · exact absurd h.symm hx
                · exact h
              have := ihl hnd.2 hil
              have e1 : (listed.setIfInBounds i true).getD x false = listed.getD x false := getD_set_ne false (fun e => hx e.symm)
              rw [List.filter_cons, List.filter_cons, e1]
              cases listed.getD x false with
              | false => simp only [Bool.not_false, if_true, List.length_cons]; omega
              | true => simp only [Bool.not_true, Bool.false_eq_true, if_false]; omega
        have := key (List.range n) List.nodup_range (List.mem_range.2 hin)
        omega
      · refine ⟨by simp [hh.size], fun j r' hl hj e he hb => ?_, fun t h1 h2 => by rw [getD_set_ne true (by omega)]; exact hh.tail t h1 h2⟩
        rw [Lst_set hsz] at hl ⊢
        rcases hl with rfl | hl
        · rw [hr] at hj; cases hj
          exact .inr (hdep e he hb)
        · exact .inr (hh.closed j r' hl hj e he hb)

theorem V_drawG {T : TypeId → Option TInfo} {G : List (FuncId × Ctr)} (hT : TOk E.P T) (hG : GOk E.P G) (hm : E.P.follows .mixedOrders = true) (n : Nat) (hc : chkRegion L n = true) {id : Nat} {fr : List AVal} {hp hq : List (Option (List AVal))} {rows : List (Option Row)}
    {kN : St → Prop} {kE : Nat → St → Prop} {kR : St → Prop} {kk : List Rec → St → Prop} (hln : hp.length = hq.length) (hsub : ∀ i cs, nthj hq i = some cs → nthj hp i = some cs)
    (hkk : ∀ D, HeadOk E L fr hq hp rows D → D.length = n → kk D ⟨frOf fr D, hpOf hq D, rwOf rows D⟩ → vcOps E T G L (L.drop n) ⟨frOf fr D, finS hp D (hpOf hq D), rwOf rows D⟩ kN)
    (h : headRun T G L hq.length rows.length E.b0 hq hp (L.take n) [] fr hq rows kk) : V E (.region id L.toArray true) kN kE kR ⟨fr, hp, rows⟩ := ⟨fun Q h1 h2 h3 A a w hs => by
  have hnL : n ≤ L.length := by
    unfold chkRegion at hc
    simp only [Bool.and_eq_true, decide_eq_true_eq] at hc
    exact hc.1.1
  have hlt : (L.take n).length = n := by simp; omega
  have h' : headRun T G L hq.length rows.length E.b0 hq hp (L.take n) [] (frOf fr []) (hpOf hq []) (rwOf rows []) kk := by
    simpa [frOf, hpOf, rwOf] using h
  obtain ⟨D, hD, hlen, hk⟩ := headRun_spec hT hG (L.take n) [] (fun i r hi => by simp at hi) (fun j hj => by
    rw [hlt] at hj
    simp [List.getElem?_take, hj]) h'
  rw [hlt, List.length_nil, Nat.zero_add] at hlen
  refine wp_region_any hm ?_
  have hvo := vcOps_sound hT hG _ _ _ (hkk D hD hlen hk)
  have hl0 : ∀ i, ¬ Lst (Array.replicate L.toArray.size false) i := fun i => by
    unfold Lst
    rw [getD_replicate_false]
    simp
  refine draw_any (hp0 := hq) (old := hp) ⟨by rw [← hln]; exact hs.sc, hln, hsub, by rw [← hln]; exact hs.hsc, hs.n0, by rw [← hln]; exact hs.b0⟩ hc hD hlen (fun A a w hs' => hvo.out Q h1 A a w hs') n L.toArray.size (Array.replicate L.toArray.size false) A a _ ?_ (by simp; omega) ?_ ?_
  · have : ((List.range n).filter fun i => !(Array.replicate L.toArray.size false).getD i false) = List.range n := by
      rw [List.filter_eq_self]
      intro i _
      rw [getD_replicate_false]; rfl
    rw [this, List.length_range]
  · exact ⟨by simp, fun j r hl => absurd hl (hl0 j), fun t h1 h2 => by simp [h2]⟩
  · have hpb : hpS hq hp D (Array.replicate L.toArray.size false) = nthj hp := by
      funext l
      have hno : stoF D (Array.replicate L.toArray.size false) l = none := stoF_none (fun i q v h _ _ => hl0 i h)
      rcases Nat.lt_or_ge l hq.length with hl | hl
      · rw [hpS_old hno hl]
      · rw [hpS_none hno (by omega), nthj_none (l := hp) (by omega)]
        rintro (h | ⟨j, r, h, _⟩)
        · omega
        · exact hl0 j h
    have hpr : rwS rows D (Array.replicate L.toArray.size false) = nthj rows := by
      funext l
      unfold rwS
      rcases Nat.lt_or_ge l rows.length with hl | hl
      · rw [if_pos (.inl hl), nthj_rw0 hl]
      · rw [if_neg, nthj_none hl]
        rintro (h | ⟨j, r, h, _⟩)
        · omega
        · exact hl0 j h
    exact {
      defers := hs.defers
      size := hs.size
      set := fun j r hl => absurd hl (hl0 j)
      old := fun t x hx _ => hs.fr t x hx
      mem := by
        rw [hpb, hpr]
        exact hs.mem.grow ⟨⟨rfl, rfl, rfl, Nat.le_refl _, fun _ _ => rfl⟩, Dr.of (by first | exact Nat.le_refl _ | exact Nat.le_add_right _ _ | simp)⟩ hs.klt
      klt := hs.klt }⟩

theorem fold_id : ∀ (D : List Rec) (base : List (Option (List AVal))), (∀ r ∈ D, r.sto = none) → D.foldl putSto base = base
  | [], base, _ => rfl
  | r :: D, base, h => by
    rw [List.foldl_cons, show putSto base r = base by unfold putSto; rw [h r (by simp)]]
    exact fold_id D base (fun q hq => h q (by simp [hq]))

theorem V_draw {T : TypeId → Option TInfo} {G : List (FuncId × Ctr)} (hT : TOk E.P T) (hG : GOk E.P G) (hm : E.P.follows .mixedOrders = true) (n : Nat) (hc : chkRegion L n = true) {id : Nat} {fr : List AVal} {hp : List (Option (List AVal))} {rows : List (Option Row)}
    {kN : St → Prop} {kE : Nat → St → Prop} {kR : St → Prop} (hns : ∀ o ∈ L.take n, isSto o.op = false)
    (h : lenK hp fun nb => lenK rows fun nr => headRun T G L nb nr E.b0 hp hp (L.take n) [] fr hp rows fun _ σ => vcOps E T G L (L.drop n) σ kN) : V E (.region id L.toArray true) kN kE kR ⟨fr, hp, rows⟩ := by
  simp only [lenK_eq] at h
  have hnL : n ≤ L.length := by
    unfold chkRegion at hc
    simp only [Bool.and_eq_true, decide_eq_true_eq] at hc
    exact hc.1.1
  refine V_drawG hT hG hm n hc rfl (fun i cs h => h) (fun D hD hlD hk => ?_) h
  have hno : ∀ r ∈ D, r.sto = none := fun r hr => by
    obtain ⟨i, hi⟩ := List.mem_iff_getElem?.1 hr
    cases hs : r.sto with
    | none => rfl
    | some lv =>
      have hst := (hD i r hi).sto lv.1 lv.2 hs
      exfalso
      have hop := (hD i r hi).op
      have hlt := (List.getElem?_eq_some_iff.1 hi).1
      rw [List.length_take, show min i D.length = i by omega] at hop
      have hmem : r.o ∈ L.take n := List.mem_iff_getElem?.2 ⟨i, by rw [List.getElem?_take, if_pos (by omega)]; exact hop⟩
      have := hns _ hmem
      rw [hst.isS] at this; cases this
  have : finS hp D (hpOf hp D) = hpOf hp D := by
    unfold finS
    rw [fold_id D _ hno]
    unfold hpOf
    rw [List.drop_left]
  rw [this]
  exact hk

/-- Operations that may stand in the head. -/
def headable (G : List (FuncId × Ctr)) : Op → Bool
  | .store _ _ _ | .call { callee := .builtin .append, .. } | .call { callee := .builtin .copy, .. } | .call { callee := .builtin .clear, .. } => false
  | .call { callee := .value (.func f), .. } => match look G f with | some (.p _) => true | some (.b _) => true | none => true | _ => false
  | _ => true
def autoN (G : List (FuncId × Ctr)) : List Oper → Nat
  | [] => 0
  | o :: l => match headable G o.op with | true => autoN G l + 1 | false => 0
def splitH (G : List (FuncId × Ctr)) : List Oper → (List Oper → List Oper → Prop) → Prop
  | [], k => k [] []
  | o :: l, k => match headable G o.op with | true => splitH G l fun x y => k (o :: x) y | false => k [] (o :: l)
theorem splitH_eq (G : List (FuncId × Ctr)) : ∀ (l : List Oper) (k : List Oper → List Oper → Prop), splitH G l k = k (l.take (autoN G l)) (l.drop (autoN G l))
  | [], k => rfl
  | o :: l, k => by
    simp only [splitH, autoN]
    cases h : headable G o.op
    · rfl
    · simp only [splitH_eq G l]; rfl

theorem autoN_noS (G : List (FuncId × Ctr)) : ∀ (l : List Oper), ∀ o ∈ l.take (autoN G l), isSto o.op = false
  | [], o, ho => by simp at ho
  | x :: l, o, ho => by
    simp only [autoN] at ho
    split at ho
    · rename_i hx
      rw [List.take_succ_cons] at ho
      rcases List.mem_cons.1 ho with rfl | ho
      · cases h : o.op <;> first | rfl | (rw [h] at hx; cases hx)
      · exact autoN_noS G l o ho
    · simp at ho
theorem V_drawA {T : TypeId → Option TInfo} {G : List (FuncId × Ctr)} (hT : TOk E.P T) (hG : GOk E.P G) (hm : E.P.follows .mixedOrders = true) (hc : chkRegion L (autoN G L) = true) {id : Nat} {fr : List AVal} {hp : List (Option (List AVal))} {rows : List (Option Row)}
    {kN : St → Prop} {kE : Nat → St → Prop} {kR : St → Prop}
    (h : splitH G L fun x y => lenK hp fun nb => lenK rows fun nr => headRun T G L nb nr E.b0 hp hp x [] fr hp rows fun _ σ => vcOps E T G L y σ kN) : V E (.region id L.toArray true) kN kE kR ⟨fr, hp, rows⟩ :=
  V_draw hT hG hm (autoN G L) hc (autoN_noS G L) (by rw [splitH_eq] at h; exact h)

/-! ### stores into old boxes in the head -/
/-- The level of the box that a store goes to. -/
def stoAt (fr : List AVal) : Op → Option Nat
  | .store _ x _ => match ev fr x with
    | some (.loc l 0) => some l
    | _ => none
  | _ => none
def headableS (G : List (FuncId × Ctr)) (fr : List AVal) (o : Op) : Bool := match stoAt fr o with | some _ => true | none => headable G o
def autoNS (G : List (FuncId × Ctr)) (fr : List AVal) : List Oper → Nat
  | [] => 0
  | o :: l => match headableS G fr o.op with | true => autoNS G fr l + 1 | false => 0
def splitS (G : List (FuncId × Ctr)) (fr : List AVal) : List Oper → (List Oper → List Oper → Prop) → Prop
  | [], k => k [] []
  | o :: l, k => match headableS G fr o.op with | true => splitS G fr l fun x y => k (o :: x) y | false => k [] (o :: l)
theorem splitS_eq (G : List (FuncId × Ctr)) (fr : List AVal) : ∀ (l : List Oper) (k : List Oper → List Oper → Prop), splitS G fr l k = k (l.take (autoNS G fr l)) (l.drop (autoNS G fr l))
  | [], k => rfl
  | o :: l, k => by
    simp only [splitS, autoNS]
    cases h : headableS G fr o.op
    · rfl
    · simp only [splitS_eq G fr l]; rfl
/-- the boxes without those that the head stores to -/
def goneK (fr : List AVal) : List Oper → List (Option (List AVal)) → (List (Option (List AVal)) → Prop) → Prop
  | [], hp, k => k hp
  | o :: l, hp, k => match stoAt fr o.op with
    | some i => setK hp i none fun hp' => goneK fr l hp' k
    | none => goneK fr l hp k
theorem goneK_eq (fr : List AVal) : ∀ (l : List Oper) (hp : List (Option (List AVal))) (k : List (Option (List AVal)) → Prop), goneK fr l hp k → ∃ hq, hq.length = hp.length ∧ (∀ i cs, nthj hq i = some cs → nthj hp i = some cs) ∧ k hq
  | [], hp, k, h => ⟨hp, rfl, fun i cs h => h, h⟩
  | o :: l, hp, k, h => by
    simp only [goneK] at h
    split at h
    · rename_i i hi
      rw [setK_eq] at h
      obtain ⟨hq, h1, h2, h3⟩ := goneK_eq fr l _ k h
      refine ⟨hq, by rw [h1, List.length_set], fun j cs hj => ?_, h3⟩
      have := h2 j cs hj
      rw [nthj_eq, List.getElem?_set] at this
      rw [nthj_eq]
      split at this
      · split at this <;> simp at this
      · exact this
    · exact goneK_eq fr l hp k h

theorem V_drawS {T : TypeId → Option TInfo} {G : List (FuncId × Ctr)} (hT : TOk E.P T) (hG : GOk E.P G) (hm : E.P.follows .mixedOrders = true) {id : Nat} {fr : List AVal} (hc : chkRegion L (autoNS G fr L) = true) {hp : List (Option (List AVal))} {rows : List (Option Row)}
    {kN : St → Prop} {kE : Nat → St → Prop} {kR : St → Prop}
    (h : splitS G fr L fun x y => goneK fr x hp fun hq => lenK hq fun nb => lenK rows fun nr => headRun T G L nb nr E.b0 hq hp x [] fr hq rows fun D σ => match σ with
      | ⟨fr', hp', rows'⟩ => dropK hp hp' fun tl => appK hp tl fun hp1 => stoK D hp1 fun hp2 => vcOps E T G L y ⟨fr', hp2, rows'⟩ kN) : V E (.region id L.toArray true) kN kE kR ⟨fr, hp, rows⟩ := by
  rw [splitS_eq] at h
  obtain ⟨hq, h1, h2, h3⟩ := goneK_eq fr _ _ _ h
  simp only [lenK_eq] at h3
  refine V_drawG hT hG hm (autoNS G fr L) hc h1.symm h2 (fun D hD _ hk => ?_) h3
  simp only [dropK_eq, appK_eq, stoK_eq] at hk
  exact hk

/-! ### stores into new boxes in the head -/
/-- Is the store's address made by an alloc of the region? -/
def newAt (d : Nat) : List Oper → Bool
  | [] => false
  | o :: l => match o.op, o.dst with
    | .alloc _, some d' => (match Nat.beq d d' with | true => true | false => newAt d l)
    | _, _ => newAt d l
def stoNew (L : List Oper) : Op → Bool
  | .store _ (.tmp d) _ => newAt d L
  | _ => false
def headableN (G : List (FuncId × Ctr)) (L : List Oper) (fr : List AVal) (o : Op) : Bool := match stoNew L o with | true => true | false => headableS G fr o
def autoNN (G : List (FuncId × Ctr)) (L : List Oper) (fr : List AVal) : List Oper → Nat
  | [] => 0
  | o :: l => match headableN G L fr o.op with | true => autoNN G L fr l + 1 | false => 0
def splitN (G : List (FuncId × Ctr)) (L : List Oper) (fr : List AVal) : List Oper → (List Oper → List Oper → Prop) → Prop
  | [], k => k [] []
  | o :: l, k => match headableN G L fr o.op with | true => splitN G L fr l fun x y => k (o :: x) y | false => k [] (o :: l)
theorem splitN_eq (G : List (FuncId × Ctr)) (L : List Oper) (fr : List AVal) : ∀ (l : List Oper) (k : List Oper → List Oper → Prop), splitN G L fr l k = k (l.take (autoNN G L fr l)) (l.drop (autoNN G L fr l))
  | [], k => rfl
  | o :: l, k => by
    simp only [splitN, autoNN]
    cases h : headableN G L fr o.op
    · rfl
    · simp only [splitN_eq G L fr l]; rfl
/-- the boxes without those that the head stores to: a store to a new box names no old one -/
def goneN (L : List Oper) (fr : List AVal) : List Oper → List (Option (List AVal)) → (List (Option (List AVal)) → Prop) → Prop
  | [], hp, k => k hp
  | o :: l, hp, k => match stoNew L o.op with
    | true => goneN L fr l hp k
    | false => (match stoAt fr o.op with
      | some i => setK hp i none fun hp' => goneN L fr l hp' k
      | none => goneN L fr l hp k)
theorem goneN_eq (L : List Oper) (fr : List AVal) : ∀ (l : List Oper) (hp : List (Option (List AVal))) (k : List (Option (List AVal)) → Prop), goneN L fr l hp k → ∃ hq, hq.length = hp.length ∧ (∀ i cs, nthj hq i = some cs → nthj hp i = some cs) ∧ k hq
  | [], hp, k, h => ⟨hp, rfl, fun i cs h => h, h⟩
  | o :: l, hp, k, h => by
    simp only [goneN] at h
    split at h
    · exact goneN_eq L fr l hp k h
    split at h
    · rename_i i hi
      rw [setK_eq] at h
      obtain ⟨hq, h1, h2, h3⟩ := goneN_eq L fr l _ k h
      refine ⟨hq, by rw [h1, List.length_set], fun j cs hj => ?_, h3⟩
      have := h2 j cs hj
      rw [nthj_eq, List.getElem?_set] at this
      rw [nthj_eq]
      split at this
      · split at this <;> simp at this
      · exact this
    · exact goneN_eq L fr l hp k h

theorem V_drawN {T : TypeId → Option TInfo} {G : List (FuncId × Ctr)} (hT : TOk E.P T) (hG : GOk E.P G) (hm : E.P.follows .mixedOrders = true) {id : Nat} {fr : List AVal} (hc : chkRegion L (autoNN G L fr L) = true) {hp : List (Option (List AVal))} {rows : List (Option Row)}
    {kN : St → Prop} {kE : Nat → St → Prop} {kR : St → Prop}
    (h : splitN G L fr L fun x y => goneN L fr x hp fun hq => lenK hq fun nb => lenK rows fun nr => headRun T G L nb nr E.b0 hq hp x [] fr hq rows fun D σ => match σ with
      | ⟨fr', hp', rows'⟩ => dropK hp hp' fun tl => appK hp tl fun hp1 => stoK D hp1 fun hp2 => vcOps E T G L y ⟨fr', hp2, rows'⟩ kN) : V E (.region id L.toArray true) kN kE kR ⟨fr, hp, rows⟩ := by
  rw [splitN_eq] at h
  obtain ⟨hq, h1, h2, h3⟩ := goneN_eq L fr _ _ _ h
  simp only [lenK_eq] at h3
  refine V_drawG hT hG hm (autoNN G L fr L) hc h1.symm h2 (fun D hD _ hk => ?_) h3
  simp only [dropK_eq, appK_eq, stoK_eq] at hk
  exact hk

end
end Go.Proofs.YtmbfflckgmdncaaDoor.Fw
