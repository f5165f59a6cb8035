/- Entering a function, leaving it, loops. -/
import Derived.Test.YtlplngafncobkaaFwP
import Derived.Deep.LoopGhost
namespace Go.Proofs.Ytlplngafncobkaa.Fw
open Go Go.RowKit
set_option linter.unusedVariables false
set_option linter.unusedSimpArgs false

/-! ### fewer facts -/
def leFr : List AVal → List AVal → Prop
  | l, y :: l' => match y, l with
    | .junk, _ :: l => leFr l l'
    | y, x :: l => x = y ∧ leFr l l'
    | _, [] => False
  | [], [] => True
  | _ :: _, [] => False
def leO {α : Type} : List (Option α) → List (Option α) → Prop
  | _, [] => True
  | [], none :: l' => leO [] l'
  | _ :: l, none :: l' => leO l l'
  | x :: l, some y :: l' => x = some y ∧ leO l l'
  | [], some _ :: _ => False

def scO (nb nr : Nat) : List (Option (List AVal)) → Bool
  | [] => true
  | none :: l => scO nb nr l
  | some c :: l => match scs nb [] nr [] c with | true => scO nb nr l | false => false

def Le (E : Env) (σ σ' : St) : Prop :=
  match σ, σ' with
  | ⟨fr, hp, rows⟩, ⟨fr', hp', rows'⟩ => leFr fr fr' ∧ leO hp hp' ∧ leO rows rows' ∧ scs (lenN hp') [] (lenN rows') [] fr' = true ∧ scO (lenN hp') (lenN rows') hp' = true ∧ E.n0 ≤ lenN rows' ∧ E.b0 ≤ lenN hp'

theorem leFr_spec : ∀ (l l' : List AVal), leFr l l' → l.length = l'.length ∧ ∀ (t : Nat) (y : AVal), l'[t]? = some y → y = .junk ∨ l[t]? = some y
  | [], [], _ => ⟨rfl, fun t y h => by simp at h⟩
  | x :: l, [], h => h.elim
  | l, y :: l', h => by
    unfold leFr at h
    split at h
    · rename_i x l
      obtain ⟨h1, h2⟩ := leFr_spec l l' h
      refine ⟨by simp [h1], fun t z hz => ?_⟩
      cases t with
      | zero => simp at hz; exact .inl hz.symm
      | succ t => simpa using h2 t z (by simpa using hz)
    · rename_i x l _
      obtain ⟨hxy, h⟩ := h
      subst hxy
      obtain ⟨h1, h2⟩ := leFr_spec l l' h
      refine ⟨by simp [h1], fun t z hz => ?_⟩
      cases t with
      | zero => simp at hz; exact .inr (by simp [hz])
      | succ t => simpa using h2 t z (by simpa using hz)
    · exact h.elim

theorem leO_spec {α : Type} : ∀ (l l' : List (Option α)), leO l l' → ∀ (t : Nat) (y : α), nthj l' t = some y → nthj l t = some y
  | l, [], _, t, y, h => by simp [nthj] at h
  | [], none :: l', h, t, y, hy => by
    cases t with
    | zero => simp [nthj] at hy
    | succ t => have := leO_spec [] l' (by simpa [leO] using h) t y (by simpa [nthj] using hy); simp [nthj] at this
  | x :: l, none :: l', h, t, y, hy => by
    cases t with
    | zero => simp [nthj] at hy
    | succ t => simpa [nthj] using leO_spec l l' (by simpa [leO] using h) t y (by simpa [nthj] using hy)
  | x :: l, some z :: l', h, t, y, hy => by
    simp only [leO] at h
    cases t with
    | zero => simp [nthj] at hy ⊢; rw [h.1, hy]
    | succ t => simpa [nthj] using leO_spec l l' h.2 t y (by simpa [nthj] using hy)
  | [], some _ :: _, h, t, y, hy => by simp [leO] at h

theorem scO_spec {nb nr : Nat} : ∀ (l : List (Option (List AVal))), scO nb nr l = true → ∀ i cs, nthj l i = some cs → scs nb [] nr [] cs = true
  | [], _, i, cs, h => by simp [nthj] at h
  | none :: l, hs, i, cs, h => by
    cases i with
    | zero => simp [nthj] at h
    | succ i => exact scO_spec l (by simpa [scO] using hs) i cs (by simpa [nthj] using h)
  | some c :: l, hs, i, cs, h => by
    simp only [scO] at hs
    split at hs
    · rename_i hc
      cases i with
      | zero => simp [nthj] at h; subst h; exact hc
      | succ i => exact scO_spec l hs i cs (by simpa [nthj] using h)
    · cases hs

theorem Sat.le {E : Env} {A : Asg} {σ σ' : St} {a : Act} {w : World} (h : Sat E A σ a w) (hle : Le E σ σ') : Sat E A σ' a w := by
  obtain ⟨fr, hp, rows⟩ := σ
  obtain ⟨fr', hp', rows'⟩ := σ'
  simp only [Le, lenN_eq] at hle
  obtain ⟨h1, h2, h3, h4, h5, h6, h7⟩ := hle
  obtain ⟨hl, hf⟩ := leFr_spec _ _ h1
  rw [scs_all] at h4
  exact {
    defers := h.defers
    size := h.size.trans hl
    fr := fun t y hy => (hf t y hy).elim .inl (fun e => h.fr t y e)
    sc := fun t y hy => h4 y (List.mem_of_getElem? hy)
    hsc := fun i cs hi => scO_spec hp' h5 i cs hi
    mem := h.mem.sub (fun i c hi => leO_spec _ _ h2 i c hi) (fun k r hk => leO_spec _ _ h3 k r hk)
    klt := h.klt
    n0 := h6
    b0 := h7 }

theorem At.le {E : Env} {Q : Exit → Act → World → Prop} {e : Exit} {σ σ' : St} (hle : Le E σ σ') (h : At E Q e σ') : At E Q e σ := fun A a w hs => h A a w (hs.le hle)

/-! ### fewer facts, levels told anew -/
/-- Levels as other levels; a row may be the nil slice. -/
structure Ren where
  b : List Nat
  r : List (Option Nat)
def bGet : List Nat → Nat → Nat
  | [], i => i
  | x :: _, 0 => x
  | _ :: l, i + 1 => bGet l i
def rGet : List (Option Nat) → Nat → Option Nat
  | [], i => some i
  | x :: _, 0 => x
  | _ :: l, i + 1 => rGet l i

mutual
def AVal.ren (xb : List Nat) (xr : List (Option Nat)) : AVal → (AVal → Prop) → Prop
  | .loc i o, k => k (.loc (bGet xb i) o)
  | .bsl i n, k => k (.bsl (bGet xb i) n)
  | .row r, k => match rGet xr r with | some j => k (.row j) | none => k (.raw (.slice none 0 0))
  | .ele r i o s, k => match rGet xr r with | some j => k (.ele j i o s) | none => False
  | .irow r i, k => match rGet xr r with | some j => k (.irow j i) | none => False
  | .iele r i q o s, k => match rGet xr r with | some j => k (.iele j i q o s) | none => False
  | .vw r lo n s, k => match rGet xr r with | some j => k (.vw j lo n s) | none => False
  | .agg cs, k => rens xb xr cs fun l => k (.agg l)
  | .tup vs, k => rens xb xr vs fun l => k (.tup l)
  | .fn f fs cs, k => rens xb xr fs fun l => rens xb xr cs fun l' => k (.fn f l l')
  | .int a b, k => k (.int a b)
  | .bool b, k => k (.bool b)
  | .str s, k => k (.str s)
  | .raw v, k => k (.raw v)
  | .junk, _ => False
def rens (xb : List Nat) (xr : List (Option Nat)) : List AVal → (List AVal → Prop) → Prop
  | [], k => k []
  | x :: l, k => x.ren xb xr fun y => rens xb xr l fun l' => k (y :: l')
end

/-- How a renamed state reads. -/
def Asg.pull (A : Asg) (xb : List Nat) (xr : List (Option Nat)) : Asg :=
  ⟨fun i => A.bx (bGet xb i), fun i => match rGet xr i with | some j => A.rw j | none => ⟨none, 0, 0⟩, fun i => match rGet xr i with | some j => A.inn j | none => fun _ => ⟨none, 0, 0⟩⟩

mutual
theorem AVal.ren_den {xb : List Nat} {xr : List (Option Nat)} : ∀ (x : AVal) (k : AVal → Prop), x.ren xb xr k → ∃ y, k y ∧ ∀ A : Asg, y.den A = x.den (A.pull xb xr)
  | .loc i o, k, h => ⟨_, h, fun A => by simp [AVal.den, Asg.pull]⟩
  | .bsl i n, k, h => ⟨_, h, fun A => by simp [AVal.den, Asg.pull]⟩
  | .row r, k, h => by
    simp only [AVal.ren] at h
    split at h
    · rename_i j hj; exact ⟨_, h, fun A => by simp [AVal.den, Asg.pull, hj]⟩
    · rename_i hj; exact ⟨_, h, fun A => by simp [AVal.den, Asg.pull, hj, Hdr.val]⟩
  | .ele r i o s, k, h => by
    simp only [AVal.ren] at h
    split at h
    · rename_i j hj; exact ⟨_, h, fun A => by simp [AVal.den, Asg.pull, hj]⟩
    · exact h.elim
  | .irow r i, k, h => by
    simp only [AVal.ren] at h
    split at h
    · rename_i j hj; exact ⟨_, h, fun A => by simp [AVal.den, Asg.pull, hj]⟩
    · exact h.elim
  | .iele r i q o s, k, h => by
    simp only [AVal.ren] at h
    split at h
    · rename_i j hj; exact ⟨_, h, fun A => by simp [AVal.den, Asg.pull, hj]⟩
    · exact h.elim
  | .vw r lo n s, k, h => by
    simp only [AVal.ren] at h
    split at h
    · rename_i j hj; exact ⟨_, h, fun A => by simp [AVal.den, Asg.pull, hj]⟩
    · exact h.elim
  | .agg cs, k, h => by
    simp only [AVal.ren] at h
    obtain ⟨ys, h1, h2⟩ := rens_den cs _ h
    exact ⟨_, h1, fun A => by simp [AVal.den, h2]⟩
  | .tup cs, k, h => by
    simp only [AVal.ren] at h
    obtain ⟨ys, h1, h2⟩ := rens_den cs _ h
    exact ⟨_, h1, fun A => by simp [AVal.den, h2]⟩
  | .fn f fs cs, k, h => by
    simp only [AVal.ren] at h
    obtain ⟨ys, h1, h2⟩ := rens_den fs _ h
    obtain ⟨zs, h3, h4⟩ := rens_den cs _ h1
    exact ⟨_, h3, fun A => by simp [AVal.den, h2, h4]⟩
  | .int a b, k, h => ⟨_, h, fun A => by simp [AVal.den]⟩
  | .bool b, k, h => ⟨_, h, fun A => by simp [AVal.den]⟩
  | .str b, k, h => ⟨_, h, fun A => by simp [AVal.den]⟩
  | .raw b, k, h => ⟨_, h, fun A => by simp [AVal.den]⟩
  | .junk, k, h => h.elim
theorem rens_den {xb : List Nat} {xr : List (Option Nat)} : ∀ (l : List AVal) (k : List AVal → Prop), rens xb xr l k → ∃ ys, k ys ∧ ∀ A : Asg, dens A ys = dens (A.pull xb xr) l
  | [], k, h => ⟨[], h, fun A => by simp [dens]⟩
  | x :: l, k, h => by
    simp only [rens] at h
    obtain ⟨y, h1, h2⟩ := AVal.ren_den x _ h
    obtain ⟨ys, h3, h4⟩ := rens_den l _ h1
    exact ⟨_, h3, fun A => by simp [dens, h2, h4]⟩
end

def leFrR (xb : List Nat) (xr : List (Option Nat)) : List AVal → List AVal → Prop
  | l, y :: l' => match y, l with
    | .junk, _ :: l => leFrR xb xr l l'
    | y, x :: l => y.ren xb xr (fun z => x = z) ∧ leFrR xb xr l l'
    | _, [] => False
  | [], [] => True
  | _ :: _, [] => False
/-- boxes -/
def leHpR (xb : List Nat) (xr : List (Option Nat)) (hp : List (Option (List AVal))) : Nat → List (Option (List AVal)) → Prop
  | _, [] => True
  | n, none :: l => leHpR xb xr hp (n + 1) l
  | n, some c :: l => (match nthj hp (bGet xb n) with | some d => rens xb xr c (fun z => d = z) ∧ leHpR xb xr hp (n + 1) l | none => False)
/-- rows -/
def leRwR (xr : List (Option Nat)) (rows : List (Option Row)) : Nat → List (Option Row) → Prop
  | _, [] => True
  | n, none :: l => leRwR xr rows (n + 1) l
  | n, some r :: l => (match rGet xr n with
    | some j => (match nthj rows j with | some q => q = r ∧ leRwR xr rows (n + 1) l | none => False)
    | none => (match r with | ⟨c, e, true, xs⟩ => xs = [] ∧ leRwR xr rows (n + 1) l | _ => False))
def notIn : Nat → List Nat → Bool
  | _, [] => true
  | n, m :: l => match Nat.beq n m with | true => false | false => notIn n l
def distN : List Nat → Bool
  | [] => true
  | n :: l => match notIn n l with | true => distN l | false => false
/-- the levels that are told, as the old levels -/
def usedB (xb : List Nat) : Nat → List (Option (List AVal)) → List Nat
  | _, [] => []
  | n, none :: l => usedB xb (n + 1) l
  | n, some _ :: l => bGet xb n :: usedB xb (n + 1) l
def usedR (xr : List (Option Nat)) : Nat → List (Option Row) → List Nat
  | _, [] => []
  | n, none :: l => usedR xr (n + 1) l
  | n, some _ :: l => match rGet xr n with | some j => j :: usedR xr (n + 1) l | none => usedR xr (n + 1) l
/-- the first levels stay -/
def fixB (xb : List Nat) : Nat → Bool
  | 0 => true
  | n + 1 => match Nat.beq (bGet xb n) n with | true => fixB xb n | false => false
def fixR (xr : List (Option Nat)) : Nat → Bool
  | 0 => true
  | n + 1 => match rGet xr n with | some j => (match Nat.beq j n with | true => fixR xr n | false => false) | none => false
/-- the later levels are later ones -/
def lateB (b0 : Nat) (xb : List Nat) : Nat → List (Option (List AVal)) → Bool
  | _, [] => true
  | n, none :: l => lateB b0 xb (n + 1) l
  | n, some _ :: l => match Nat.ble b0 n with
    | true => (match Nat.ble b0 (bGet xb n) with | true => lateB b0 xb (n + 1) l | false => false)
    | false => lateB b0 xb (n + 1) l

def LeR (E : Env) (xb : List Nat) (xr : List (Option Nat)) (σ σ' : St) : Prop :=
  match σ, σ' with
  | ⟨fr, hp, rows⟩, ⟨fr', hp', rows'⟩ => leFrR xb xr fr fr' ∧ leHpR xb xr hp 0 hp' ∧ leRwR xr rows 0 rows' ∧ distN (usedB xb 0 hp') = true ∧ distN (usedR xr 0 rows') = true ∧ fixB xb E.b0 = true ∧ fixR xr E.n0 = true ∧ lateB E.b0 xb 0 hp' = true ∧
    scs (lenN hp') [] (lenN rows') [] fr' = true ∧ scO (lenN hp') (lenN rows') hp' = true ∧ E.n0 ≤ lenN rows' ∧ E.b0 ≤ lenN hp'

theorem leFrR_spec {xb : List Nat} {xr : List (Option Nat)} : ∀ (l l' : List AVal), leFrR xb xr l l' → l.length = l'.length ∧ ∀ (t : Nat) (y : AVal), l'[t]? = some y → y = .junk ∨ ∃ x, l[t]? = some x ∧ x ≠ .junk ∧ ∀ A : Asg, x.den A = y.den (A.pull xb xr)
  | [], [], _ => ⟨rfl, fun t y h => by simp at h⟩
  | x :: l, [], h => h.elim
  | l, y :: l', h => by
    unfold leFrR at h
    split at h
    · rename_i x l
      obtain ⟨h1, h2⟩ := leFrR_spec l l' h
      refine ⟨by simp [h1], fun t z hz => ?_⟩
      cases t with
      | zero => simp at hz; exact .inl hz.symm
      | succ t => simpa using h2 t z (by simpa using hz)
    · rename_i x l _
      obtain ⟨hxy, h⟩ := h
      obtain ⟨h1, h2⟩ := leFrR_spec l l' h
      refine ⟨by simp [h1], fun t z hz => ?_⟩
      cases t with
      | zero =>
        simp at hz; subst hz
        have hne : ∀ w, AVal.ren xb xr y (fun z => w = z) → w ≠ .junk := fun w hw e => by
          subst e
          cases y <;> simp only [AVal.ren] at hw <;> first | cases hw | exact hw.elim | (split at hw <;> first | cases hw | exact hw.elim) | skip
          · obtain ⟨_, h3, _⟩ := rens_den _ _ hw; cases h3
          · obtain ⟨_, h3, _⟩ := rens_den _ _ hw; cases h3
          · obtain ⟨_, h3, _⟩ := rens_den _ _ hw; obtain ⟨_, h4, _⟩ := rens_den _ _ h3; cases h4
        have hj := hne x hxy
        obtain ⟨w, h3, h4⟩ := AVal.ren_den y _ hxy
        subst h3
        exact .inr ⟨x, by simp, hj, h4⟩
      | succ t => simpa using h2 t z (by simpa using hz)
    · exact h.elim
theorem leHpR_spec {xb : List Nat} {xr : List (Option Nat)} {hp : List (Option (List AVal))} : ∀ (l : List (Option (List AVal))) (n : Nat), leHpR xb xr hp n l → ∀ i c, nthj l i = some c → ∃ d, nthj hp (bGet xb (n + i)) = some d ∧ ∀ A : Asg, dens A d = dens (A.pull xb xr) c
  | [], n, _, i, c, h => by simp [nthj] at h
  | none :: l, n, h, i, c, hi => by
    cases i with
    | zero => simp [nthj] at hi
    | succ i =>
      have := leHpR_spec l (n + 1) h i c (by simpa [nthj] using hi)
      rwa [show n + 1 + i = n + (i + 1) by omega] at this
  | some d :: l, n, h, i, c, hi => by
    simp only [leHpR] at h
    split at h
    · rename_i q hq
      obtain ⟨h1, h2⟩ := h
      cases i with
      | zero =>
        simp [nthj] at hi; subst hi
        obtain ⟨z, h3, h4⟩ := rens_den _ _ h1
        subst h3
        exact ⟨q, hq, h4⟩
      | succ i =>
        have := leHpR_spec l (n + 1) h2 i c (by simpa [nthj] using hi)
        rwa [show n + 1 + i = n + (i + 1) by omega] at this
    · exact h.elim
theorem leRwR_spec {xr : List (Option Nat)} {rows : List (Option Row)} : ∀ (l : List (Option Row)) (n : Nat), leRwR xr rows n l → ∀ i r, nthj l i = some r → (∃ j, rGet xr (n + i) = some j ∧ nthj rows j = some r) ∨ (rGet xr (n + i) = none ∧ ∃ c e, r = ⟨c, e, true, []⟩)
  | [], n, _, i, c, h => by simp [nthj] at h
  | none :: l, n, h, i, c, hi => by
    cases i with
    | zero => simp [nthj] at hi
    | succ i =>
      have := leRwR_spec l (n + 1) h i c (by simpa [nthj] using hi)
      rwa [show n + 1 + i = n + (i + 1) by omega] at this
  | some r :: l, n, h, i, c, hi => by
    simp only [leRwR] at h
    have rest : leRwR xr rows (n + 1) l → ∀ i, nthj l i = some c → (∃ j, rGet xr (n + (i + 1)) = some j ∧ nthj rows j = some c) ∨ (rGet xr (n + (i + 1)) = none ∧ ∃ c' e, c = ⟨c', e, true, []⟩) := fun h2 i hi => by
      have := leRwR_spec l (n + 1) h2 i c hi
      rwa [show n + 1 + i = n + (i + 1) by omega] at this
    split at h
    · rename_i j hj
      split at h
      · rename_i q hq
        obtain ⟨h1, h2⟩ := h
        cases i with
        | zero => simp [nthj] at hi; subst hi; subst h1; exact .inl ⟨j, hj, hq⟩
        | succ i => exact rest h2 i (by simpa [nthj] using hi)
      · exact h.elim
    · rename_i hj
      split at h
      · rename_i c0 e0 xs0
        obtain ⟨h1, h2⟩ := h
        cases i with
        | zero => simp [nthj] at hi; subst hi; subst h1; exact .inr ⟨hj, _, _, rfl⟩
        | succ i => exact rest h2 i (by simpa [nthj] using hi)
      · exact h.elim
theorem notIn_eq : ∀ (n : Nat) (l : List Nat), notIn n l = true → n ∉ l
  | n, [], _, h => by simp at h
  | n, m :: l, hh, h => by
    unfold notIn at hh
    split at hh
    · cases hh
    · rename_i hb
      simp only [List.mem_cons] at h
      rcases h with rfl | h
      · simp at hb
      · exact notIn_eq n l hh h
theorem usedB_mem {xb : List Nat} : ∀ (l : List (Option (List AVal))) (n i : Nat) (c : List AVal), nthj l i = some c → bGet xb (n + i) ∈ usedB xb n l
  | [], n, i, c, h => by simp [nthj] at h
  | none :: l, n, i, c, h => by
    cases i with
    | zero => simp [nthj] at h
    | succ i =>
      have := usedB_mem (xb := xb) l (n + 1) i c (by simpa [nthj] using h)
      rw [show n + 1 + i = n + (i + 1) by omega] at this
      exact this
  | some d :: l, n, i, c, h => by
    cases i with
    | zero => simp [usedB]
    | succ i =>
      have := usedB_mem (xb := xb) l (n + 1) i c (by simpa [nthj] using h)
      rw [show n + 1 + i = n + (i + 1) by omega] at this
      exact List.mem_cons_of_mem _ this
theorem usedB_inj {xb : List Nat} : ∀ (l : List (Option (List AVal))) (n i j : Nat) (c d : List AVal), distN (usedB xb n l) = true → nthj l i = some c → nthj l j = some d → i ≠ j → bGet xb (n + i) ≠ bGet xb (n + j)
  | [], n, i, j, c, d, _, h, _, _ => by simp [nthj] at h
  | none :: l, n, i, j, c, d, hd, hi, hj, hij => by
    cases i with
    | zero => simp [nthj] at hi
    | succ i => cases j with
      | zero => simp [nthj] at hj
      | succ j =>
        have := usedB_inj (xb := xb) l (n + 1) i j c d hd (by simpa [nthj] using hi) (by simpa [nthj] using hj) (fun e => hij (by rw [e]))
        rw [show n + 1 + i = n + (i + 1) by omega, show n + 1 + j = n + (j + 1) by omega] at this
        exact this
  | some q :: l, n, i, j, c, d, hd, hi, hj, hij => by
    simp only [usedB, distN] at hd
    split at hd
    · rename_i hn
      have hn := notIn_eq _ _ hn
      cases i with
      | zero => cases j with
        | zero => exact absurd rfl hij
        | succ j =>
          have := usedB_mem (xb := xb) l (n + 1) j d (by simpa [nthj] using hj)
          rw [show n + 1 + j = n + (j + 1) by omega] at this
          exact fun e => hn (by have e : bGet xb n = bGet xb (n + (j + 1)) := e; rw [e]; exact this)
      | succ i => cases j with
        | zero =>
          have := usedB_mem (xb := xb) l (n + 1) i c (by simpa [nthj] using hi)
          rw [show n + 1 + i = n + (i + 1) by omega] at this
          exact fun e => hn (by have e : bGet xb (n + (i + 1)) = bGet xb n := e; rw [← e]; exact this)
        | succ j =>
          have := usedB_inj (xb := xb) l (n + 1) i j c d hd (by simpa [nthj] using hi) (by simpa [nthj] using hj) (fun e => hij (by rw [e]))
          rw [show n + 1 + i = n + (i + 1) by omega, show n + 1 + j = n + (j + 1) by omega] at this
          exact this
    · cases hd
theorem usedR_mem {xr : List (Option Nat)} : ∀ (l : List (Option Row)) (n i : Nat) (c : Row) (q : Nat), nthj l i = some c → rGet xr (n + i) = some q → q ∈ usedR xr n l
  | [], n, i, c, q, h, _ => by simp [nthj] at h
  | none :: l, n, i, c, q, h, hq => by
    cases i with
    | zero => simp [nthj] at h
    | succ i => exact usedR_mem (xr := xr) l (n + 1) i c q (by simpa [nthj] using h) (by rw [show n + 1 + i = n + (i + 1) by omega]; exact hq)
  | some d :: l, n, i, c, q, h, hq => by
    cases i with
    | zero => rw [Nat.add_zero] at hq; simp [usedR, hq]
    | succ i =>
      have := usedR_mem (xr := xr) l (n + 1) i c q (by simpa [nthj] using h) (by rw [show n + 1 + i = n + (i + 1) by omega]; exact hq)
      simp only [usedR]
      split
      · exact List.mem_cons_of_mem _ this
      · exact this
theorem usedR_inj {xr : List (Option Nat)} : ∀ (l : List (Option Row)) (n i j : Nat) (c d : Row) (p q : Nat), distN (usedR xr n l) = true → nthj l i = some c → nthj l j = some d → i ≠ j → rGet xr (n + i) = some p → rGet xr (n + j) = some q → p ≠ q
  | [], n, i, j, c, d, p, q, _, h, _, _, _, _ => by simp [nthj] at h
  | none :: l, n, i, j, c, d, p, q, hd, hi, hj, hij, hp, hq => by
    cases i with
    | zero => simp [nthj] at hi
    | succ i => cases j with
      | zero => simp [nthj] at hj
      | succ j => exact usedR_inj (xr := xr) l (n + 1) i j c d p q hd (by simpa [nthj] using hi) (by simpa [nthj] using hj) (fun e => hij (by rw [e])) (by rw [show n + 1 + i = n + (i + 1) by omega]; exact hp) (by rw [show n + 1 + j = n + (j + 1) by omega]; exact hq)
  | some x :: l, n, i, j, c, d, p, q, hd, hi, hj, hij, hp, hq => by
    have tail : distN (usedR xr (n + 1) l) = true := by
      simp only [usedR] at hd
      split at hd
      · simp only [distN] at hd
        split at hd
        · exact hd
        · cases hd
      · exact hd
    have head : ∀ p, rGet xr n = some p → p ∉ usedR xr (n + 1) l := fun p hp0 => by
      simp only [usedR, hp0, distN] at hd
      split at hd
      · rename_i hn; exact notIn_eq _ _ hn
      · cases hd
    cases i with
    | zero => cases j with
      | zero => exact absurd rfl hij
      | succ j =>
        have := usedR_mem (xr := xr) l (n + 1) j d q (by simpa [nthj] using hj) (by rw [show n + 1 + j = n + (j + 1) by omega]; exact hq)
        exact fun e => head p (by simpa using hp) (e ▸ this)
    | succ i => cases j with
      | zero =>
        have := usedR_mem (xr := xr) l (n + 1) i c p (by simpa [nthj] using hi) (by rw [show n + 1 + i = n + (i + 1) by omega]; exact hp)
        exact fun e => head q (by simpa using hq) (e ▸ this)
      | succ j => exact usedR_inj (xr := xr) l (n + 1) i j c d p q tail (by simpa [nthj] using hi) (by simpa [nthj] using hj) (fun e => hij (by rw [e])) (by rw [show n + 1 + i = n + (i + 1) by omega]; exact hp) (by rw [show n + 1 + j = n + (j + 1) by omega]; exact hq)
theorem fixB_eq {xb : List Nat} : ∀ (n : Nat), fixB xb n = true → ∀ i, i < n → bGet xb i = i
  | 0, _, i, hi => by omega
  | n + 1, h, i, hi => by
    unfold fixB at h
    split at h
    · rename_i hb
      by_cases e : i = n
      · subst e; exact Nat.eq_of_beq_eq_true hb
      · exact fixB_eq n h i (by omega)
    · cases h
theorem fixR_eq {xr : List (Option Nat)} : ∀ (n : Nat), fixR xr n = true → ∀ i, i < n → rGet xr i = some i
  | 0, _, i, hi => by omega
  | n + 1, h, i, hi => by
    unfold fixR at h
    split at h
    · rename_i j hj
      split at h
      · rename_i hb
        by_cases e : i = n
        · subst e; rw [hj, Nat.eq_of_beq_eq_true hb]
        · exact fixR_eq n h i (by omega)
      · cases h
    · cases h
theorem lateB_eq {b0 : Nat} {xb : List Nat} : ∀ (l : List (Option (List AVal))) (n : Nat), lateB b0 xb n l = true → ∀ i c, nthj l i = some c → b0 ≤ n + i → b0 ≤ bGet xb (n + i)
  | [], n, _, i, c, h, _ => by simp [nthj] at h
  | none :: l, n, hl, i, c, h, hi => by
    cases i with
    | zero => simp [nthj] at h
    | succ i =>
      have := lateB_eq (b0 := b0) (xb := xb) l (n + 1) hl i c (by simpa [nthj] using h) (by omega)
      rw [show n + 1 + i = n + (i + 1) by omega] at this
      exact this
  | some d :: l, n, hl, i, c, h, hi => by
    have tail : lateB b0 xb (n + 1) l = true := by
      unfold lateB at hl
      split at hl
      · split at hl
        · exact hl
        · cases hl
      · exact hl
    cases i with
    | zero =>
      unfold lateB at hl
      split at hl
      · split at hl
        · rename_i h2; exact Nat.le_of_ble_eq_true h2
        · cases hl
      · rename_i h2
        have : Nat.ble b0 n = true := Nat.ble_eq_true_of_le (by omega)
        rw [this] at h2; cases h2
    | succ i =>
      have := lateB_eq (b0 := b0) (xb := xb) l (n + 1) tail i c (by simpa [nthj] using h) (by omega)
      rw [show n + 1 + i = n + (i + 1) by omega] at this
      exact this

theorem Sat.leR {E : Env} {A : Asg} {σ σ' : St} {a : Act} {w : World} {xb : List Nat} {xr : List (Option Nat)} (h : Sat E A σ a w) (hle : LeR E xb xr σ σ') : Sat E (A.pull xb xr) σ' a w := by
  obtain ⟨fr, hp, rows⟩ := σ
  obtain ⟨fr', hp', rows'⟩ := σ'
  simp only [LeR, lenN_eq] at hle
  obtain ⟨h1, h2, h3, h4, h5, h6, h7, h8, h9, h10, h11, h12⟩ := hle
  obtain ⟨hl, hf⟩ := leFrR_spec _ _ h1
  rw [scs_all] at h9
  have hpS := leHpR_spec hp' 0 h2
  have rwS := leRwR_spec rows' 0 h3
  have hbS : ∀ i j ci cj, nthj hp' i = some ci → nthj hp' j = some cj → i ≠ j → bGet xb i ≠ bGet xb j := fun i j ci cj hi hj hij => by
    have := usedB_inj (xb := xb) hp' 0 i j ci cj h4 hi hj hij
    simpa using this
  have hfb := fixB_eq (xb := xb) E.b0 h6
  have hfr := fixR_eq (xr := xr) E.n0 h7
  have hm := h.mem
  have getR : ∀ k r, nthj rows' k = some r → (∃ j, rGet xr k = some j ∧ nthj rows j = some r ∧ (A.pull xb xr).rw k = A.rw j ∧ (A.pull xb xr).inn k = A.inn j) ∨ (rGet xr k = none ∧ (∃ c e, r = ⟨c, e, true, []⟩) ∧ (A.pull xb xr).rw k = ⟨none, 0, 0⟩) := fun k r hk => by
    rcases rwS k r hk with ⟨j, q1, q2⟩ | ⟨q1, q2⟩
    · rw [Nat.zero_add] at q1
      exact .inl ⟨j, q1, q2, by simp [Asg.pull, q1], by simp [Asg.pull, q1]⟩
    · rw [Nat.zero_add] at q1
      exact .inr ⟨q1, q2, by simp [Asg.pull, q1]⟩
  have noFeet : ∀ k r b, (∃ c e, r = (⟨c, e, true, []⟩ : Row)) → (A.pull xb xr).rw k = ⟨none, 0, 0⟩ → ¬ Feet r ((A.pull xb xr).rw k) ((A.pull xb xr).inn k) b := fun k r b ⟨c, e, hr⟩ hk hf => by
    subst hr
    rw [hk] at hf
    exact feet_nil hf
  have hbx : ∀ i, (A.pull xb xr).bx i = A.bx (bGet xb i) := fun i => rfl
  exact {
    defers := h.defers
    size := h.size.trans hl
    fr := fun t y hy => (hf t y hy).elim .inl (fun ⟨x, e1, e2, e3⟩ => .inr (by
      rcases h.fr t x e1 with e4 | e4
      · exact absurd e4 e2
      · rw [e4, e3]))
    sc := fun t y hy => h9 y (List.mem_of_getElem? hy)
    hsc := fun i cs hi => scO_spec hp' h10 i cs hi
    mem := {
      kept := hm.kept
      box := fun i cs hi => by
        obtain ⟨d, q1, q2⟩ := hpS i cs hi
        rw [Nat.zero_add] at q1
        obtain ⟨⟨t, ht⟩, hn1, hn2⟩ := hm.box _ d q1
        rw [hbx]
        refine ⟨⟨t, by rw [← q2]; exact ht⟩, fun hlt => ?_, fun hge => ?_⟩
        · rw [hfb i hlt]
          rw [hfb i hlt] at hn1
          exact hn1 hlt
        · have := lateB_eq (b0 := E.b0) (xb := xb) hp' 0 h8 i cs hi (by omega)
          rw [Nat.zero_add] at this
          exact hn2 this
      row := fun k r hk => by
        rcases getR k r hk with ⟨j, q1, q2, q3, q4⟩ | ⟨q1, q2, q3⟩
        · rw [q3, q4]; exact hm.row j r q2
        · have hnf := fun b => noFeet k r b q2 q3
          obtain ⟨c, e, rfl⟩ := q2
          refine ⟨?_, fun _ => ⟨?_, fun b hb => (hnf b hb).elim⟩⟩
          · rw [q3]; exact (rows_nil _ _ _ _).at
          · rw [q3]; exact rows_nil _ _ _ _
      bb := fun i j ci cj h0 hi hj hij => by
        obtain ⟨d, q1, _⟩ := hpS i ci hi
        obtain ⟨d', q1', _⟩ := hpS j cj hj
        rw [Nat.zero_add] at q1 q1'
        have hge := lateB_eq (b0 := E.b0) (xb := xb) hp' 0 h8 i ci hi (by omega)
        rw [Nat.zero_add] at hge
        rw [hbx, hbx]
        exact hm.bb _ _ d d' hge q1 q1' (hbS i j ci cj hi hj hij)
      br := fun i ci k r b h0 hi hk hf => by
        obtain ⟨d, q1, _⟩ := hpS i ci hi
        rw [Nat.zero_add] at q1
        have hge := lateB_eq (b0 := E.b0) (xb := xb) hp' 0 h8 i ci hi (by omega)
        rw [Nat.zero_add] at hge
        rw [hbx]
        rcases getR k r hk with ⟨j, p1, p2, p3, p4⟩ | ⟨p1, p2, p3⟩
        · rw [p3, p4] at hf
          exact hm.br _ d j r b hge q1 p2 hf
        · exact (noFeet k r b p2 p3 hf).elim
      rr := fun k k' r r' b hk hk' hkk hown hf hf' => by
        rcases getR k r hk with ⟨j, p1, p2, p3, p4⟩ | ⟨p1, p2, p3⟩
        · rcases getR k' r' hk' with ⟨j', p1', p2', p3', p4'⟩ | ⟨p1', p2', p3'⟩
          · rw [p3, p4] at hf
            rw [p3', p4'] at hf'
            exact hm.rr j j' r r' b p2 p2' (usedR_inj (xr := xr) rows' 0 k k' r r' j j' h5 hk hk' hkk (by simpa using p1) (by simpa using p1')) hown hf hf'
          · exact noFeet k' r' b p2' p3' hf'
        · exact noFeet k r b p2 p3 hf
      args := fun k hk => by
        have := hfr k hk
        simp only [Asg.pull, this]
        exact hm.args k hk }
    klt := h.klt
    n0 := h11
    b0 := h12 }

/-- Which levels the new ones are, read off the frames and the boxes. -/
def setN {α : Type _} (d : Nat → α) : Nat → List α → Nat → α → List α
  | n, [], 0, v => [v]
  | n, [], i + 1, v => d n :: setN d (n + 1) [] i v
  | _, _ :: l, 0, v => v :: l
  | n, x :: l, i + 1, v => x :: setN d (n + 1) l i v
def gB (x y : AVal) (xb : List Nat) : List Nat :=
  match y, x with
  | .loc i _, .loc j _ => setN id 0 xb i j
  | .bsl i _, .bsl j _ => setN id 0 xb i j
  | _, _ => xb
def gR (x y : AVal) (xr : List (Option Nat)) : List (Option Nat) :=
  match y, x with
  | .row i, .row j => setN some 0 xr i (some j)
  | .row i, .raw (.slice none 0 0) => setN some 0 xr i none
  | .vw i _ _ _, .vw j _ _ _ => setN some 0 xr i (some j)
  | .irow i _, .irow j _ => setN some 0 xr i (some j)
  | _, _ => xr
def gBs : List AVal → List AVal → List Nat → List Nat
  | x :: l, y :: l', xb => gBs l l' (gB x y xb)
  | _, _, xb => xb
def gRs : List AVal → List AVal → List (Option Nat) → List (Option Nat)
  | x :: l, y :: l', xr => gRs l l' (gR x y xr)
  | _, _, xr => xr
def gHp (xb : List Nat) (hp : List (Option (List AVal))) : Nat → List (Option (List AVal)) → List (Option Nat) → List (Option Nat)
  | _, [], xr => xr
  | n, none :: l, xr => gHp xb hp (n + 1) l xr
  | n, some c :: l, xr => match nthj hp (bGet xb n) with | some d => gHp xb hp (n + 1) l (gRs d c xr) | none => gHp xb hp (n + 1) l xr
def forceB : List Nat → (List Nat → Prop) → Prop
  | [], k => k []
  | x :: l, k => forceN x fun x => forceB l fun l' => k (x :: l')
where forceN (n : Nat) (k : Nat → Prop) : Prop := match n with | 0 => k 0 | 1 => k 1 | 2 => k 2 | 3 => k 3 | 4 => k 4 | 5 => k 5 | 6 => k 6 | 7 => k 7 | 8 => k 8 | 9 => k 9 | 10 => k 10 | 11 => k 11 | 12 => k 12 | n => k n
theorem forceN_eq (n : Nat) (k : Nat → Prop) : forceB.forceN n k = k n := by unfold forceB.forceN; split <;> rfl
theorem forceB_eq : ∀ (l : List Nat) (k : List Nat → Prop), forceB l k = k l
  | [], _ => rfl
  | x :: l, k => by simp only [forceB, forceN_eq, forceB_eq l]
def forceR : List (Option Nat) → (List (Option Nat) → Prop) → Prop
  | [], k => k []
  | none :: l, k => forceR l fun l' => k (none :: l')
  | some x :: l, k => forceB.forceN x fun x => forceR l fun l' => k (some x :: l')
theorem forceR_eq : ∀ (l : List (Option Nat)) (k : List (Option Nat) → Prop), forceR l k = k l
  | [], _ => rfl
  | none :: l, k => by simp only [forceR, forceR_eq l]
  | some x :: l, k => by simp only [forceR, forceN_eq, forceR_eq l]
/-- Fewer facts, under a renaming that is read off. -/
def LeG (E : Env) (σ σ' : St) : Prop :=
  match σ, σ' with
  | ⟨fr, hp, rows⟩, ⟨fr', hp', rows'⟩ => forceB (gBs fr fr' []) fun xb => forceR (gHp xb hp 0 hp' (gRs fr fr' [])) fun xr => LeR E xb xr ⟨fr, hp, rows⟩ ⟨fr', hp', rows'⟩
theorem Sat.leG {E : Env} {A : Asg} {σ σ' : St} {a : Act} {w : World} (h : Sat E A σ a w) (hle : LeG E σ σ') : ∃ B, Sat E B σ' a w := by
  obtain ⟨fr, hp, rows⟩ := σ
  obtain ⟨fr', hp', rows'⟩ := σ'
  simp only [LeG, forceB_eq, forceR_eq] at hle
  exact ⟨_, h.leR hle⟩

/-- Code from a state with fewer facts. -/
theorem V_le {E : Env} {c : Code} {kN : St → Prop} {kE : Nat → St → Prop} {kR : St → Prop} {σ : St} (σ' : St) (hle : LeG E σ σ') (h : V E c kN kE kR σ') : V E c kN kE kR σ := ⟨fun Q h1 h2 h3 A a w hs => by
  obtain ⟨B, hs'⟩ := hs.leG hle
  exact h.out Q h1 h2 h3 B a w hs'⟩

/-- A loop: a state at its head for every ghost value of which the invariant holds; a round lowers the measure. -/
theorem V_loop {E : Env} {c : Code} {kN : St → Prop} {kE : Nat → St → Prop} {kR : St → Prop} {σ : St} {γ : Type} (σh : γ → St) (Inv : γ → Prop) (μ : γ → Nat) (g0 : γ) (h0 : Inv g0) (hle : LeG E σ (σh g0))
    (hb : ∀ g, Inv g → V E c (fun σ' => ∃ g', Inv g' ∧ μ g' < μ g ∧ LeG E σ' (σh g')) kE kR (σh g)) : V E (.loop c) kN kE kR σ := ⟨fun Q h1 h2 h3 A a w hs => by
  obtain ⟨B0, hs0⟩ := hs.leG hle
  refine wp_loop_ghost (fun n a w => ∃ g A, Inv g ∧ μ g = n ∧ Sat E A (σh g) a w) (μ g0) ⟨g0, B0, h0, rfl, hs0⟩ ?_
  rintro n a w ⟨g, A, hg, rfl, hs⟩
  refine (hb g hg).out _ ?_ ?_ ?_ A a w hs
  · rintro σ' ⟨g', hg', hlt, hle'⟩ B a' w' hs'
    obtain ⟨C, hs''⟩ := hs'.leG hle'
    exact ⟨μ g', hlt, g', C, hg', rfl, hs''⟩
  · intro i σ' hk B a' w' hs'; exact h2 i σ' hk B a' w' hs'
  · intro σ' hk B a' w' hs'; exact h3 σ' hk B a' w' hs'⟩

/-- The temporaries that code writes. -/
def opsDst : List Oper → List Nat
  | [] => []
  | o :: l => match o.dst with | some d => d :: opsDst l | none => opsDst l
def opsCond : List Oper → List Nat
  | [] => []
  | o :: l => opsCond l
def mods : Code → List Nat
  | .region _ ops _ => opsDst ops.toList
  | .seq a b => mods a ++ mods b
  | .cond c a b => mods a ++ mods b
  | .block _ c | .loop c | .scope c => mods c
  | _ => []
def junkAll : List Nat → List AVal → (List AVal → Prop) → Prop
  | [], l, k => k l
  | n :: ns, l, k => setK l n .junk fun l' => junkAll ns l' k

def junks : List AVal → List Nat → List AVal
  | l, [] => l
  | l, n :: ns => junks (l.set n .junk) ns
def setAll {α : Type} : List α → List (Nat × α) → List α
  | l, [] => l
  | l, (n, v) :: r => setAll (l.set n v) r
/-- The state at a loop's head: what the round writes is forgotten, but for what is told. -/
def St.head (σ : St) (js : List Nat) (vs : List (Nat × AVal)) (hs : List (Nat × List AVal)) (rs : List (Nat × Option Row)) : St :=
  ⟨setAll (junks σ.fr js) vs, setAll σ.hp (hs.map fun p => (p.1, some p.2)), setAll σ.rows rs⟩

/-- the same, laid out -/
def setAllK {α : Type} : List (Nat × α) → List α → (List α → Prop) → Prop
  | [], l, k => k l
  | (n, v) :: r, l, k => setK l n v fun l' => setAllK r l' k
theorem setAllK_eq {α : Type} : ∀ (r : List (Nat × α)) (l : List α) (k : List α → Prop), setAllK r l k = k (setAll l r)
  | [], _, _ => rfl
  | (n, v) :: r, l, k => by simp only [setAllK, setK_eq, setAllK_eq r, setAll]
theorem junkAll_eq : ∀ (js : List Nat) (l : List AVal) (k : List AVal → Prop), junkAll js l k = k (junks l js)
  | [], _, _ => rfl
  | n :: ns, l, k => by simp only [junkAll, setK_eq, junkAll_eq ns, junks]
def headK (σ : St) (js : List Nat) (vs : List (Nat × AVal)) (hs : List (Nat × List AVal)) (rs : List (Nat × Option Row)) (k : St → Prop) : Prop :=
  match σ with
  | ⟨fr, hp, rows⟩ => junkAll js fr fun fr => setAllK vs fr fun fr => setAllK (hs.map fun p => (p.1, some p.2)) hp fun hp => setAllK rs rows fun rows => k ⟨fr, hp, rows⟩
theorem headK_eq (σ : St) (js : List Nat) (vs : List (Nat × AVal)) (hs : List (Nat × List AVal)) (rs : List (Nat × Option Row)) (k : St → Prop) : headK σ js vs hs rs k = k (σ.head js vs hs rs) := by
  obtain ⟨fr, hp, rows⟩ := σ
  simp only [headK, junkAll_eq, setAllK_eq, St.head]

theorem V_loopH {E : Env} {c : Code} {kN : St → Prop} {kE : Nat → St → Prop} {kR : St → Prop} {σ : St} {γ : Type} (Inv : γ → Prop) (μ : γ → Nat) (vs : γ → List (Nat × AVal)) (hs : γ → List (Nat × List AVal)) (rs : γ → List (Nat × Option Row))
    (g0 : γ) (h0 : Inv g0) (hle : headK σ (mods c) (vs g0) (hs g0) (rs g0) fun σh => LeG E σ σh)
    (hb : ∀ g, Inv g → headK σ (mods c) (vs g) (hs g) (rs g) fun σh => V E c (fun σ' => ∃ g', Inv g' ∧ μ g' < μ g ∧ headK σ (mods c) (vs g') (hs g') (rs g') fun σh' => LeG E σ' σh') kE kR σh) : V E (.loop c) kN kE kR σ := by
  simp only [headK_eq] at hle hb
  exact V_loop (fun g => σ.head (mods c) (vs g) (hs g) (rs g)) Inv μ g0 h0 hle hb

/-! ### results -/
def resA (T : TypeId → Option TInfo) (fr : List AVal) (hp : List (Option (List AVal))) : List ResultVar → (List AVal → Prop) → Prop
  | [], k => k []
  | .tmp t :: l, k => with1 fr (.tmp t) fun v => resA T fr hp l fun vs => k (v :: vs)
  | .cell a ty :: l, k => with1 fr (.tmp a) fun x => match x with
    | .loc i off => (match nthj hp i with
      | some cs => (match T ty with
        | some ti => partA ti.agg ti.size cs off fun v => resA T fr hp l fun vs => k (v :: vs)
        | none => False)
      | none => False)
    | _ => False

/-- What the function hands back at this state, and what is left to show of it. -/
structure Leaf (E : Env) (R : Ending → World → Prop) (hp : List (Option (List AVal))) (rows : List (Option Row)) (v : AVal) : Prop where
  out : ∀ A w, Mem E A (nthj hp) (nthj rows) w → R (.returned (v.den A)) w

def retA (E : Env) (T : TypeId → Option TInfo) (rs : List ResultVar) (R : Ending → World → Prop) (σ : St) : Prop :=
  match σ with
  | ⟨fr, hp, rows⟩ => resA T fr hp rs fun vs => (match vs with
    | [v] => Leaf E R hp rows v
    | vs => Leaf E R hp rows (.tup vs))

def resV (tmps : Array Value) : ResultVar → Sem Value
  | .tmp t => pure (tmps.getD t undef)
  | .cell a t => do loadVar t (← asAddr (tmps.getD a undef))
theorem results_eq (fn : Func) (tmps : Array Value) : results fn tmps = (do
    let vs ← fn.results.mapM (resV tmps)
    pure (if h : vs.size = 1 then vs[0] else .tuple vs)) := by
  unfold results
  congr 1

theorem resA_sound {E : Env} {T : TypeId → Option TInfo} (hT : TOk E.P T) {A : Asg} {σ : St} {a : Act} {w : World} (hs : Sat E A σ a w) : ∀ (l : List ResultVar) (k : List AVal → Prop), resA T σ.fr σ.hp l k →
    ∃ vs, k vs ∧ vs.length = l.length ∧ (l.mapM (resV a.tmps)).run E.P w = .ok (dens A vs) w
  | [], k, h => ⟨[], h, rfl, by simp [dens]⟩
  | .tmp t :: l, k, h => by
    simp only [resA] at h
    obtain ⟨v, hv, h⟩ := with1_eq h
    obtain ⟨vs, hk, hl, hr⟩ := resA_sound hT hs l _ h
    have ev := ev_sound hs hv
    simp only [Act.eval] at ev
    refine ⟨v :: vs, hk, by simp [hl], ?_⟩
    simp only [List.mapM_cons, Sem.run_bind, resV, Sem.run_pure, Result.andThen_ok, hr, ev, dens]
  | .cell x ty :: l, k, h => by
    simp only [resA] at h
    obtain ⟨v, hv, h⟩ := with1_eq h
    have ev := ev_sound hs hv
    simp only [Act.eval] at ev
    split at h
    · rename_i i off
      cases hi : nthj σ.hp i with
      | none => simp [hi] at h
      | some cs =>
        simp only [hi] at h
        cases ht : T ty with
        | none => simp [ht] at h
        | some ti =>
          simp only [ht] at h
          obtain ⟨u, h, hu⟩ := loadVar_sound (hT _ _ ht) h
          obtain ⟨vs, hk, hl, hr⟩ := resA_sound hT hs l _ h
          obtain ⟨⟨t', hbx⟩, _⟩ := hs.mem.box i cs hi
          have hl' := hu A w ⟨A.bx i, 0, none⟩ (fun j c hj => by
            have : (⟨A.bx i, 0, none⟩ : Addr).add j = ⟨A.bx i, j, none⟩ := by unfold Addr.add; split <;> simp_all
            rw [this]
            simp [World.cell?, hbx, dens_eq, hj])
          have hadd : (⟨A.bx i, 0, none⟩ : Addr).add off = ⟨A.bx i, off, none⟩ := by unfold Addr.add; split <;> simp_all
          rw [hadd] at hl'
          refine ⟨u :: vs, hk, by simp [hl], ?_⟩
          simp only [List.mapM_cons, Sem.run_bind, resV, ev, AVal.den]
          simp only [asAddr, Sem.run_pure, Result.andThen_ok, hl', hr, dens]
    · exact h.elim

theorem retA_sound {E : Env} {T : TypeId → Option TInfo} (hT : TOk E.P T) {fn : Func} {R : Ending → World → Prop} {σ : St} (h : retA E T fn.results.toList R σ) {A : Asg} {a : Act} {w : World} (hs : Sat E A σ a w) :
    a.defers = [] ∧ ∃ v, (results fn a.tmps).run E.P w = .ok v w ∧ R (.returned v) w := by
  obtain ⟨fr, hp, rows⟩ := σ
  obtain ⟨vs, hk, hl, hr⟩ := resA_sound hT hs fn.results.toList _ h
  refine ⟨hs.defers, ?_⟩
  have hm : (fn.results.mapM (resV a.tmps)).run E.P w = .ok (dens A vs).toArray w := by
    rw [Array.mapM_eq_mapM_toList, Sem.run_map, hr]
    rfl
  rw [results_eq, Sem.run_bind, hm, Result.andThen_ok]
  split at hk
  · rename_i v
    exact ⟨v.den A, by simp [dens], hk.out A w hs.mem⟩
  · rename_i hne
    refine ⟨(AVal.tup vs).den A, ?_, hk.out A w hs.mem⟩
    have : (dens A vs).toArray.size ≠ 1 := by
      simp only [List.size_toArray, dens_eq, List.length_map]
      intro h1
      obtain ⟨v, rfl⟩ := List.length_eq_one_iff.1 h1
      exact hne v rfl
    simp only [this, dif_neg, not_false_eq_true, AVal.den]
    rfl

/-- The frame at the start of a function. -/
theorem Sat.start {E : Env} {A : Asg} {vals : List AVal} {rows : List (Option Row)} {hp : List (Option (List AVal))} {w : World} {fn : Func} {args : Array Value} (hsc : scs hp.length [] rows.length [] vals = true) (hargs : args = (dens A vals).toArray) (hlen : vals.length ≤ fn.ntmps) (hpsc : scO hp.length rows.length hp = true)
    (hm : Mem E A (nthj hp) (nthj rows) w) (hK : ∀ b, E.K b → b < w.heap.size) (hn0 : E.n0 ≤ rows.length) (hb0 : E.b0 ≤ hp.length) :
    Sat E A ⟨vals ++ List.replicate (fn.ntmps - vals.length) .junk, hp, rows⟩ { tmps := args ++ Array.replicate (fn.ntmps - args.size) undef, defers := [] } w := by
  have hl : (dens A vals).length = vals.length := by rw [dens_eq]; simp
  rw [scs_all] at hsc
  exact {
    defers := rfl
    size := by subst hargs; simp [hl]
    fr := fun t x hx => by
      subst hargs
      simp only [List.getElem?_append] at hx
      split at hx
      · rename_i hlt
        refine .inr ?_
        have : t < (dens A vals).length := by rw [hl]; exact hlt
        have hx' : vals[t] = x := by rw [List.getElem?_eq_getElem hlt] at hx; exact Option.some.inj hx
        simp [Array.getD_eq_getD_getElem?, Array.getElem?_append, this, dens_eq, hlt, hx']
      · rw [List.getElem?_replicate] at hx
        split at hx
        · cases hx; exact .inl rfl
        · cases hx
    sc := fun t x hx => by
      simp only [List.getElem?_append] at hx
      split at hx
      · exact hsc x (List.mem_of_getElem? hx)
      · rw [List.getElem?_replicate] at hx
        split at hx
        · cases hx; simp [AVal.sc]
        · cases hx
    hsc := fun i cs hi => scO_spec hp hpsc i cs hi
    mem := hm
    klt := hK
    n0 := hn0
    b0 := hb0 }

/-- Entering a function. -/
theorem enter {P : Program} {T : TypeId → Option TInfo} {G : List (FuncId × Ctr)} (hT : TOk P T) (hG : GOk P G) {f : FuncId} {fn : Func} {c : Code} (hf : P.funcs[f]? = some fn) (hb : fn.body = some c)
    {K : Nat → Prop} {w : World} (hK : ∀ b, K b → b < w.heap.size) {A : Asg} {vals : List AVal} {rows : List (Option Row)} {R : Ending → World → Prop} {hp : List (Option (List AVal))} {b0 : Nat} (hb0 : b0 = hp.length) {n0 : Nat} (hn0 : n0 ≤ rows.length)
    (hbox : ∀ i cs, nthj hp i = some cs → BoxAt A w (A.bx i) cs ∧ K (A.bx i)) (hpsc : scO hp.length rows.length hp = true)
    (hrows : ∀ k r, nthj rows k = some r → r.own = false ∧ RowsAt w (A.rw k) (A.inn k) r)
    (hsc : scs hp.length [] rows.length [] vals = true) {args : Array Value} (hargs : args = (dens A vals).toArray) (hlen : vals.length ≤ fn.ntmps)
    (h : vcCode ⟨P, w, K, A.rw, n0, b0⟩ T G c (retA ⟨P, w, K, A.rw, n0, b0⟩ T fn.results.toList R) (fun _ _ => False) (retA ⟨P, w, K, A.rw, n0, b0⟩ T fn.results.toList R) ⟨vals ++ List.replicate (fn.ntmps - vals.length) .junk, hp, rows⟩) :
    Calls P f args w R := by
  refine calls_of_wp hf hb ?_
  have hs := Sat.start (E := ⟨P, w, K, A.rw, n0, b0⟩) (fn := fn) hsc hargs hlen hpsc {
    kept := Kept.refl _ _
    box := fun i cs hi => ⟨(hbox i cs hi).1, fun _ => (hbox i cs hi).2, fun h0 => by rw [hb0] at h0; rw [nthj_none h0] at hi; cases hi⟩
    row := fun k r hk => ⟨(hrows k r hk).2, fun ho => by rw [(hrows k r hk).1] at ho; cases ho⟩
    bb := fun i j ci cj h0 hi => by simp only [hb0] at h0; rw [nthj_none h0] at hi; cases hi
    br := fun i ci k r b h0 hi => by simp only [hb0] at h0; rw [nthj_none h0] at hi; cases hi
    rr := fun k k' r r' b hk _ _ ho => by rw [(hrows k r hk).1] at ho; cases ho
    args := fun k _ => rfl } hK hn0 (Nat.le_of_eq hb0)
  refine (vcCode_sound (E := ⟨P, w, K, A.rw, n0, b0⟩) hT hG c _ _ _ _ h).out (bodyPost P fn R) ?_ ?_ ?_ A _ w hs
  · intro σ' hk B a' w' hs'; exact retA_sound hT hk hs'
  · intro i σ' hk; exact hk.elim
  · intro σ' hk B a' w' hs'; exact retA_sound hT hk hs'

/-- What stays when rows of the caller's own are turned. -/
def keptM (A : Asg) (rows : List (Option Row)) (w : World) (b : Nat) : Prop := b < w.heap.size ∧ ¬ ∃ k r, nthj rows k = some r ∧ r.own = true ∧ Feet r (A.rw k) (A.inn k) b

/-- Entering a function that turns rows. -/
theorem enterM {P : Program} {T : TypeId → Option TInfo} {G : List (FuncId × Ctr)} (hT : TOk P T) (hG : GOk P G) {f : FuncId} {fn : Func} {c : Code} (hf : P.funcs[f]? = some fn) (hb : fn.body = some c)
    {w : World} {A : Asg} {vals : List AVal} {rows : List (Option Row)} {R : Ending → World → Prop} {hp : List (Option (List AVal))} {b0 : Nat} (hb0 : b0 = hp.length) {n0 : Nat} (hn0 : n0 ≤ rows.length)
    (hcm : CMem A (nthj hp) (nthj rows) w) (hpsc : scO hp.length rows.length hp = true)
    (hsc : scs hp.length [] rows.length [] vals = true) {args : Array Value} (hargs : args = (dens A vals).toArray) (hlen : vals.length ≤ fn.ntmps)
    (h : vcCode ⟨P, w, keptM A rows w, A.rw, n0, b0⟩ T G c (retA ⟨P, w, keptM A rows w, A.rw, n0, b0⟩ T fn.results.toList R) (fun _ _ => False) (retA ⟨P, w, keptM A rows w, A.rw, n0, b0⟩ T fn.results.toList R) ⟨vals ++ List.replicate (fn.ntmps - vals.length) .junk, hp, rows⟩) :
    Calls P f args w R := by
  refine calls_of_wp hf hb ?_
  have hs := Sat.start (E := ⟨P, w, keptM A rows w, A.rw, n0, b0⟩) (fn := fn) hsc hargs hlen hpsc {
    kept := Kept.refl _ _
    box := fun i cs hi => ⟨hcm.box i cs hi, fun _ => ⟨by obtain ⟨t, ht⟩ := hcm.box i cs hi; exact lt_of_heap ht, fun ⟨k, r, h1, h2, h3⟩ => hcm.br i cs k r _ hi h1 h2 h3 rfl⟩, fun h0 => by rw [hb0] at h0; rw [nthj_none h0] at hi; cases hi⟩
    row := fun k r hk => ⟨(hcm.row k r hk).1, fun ho => ⟨(hcm.row k r hk).2 ho, fun b hb hK => hK.2 ⟨k, r, hk, ho, hb⟩⟩⟩
    bb := fun i j ci cj h0 hi => by simp only [hb0] at h0; rw [nthj_none h0] at hi; cases hi
    br := fun i ci k r b h0 hi => by simp only [hb0] at h0; rw [nthj_none h0] at hi; cases hi
    rr := hcm.rr
    args := fun k _ => rfl } (fun b hb => hb.1) hn0 (Nat.le_of_eq hb0)
  refine (vcCode_sound (E := ⟨P, w, keptM A rows w, A.rw, n0, b0⟩) hT hG c _ _ _ _ h).out (bodyPost P fn R) ?_ ?_ ?_ A _ w hs
  · intro σ' hk B a' w' hs'; exact retA_sound hT hk hs'
  · intro i σ' hk; exact hk.elim
  · intro σ' hk B a' w' hs'; exact retA_sound hT hk hs'

end Go.Proofs.Ytlplngafncobkaa.Fw
