/- Entering a function, leaving it, loops. -/
import Derived.Test.YtlplngafncobkaaFwP
import Derived.Deep.LoopGhost
namespace Go.Proofs.Ytlplngafncobkaa.Fw
open Go Go.RowKit
set_option linter.unusedVariables false
set_option linter.unusedSimpArgs false

/-! ### fewer facts -/
def leFr : List AVal → List AVal → Prop
  | l, y :: l' => match y, l with
    | .junk, _ :: l => leFr l l'
    | y, x :: l => x = y ∧ leFr l l'
    | _, [] => False
  | [], [] => True
  | _ :: _, [] => False
def leO {α : Type} : List (Option α) → List (Option α) → Prop
  | _, [] => True
  | [], none :: l' => leO [] l'
  | _ :: l, none :: l' => leO l l'
  | x :: l, some y :: l' => x = some y ∧ leO l l'
  | [], some _ :: _ => False

def scO (nb nr : Nat) : List (Option (List AVal)) → Bool
  | [] => true
  | none :: l => scO nb nr l
  | some c :: l => match scs nb [] nr [] c with | true => scO nb nr l | false => false

def Le (E : Env) (σ σ' : St) : Prop :=
  match σ, σ' with
  | ⟨fr, hp, rows⟩, ⟨fr', hp', rows'⟩ => leFr fr fr' ∧ leO hp hp' ∧ leO rows rows' ∧ scs (lenN hp') [] (lenN rows') [] fr' = true ∧ scO (lenN hp') (lenN rows') hp' = true ∧ E.n0 ≤ lenN rows' ∧ E.b0 ≤ lenN hp'

theorem leFr_spec : ∀ (l l' : List AVal), leFr l l' → l.length = l'.length ∧ ∀ (t : Nat) (y : AVal), l'[t]? = some y → y = .junk ∨ l[t]? = some y
  | [], [], _ => ⟨rfl, fun t y h => by simp at h⟩
  | x :: l, [], h => h.elim
  | l, y :: l', h => by
    unfold leFr at h
    split at h
    · rename_i x l
      obtain ⟨h1, h2⟩ := leFr_spec l l' h
      refine ⟨by simp [h1], fun t z hz => ?_⟩
      cases t with
      | zero => simp at hz; exact .inl hz.symm
      | succ t => simpa using h2 t z (by simpa using hz)
    · rename_i x l _
      obtain ⟨hxy, h⟩ := h
      subst hxy
      obtain ⟨h1, h2⟩ := leFr_spec l l' h
      refine ⟨by simp [h1], fun t z hz => ?_⟩
      cases t with
      | zero => simp at hz; exact .inr (by simp [hz])
      | succ t => simpa using h2 t z (by simpa using hz)
    · exact h.elim

theorem leO_spec {α : Type} : ∀ (l l' : List (Option α)), leO l l' → ∀ (t : Nat) (y : α), nthj l' t = some y → nthj l t = some y
  | l, [], _, t, y, h => by simp [nthj] at h
  | [], none :: l', h, t, y, hy => by
    cases t with
    | zero => simp [nthj] at hy
    | succ t => have := leO_spec [] l' (by simpa [leO] using h) t y (by simpa [nthj] using hy); simp [nthj] at this
  | x :: l, none :: l', h, t, y, hy => by
    cases t with
    | zero => simp [nthj] at hy
    | succ t => simpa [nthj] using leO_spec l l' (by simpa [leO] using h) t y (by simpa [nthj] using hy)
  | x :: l, some z :: l', h, t, y, hy => by
    simp only [leO] at h
    cases t with
    | zero => simp [nthj] at hy ⊢; rw [h.1, hy]
    | succ t => simpa [nthj] using leO_spec l l' h.2 t y (by simpa [nthj] using hy)
  | [], some _ :: _, h, t, y, hy => by simp [leO] at h

theorem scO_spec {nb nr : Nat} : ∀ (l : List (Option (List AVal))), scO nb nr l = true → ∀ i cs, nthj l i = some cs → scs nb [] nr [] cs = true
  | [], _, i, cs, h => by simp [nthj] at h
  | none :: l, hs, i, cs, h => by
    cases i with
    | zero => simp [nthj] at h
    | succ i => exact scO_spec l (by simpa [scO] using hs) i cs (by simpa [nthj] using h)
  | some c :: l, hs, i, cs, h => by
    simp only [scO] at hs
    split at hs
    · rename_i hc
      cases i with
      | zero => simp [nthj] at h; subst h; exact hc
      | succ i => exact scO_spec l hs i cs (by simpa [nthj] using h)
    · cases hs

theorem Sat.le {E : Env} {A : Asg} {σ σ' : St} {a : Act} {w : World} (h : Sat E A σ a w) (hle : Le E σ σ') : Sat E A σ' a w := by
  obtain ⟨fr, hp, rows⟩ := σ
  obtain ⟨fr', hp', rows'⟩ := σ'
  simp only [Le, lenN_eq] at hle
  obtain ⟨h1, h2, h3, h4, h5, h6, h7⟩ := hle
  obtain ⟨hl, hf⟩ := leFr_spec _ _ h1
  rw [scs_all] at h4
  exact {
    defers := h.defers
    size := h.size.trans hl
    fr := fun t y hy => (hf t y hy).elim .inl (fun e => h.fr t y e)
    sc := fun t y hy => h4 y (List.mem_of_getElem? hy)
    hsc := fun i cs hi => scO_spec hp' h5 i cs hi
    mem := h.mem.sub (fun i c hi => leO_spec _ _ h2 i c hi) (fun k r hk => leO_spec _ _ h3 k r hk)
    klt := h.klt
    n0 := h6
    b0 := h7 }

theorem At.le {E : Env} {Q : Exit → Act → World → Prop} {e : Exit} {σ σ' : St} (hle : Le E σ σ') (h : At E Q e σ') : At E Q e σ := fun A a w hs => h A a w (hs.le hle)

/-- A loop: a state at its head for every ghost value of which the invariant holds; a round lowers the measure. -/
theorem V_loop {E : Env} {c : Code} {kN : St → Prop} {kE : Nat → St → Prop} {kR : St → Prop} {σ : St} {γ : Type} (σh : γ → St) (Inv : γ → Prop) (μ : γ → Nat) (g0 : γ) (h0 : Inv g0) (hle : Le E σ (σh g0))
    (hb : ∀ g, Inv g → V E c (fun σ' => ∃ g', Inv g' ∧ μ g' < μ g ∧ Le E σ' (σh g')) kE kR (σh g)) : V E (.loop c) kN kE kR σ := ⟨fun Q h1 h2 h3 A a w hs => by
  refine wp_loop_ghost (fun n a w => ∃ g A, Inv g ∧ μ g = n ∧ Sat E A (σh g) a w) (μ g0) ⟨g0, A, h0, rfl, hs.le hle⟩ ?_
  rintro n a w ⟨g, A, hg, rfl, hs⟩
  refine (hb g hg).out _ ?_ ?_ ?_ A a w hs
  · rintro σ' ⟨g', hg', hlt, hle'⟩ B a' w' hs'
    exact ⟨μ g', hlt, g', B, hg', rfl, hs'.le hle'⟩
  · intro i σ' hk B a' w' hs'; exact h2 i σ' hk B a' w' hs'
  · intro σ' hk B a' w' hs'; exact h3 σ' hk B a' w' hs'⟩

/-- The temporaries that code writes. -/
def opsDst : List Oper → List Nat
  | [] => []
  | o :: l => match o.dst with | some d => d :: opsDst l | none => opsDst l
def opsCond : List Oper → List Nat
  | [] => []
  | o :: l => opsCond l
def mods : Code → List Nat
  | .region _ ops _ => opsDst ops.toList
  | .seq a b => mods a ++ mods b
  | .cond c a b => mods a ++ mods b
  | .block _ c | .loop c | .scope c => mods c
  | _ => []
def junkAll : List Nat → List AVal → (List AVal → Prop) → Prop
  | [], l, k => k l
  | n :: ns, l, k => setK l n .junk fun l' => junkAll ns l' k

def junks : List AVal → List Nat → List AVal
  | l, [] => l
  | l, n :: ns => junks (l.set n .junk) ns
def setAll {α : Type} : List α → List (Nat × α) → List α
  | l, [] => l
  | l, (n, v) :: r => setAll (l.set n v) r
/-- The state at a loop's head: what the round writes is forgotten, but for what is told. -/
def St.head (σ : St) (js : List Nat) (vs : List (Nat × AVal)) (hs : List (Nat × List AVal)) (rs : List (Nat × Option Row)) : St :=
  ⟨setAll (junks σ.fr js) vs, setAll σ.hp (hs.map fun p => (p.1, some p.2)), setAll σ.rows rs⟩

/-- the same, laid out -/
def setAllK {α : Type} : List (Nat × α) → List α → (List α → Prop) → Prop
  | [], l, k => k l
  | (n, v) :: r, l, k => setK l n v fun l' => setAllK r l' k
theorem setAllK_eq {α : Type} : ∀ (r : List (Nat × α)) (l : List α) (k : List α → Prop), setAllK r l k = k (setAll l r)
  | [], _, _ => rfl
  | (n, v) :: r, l, k => by simp only [setAllK, setK_eq, setAllK_eq r, setAll]
theorem junkAll_eq : ∀ (js : List Nat) (l : List AVal) (k : List AVal → Prop), junkAll js l k = k (junks l js)
  | [], _, _ => rfl
  | n :: ns, l, k => by simp only [junkAll, setK_eq, junkAll_eq ns, junks]
def headK (σ : St) (js : List Nat) (vs : List (Nat × AVal)) (hs : List (Nat × List AVal)) (rs : List (Nat × Option Row)) (k : St → Prop) : Prop :=
  match σ with
  | ⟨fr, hp, rows⟩ => junkAll js fr fun fr => setAllK vs fr fun fr => setAllK (hs.map fun p => (p.1, some p.2)) hp fun hp => setAllK rs rows fun rows => k ⟨fr, hp, rows⟩
theorem headK_eq (σ : St) (js : List Nat) (vs : List (Nat × AVal)) (hs : List (Nat × List AVal)) (rs : List (Nat × Option Row)) (k : St → Prop) : headK σ js vs hs rs k = k (σ.head js vs hs rs) := by
  obtain ⟨fr, hp, rows⟩ := σ
  simp only [headK, junkAll_eq, setAllK_eq, St.head]

theorem V_loopH {E : Env} {c : Code} {kN : St → Prop} {kE : Nat → St → Prop} {kR : St → Prop} {σ : St} {γ : Type} (Inv : γ → Prop) (μ : γ → Nat) (vs : γ → List (Nat × AVal)) (hs : γ → List (Nat × List AVal)) (rs : γ → List (Nat × Option Row))
    (g0 : γ) (h0 : Inv g0) (hle : headK σ (mods c) (vs g0) (hs g0) (rs g0) fun σh => Le E σ σh)
    (hb : ∀ g, Inv g → headK σ (mods c) (vs g) (hs g) (rs g) fun σh => V E c (fun σ' => ∃ g', Inv g' ∧ μ g' < μ g ∧ headK σ (mods c) (vs g') (hs g') (rs g') fun σh' => Le E σ' σh') kE kR σh) : V E (.loop c) kN kE kR σ := by
  simp only [headK_eq] at hle hb
  exact V_loop (fun g => σ.head (mods c) (vs g) (hs g) (rs g)) Inv μ g0 h0 hle hb

/-! ### results -/
def resA (T : TypeId → Option TInfo) (fr : List AVal) (hp : List (Option (List AVal))) : List ResultVar → (List AVal → Prop) → Prop
  | [], k => k []
  | .tmp t :: l, k => with1 fr (.tmp t) fun v => resA T fr hp l fun vs => k (v :: vs)
  | .cell a ty :: l, k => with1 fr (.tmp a) fun x => match x with
    | .loc i off => (match nthj hp i with
      | some cs => (match T ty with
        | some ti => partA ti.agg ti.size cs off fun v => resA T fr hp l fun vs => k (v :: vs)
        | none => False)
      | none => False)
    | _ => False

/-- What the function hands back at this state, and what is left to show of it. -/
structure Leaf (E : Env) (R : Ending → World → Prop) (hp : List (Option (List AVal))) (rows : List (Option Row)) (v : AVal) : Prop where
  out : ∀ A w, Mem E A (nthj hp) (nthj rows) w → R (.returned (v.den A)) w

def retA (E : Env) (T : TypeId → Option TInfo) (rs : List ResultVar) (R : Ending → World → Prop) (σ : St) : Prop :=
  match σ with
  | ⟨fr, hp, rows⟩ => resA T fr hp rs fun vs => (match vs with
    | [v] => Leaf E R hp rows v
    | vs => Leaf E R hp rows (.tup vs))

def resV (tmps : Array Value) : ResultVar → Sem Value
  | .tmp t => pure (tmps.getD t undef)
  | .cell a t => do loadVar t (← asAddr (tmps.getD a undef))
theorem results_eq (fn : Func) (tmps : Array Value) : results fn tmps = (do
    let vs ← fn.results.mapM (resV tmps)
    pure (if h : vs.size = 1 then vs[0] else .tuple vs)) := by
  unfold results
  congr 1

theorem resA_sound {E : Env} {T : TypeId → Option TInfo} (hT : TOk E.P T) {A : Asg} {σ : St} {a : Act} {w : World} (hs : Sat E A σ a w) : ∀ (l : List ResultVar) (k : List AVal → Prop), resA T σ.fr σ.hp l k →
    ∃ vs, k vs ∧ vs.length = l.length ∧ (l.mapM (resV a.tmps)).run E.P w = .ok (dens A vs) w
  | [], k, h => ⟨[], h, rfl, by simp [dens]⟩
  | .tmp t :: l, k, h => by
    simp only [resA] at h
    obtain ⟨v, hv, h⟩ := with1_eq h
    obtain ⟨vs, hk, hl, hr⟩ := resA_sound hT hs l _ h
    have ev := ev_sound hs hv
    simp only [Act.eval] at ev
    refine ⟨v :: vs, hk, by simp [hl], ?_⟩
    simp only [List.mapM_cons, Sem.run_bind, resV, Sem.run_pure, Result.andThen_ok, hr, ev, dens]
  | .cell x ty :: l, k, h => by
    simp only [resA] at h
    obtain ⟨v, hv, h⟩ := with1_eq h
    have ev := ev_sound hs hv
    simp only [Act.eval] at ev
    split at h
    · rename_i i off
      cases hi : nthj σ.hp i with
      | none => simp [hi] at h
      | some cs =>
        simp only [hi] at h
        cases ht : T ty with
        | none => simp [ht] at h
        | some ti =>
          simp only [ht] at h
          obtain ⟨u, h, hu⟩ := loadVar_sound (hT _ _ ht) h
          obtain ⟨vs, hk, hl, hr⟩ := resA_sound hT hs l _ h
          obtain ⟨⟨t', hbx⟩, _⟩ := hs.mem.box i cs hi
          have hl' := hu A w ⟨A.bx i, 0, none⟩ (fun j c hj => by
            have : (⟨A.bx i, 0, none⟩ : Addr).add j = ⟨A.bx i, j, none⟩ := by unfold Addr.add; split <;> simp_all
            rw [this]
            simp [World.cell?, hbx, dens_eq, hj])
          have hadd : (⟨A.bx i, 0, none⟩ : Addr).add off = ⟨A.bx i, off, none⟩ := by unfold Addr.add; split <;> simp_all
          rw [hadd] at hl'
          refine ⟨u :: vs, hk, by simp [hl], ?_⟩
          simp only [List.mapM_cons, Sem.run_bind, resV, ev, AVal.den]
          simp only [asAddr, Sem.run_pure, Result.andThen_ok, hl', hr, dens]
    · exact h.elim

theorem retA_sound {E : Env} {T : TypeId → Option TInfo} (hT : TOk E.P T) {fn : Func} {R : Ending → World → Prop} {σ : St} (h : retA E T fn.results.toList R σ) {A : Asg} {a : Act} {w : World} (hs : Sat E A σ a w) :
    a.defers = [] ∧ ∃ v, (results fn a.tmps).run E.P w = .ok v w ∧ R (.returned v) w := by
  obtain ⟨fr, hp, rows⟩ := σ
  obtain ⟨vs, hk, hl, hr⟩ := resA_sound hT hs fn.results.toList _ h
  refine ⟨hs.defers, ?_⟩
  have hm : (fn.results.mapM (resV a.tmps)).run E.P w = .ok (dens A vs).toArray w := by
    rw [Array.mapM_eq_mapM_toList, Sem.run_map, hr]
    rfl
  rw [results_eq, Sem.run_bind, hm, Result.andThen_ok]
  split at hk
  · rename_i v
    exact ⟨v.den A, by simp [dens], hk.out A w hs.mem⟩
  · rename_i hne
    refine ⟨(AVal.tup vs).den A, ?_, hk.out A w hs.mem⟩
    have : (dens A vs).toArray.size ≠ 1 := by
      simp only [List.size_toArray, dens_eq, List.length_map]
      intro h1
      obtain ⟨v, rfl⟩ := List.length_eq_one_iff.1 h1
      exact hne v rfl
    simp only [this, dif_neg, not_false_eq_true, AVal.den]
    rfl

/-- Entering a function. -/
theorem enter {P : Program} {T : TypeId → Option TInfo} {G : List (FuncId × PCtr)} (hT : TOk P T) (hG : GOk P G) {f : FuncId} {fn : Func} {c : Code} (hf : P.funcs[f]? = some fn) (hb : fn.body = some c)
    {K : Nat → Prop} {w : World} (hK : ∀ b, K b → b < w.heap.size) {A : Asg} {vals : List AVal} {rows : List (Option Row)} {R : Ending → World → Prop} {hp : List (Option (List AVal))} {b0 : Nat} (hb0 : b0 = hp.length) {n0 : Nat} (hn0 : n0 ≤ rows.length)
    (hbox : ∀ i cs, nthj hp i = some cs → BoxAt A w (A.bx i) cs ∧ K (A.bx i)) (hpsc : scO hp.length rows.length hp = true)
    (hrows : ∀ k r, nthj rows k = some r → r.own = false ∧ RowAt w (A.rw k) r)
    (hsc : scs hp.length [] rows.length [] vals = true) {args : Array Value} (hargs : args = (dens A vals).toArray) (hlen : vals.length ≤ fn.ntmps)
    (h : vcCode ⟨P, w, K, A.rw, n0, b0⟩ T G c (retA ⟨P, w, K, A.rw, n0, b0⟩ T fn.results.toList R) (fun _ _ => False) (retA ⟨P, w, K, A.rw, n0, b0⟩ T fn.results.toList R) ⟨vals ++ List.replicate (fn.ntmps - vals.length) .junk, hp, rows⟩) :
    Calls P f args w R := by
  refine calls_of_wp hf hb ?_
  have hs : Sat ⟨P, w, K, A.rw, n0, b0⟩ A ⟨vals ++ List.replicate (fn.ntmps - vals.length) .junk, hp, rows⟩ { tmps := args ++ Array.replicate (fn.ntmps - args.size) undef, defers := [] } w := by
    have hl : (dens A vals).length = vals.length := by rw [dens_eq]; simp
    rw [scs_all] at hsc
    exact {
      defers := rfl
      size := by subst hargs; simp [hl]
      fr := fun t x hx => by
        subst hargs
        simp only [List.getElem?_append] at hx
        split at hx
        · rename_i hlt
          refine .inr ?_
          have : t < (dens A vals).length := by rw [hl]; exact hlt
          have hx' : vals[t] = x := by rw [List.getElem?_eq_getElem hlt] at hx; exact Option.some.inj hx
          simp [Array.getD_eq_getD_getElem?, Array.getElem?_append, this, dens_eq, hlt, hx']
        · rw [List.getElem?_replicate] at hx
          split at hx
          · cases hx; exact .inl rfl
          · cases hx
      sc := fun t x hx => by
        simp only [List.getElem?_append] at hx
        split at hx
        · exact hsc x (List.mem_of_getElem? hx)
        · rw [List.getElem?_replicate] at hx
          split at hx
          · cases hx; simp [AVal.sc]
          · cases hx
      hsc := fun i cs hi => scO_spec hp hpsc i cs hi
      mem := {
        kept := Kept.refl _ _
        box := fun i cs hi => ⟨(hbox i cs hi).1, fun _ => (hbox i cs hi).2, fun h0 => by rw [hb0] at h0; rw [nthj_none h0] at hi; cases hi⟩
        row := fun k r hk => ⟨(hrows k r hk).2, fun ho => by rw [(hrows k r hk).1] at ho; cases ho⟩
        bb := fun i j ci cj h0 hi => by simp only [hb0] at h0; rw [nthj_none h0] at hi; cases hi
        br := fun i ci k r b h0 hi => by simp only [hb0] at h0; rw [nthj_none h0] at hi; cases hi
        rr := fun k k' r r' b hk _ _ ho => by rw [(hrows k r hk).1] at ho; cases ho
        args := fun k _ => rfl }
      klt := hK
      n0 := hn0
      b0 := Nat.le_of_eq hb0 }
  have hv := (vcCode_sound (E := ⟨P, w, K, A.rw, n0, b0⟩) hT hG c _ _ _ _ h).out (bodyPost P fn R) ?_ ?_ ?_ A _ w hs
  · exact hv
  · intro σ' hk B a' w' hs'; exact retA_sound hT hk hs'
  · intro i σ' hk; exact hk.elim
  · intro σ' hk B a' w' hs'; exact retA_sound hT hk hs'

end Go.Proofs.Ytlplngafncobkaa.Fw
