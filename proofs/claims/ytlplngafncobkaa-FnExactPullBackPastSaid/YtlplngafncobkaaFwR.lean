/- A region that draws its order: what its first n operations do does not depend on the order; the rest comes behind them, in order. -/
import Derived.Test.YtlplngafncobkaaFwQ
import Derived.StillTail
namespace Go.Proofs.Ytlplngafncobkaa.Fw
open Go Go.RowKit
set_option linter.unusedVariables false
set_option linter.unusedSimpArgs false

/-- What the walk of the lexical order knows of an operation. -/
structure Rec where
  o : Oper
  fr : List AVal
  run : Bool
  eff : Eff
  lb : Nat
  lr : Nat
  ab : List Nat
  ar : List Nat
  sto : Option (Nat × List AVal)

def rangeL : Nat → Nat → List Nat
  | _, 0 => []
  | a, n + 1 => a :: rangeL (a + 1) n
def Rec.ob (r : Rec) : List Nat := match r.eff.box with | some _ => [r.lb] | none => []
def Rec.orw (r : Rec) : List Nat := rangeL r.lr (lenN r.eff.rows)

def bindsAny (e : Edge) : Bool := match e.ground with | .textOnly _ => false | .gcOnly _ => false | _ => true

def depB (D : List Rec) : List Edge → List Nat
  | [] => []
  | e :: l => match bindsAny e with
    | true => (match nth D e.on with | some r => r.ob ++ (r.ab ++ depB D l) | none => depB D l)
    | false => depB D l
def depR (D : List Rec) : List Edge → List Nat
  | [] => []
  | e :: l => match bindsAny e with
    | true => (match nth D e.on with | some r => r.orw ++ (r.ar ++ depR D l) | none => depR D l)
    | false => depR D l

def hgL {α : Type} (n : Nat) (ab : List Nat) (l : List (Option α)) : Nat → Option α := fun i => match lvl n ab i with | true => nthj l i | false => none

def copyN : List Nat → (List Nat → Prop) → Prop
  | [], k => k []
  | x :: l, k => numK x fun x => copyN l fun l' => k (x :: l')
theorem copyN_eq : ∀ (l : List Nat) (k : List Nat → Prop), copyN l k = k l
  | [], _ => rfl
  | x :: l, k => by simp only [copyN, numK_eq, copyN_eq l]

/-- one operation of the head, carried out -/
def headOne (T : TypeId → Option TInfo) (G : List (FuncId × Ctr)) (nb0 nr0 : Nat) (D : List Rec) (o : Oper) (fr : List AVal) (hp : List (Option (List AVal))) (rows : List (Option Row))
    (k : Rec → List AVal → List (Option (List AVal)) → List (Option Row) → Prop) : Prop :=
  lenK hp fun nb => lenK rows fun nr => copyN (depB D o.after.toList) fun ab => copyN (depR D o.after.toList) fun ar =>
  opEff T G (hgL nb0 ab hp) (hgL nr0 ar rows) nb nr fr o.op fun e =>
    match e with
    | ⟨box, rs, v⟩ => pushO hp box fun hp' => pushR rows rs fun rows' =>
      match v.sc nb0 (Rec.ob ⟨o, fr, true, ⟨box, rs, v⟩, nb, nr, [], [], none⟩ ++ ab) nr0 (Rec.orw ⟨o, fr, true, ⟨box, rs, v⟩, nb, nr, [], [], none⟩ ++ ar) with
      | true => (match (match box with | some cs => scs nb0 ab nr0 ar cs | none => true) with
        | true => (match o.dst with
          | none => k ⟨o, fr, true, ⟨box, rs, v⟩, nb, nr, ab, ar, none⟩ fr hp' rows'
          | some d => setK fr d v fun fr' => k ⟨o, fr, true, ⟨box, rs, v⟩, nb, nr, ab, ar, none⟩ fr' hp' rows')
        | false => False)
      | false => False

def headSkip (D : List Rec) (o : Oper) (fr : List AVal) (hp : List (Option (List AVal))) (rows : List (Option Row))
    (k : Rec → List AVal → List (Option (List AVal)) → List (Option Row) → Prop) : Prop :=
  match o.dst with
  | none => False
  | some d => lenK hp fun nb => lenK rows fun nr => setK fr d uV fun fr' => k ⟨o, fr, false, val uV, nb, nr, [], [], none⟩ fr' hp rows

/-- No store of the head goes to this level. -/
def noSto (l : Nat) : List Rec → Bool
  | [] => true
  | r :: D => match r.sto with
    | some (l', _) => (match Nat.beq l l' with | true => false | false => noSto l D)
    | none => noSto l D
/-- a store of the head into a box that was there, which nothing else of the head looks at -/
def headSto (T : TypeId → Option TInfo) (b0 nb0 nr0 : Nat) (hp0 old : List (Option (List AVal))) (D : List Rec) (o : Oper) (fr : List AVal) (hp : List (Option (List AVal))) (rows : List (Option Row))
    (k : Rec → List AVal → List (Option (List AVal)) → List (Option Row) → Prop) : Prop :=
  match o.op, o.dst with
  | .store t x v, none => with1 fr x fun xv => with1 fr v fun vv => (match xv with
    | .loc l 0 => (match Nat.ble b0 l with
      | true => (match nthj hp0 l with
        | some _ => False
        | none => (match nthj old l with
          | some oc => (match T t with
            | some ti => cellsA vv fun vs => (match Nat.beq (lenN vs) ti.size with
              | true => (match Nat.beq (lenN vs) (lenN oc) with
                | true => (match allOne vs with
                  | true => (match scs nb0 [] nr0 [] vs with
                    | true => (match noSto l D with
                      | true => lenK hp fun nb => lenK rows fun nr => k ⟨o, fr, true, ⟨none, [], .junk⟩, nb, nr, [], [], some (l, vs)⟩ fr hp rows
                      | false => False)
                    | false => False)
                  | false => False)
                | false => False)
              | false => False)
            | none => False)
          | none => False))
      | false => False)
    | _ => False)
  | _, _ => False
def isSto : Op → Bool
  | .store _ _ _ => true
  | _ => false
def putSto (hp : List (Option (List AVal))) (r : Rec) : List (Option (List AVal)) := match r.sto with | some (l, vs) => hp.set l (some vs) | none => hp
/-- the boxes at the head's end: the old ones, the new ones, the stores put in -/
def finS (old : List (Option (List AVal))) (D : List Rec) (hp : List (Option (List AVal))) : List (Option (List AVal)) := D.foldl putSto (old ++ hp.drop old.length)
def appK {α : Type} : List α → List α → (List α → Prop) → Prop
  | [], m, k => k m
  | x :: l, m, k => appK l m fun l' => k (x :: l')
theorem appK_eq {α : Type} : ∀ (l m : List α) (k : List α → Prop), appK l m k = k (l ++ m)
  | [], m, k => rfl
  | x :: l, m, k => by simp only [appK, appK_eq l]; rfl
def dropK {α β : Type} : List β → List α → (List α → Prop) → Prop
  | [], m, k => k m
  | _ :: l, [], k => k []
  | _ :: l, _ :: m, k => dropK l m k
theorem dropK_eq {α β : Type} : ∀ (l : List β) (m : List α) (k : List α → Prop), dropK l m k = k (m.drop l.length)
  | [], m, k => by simp [dropK]
  | _ :: l, [], k => by simp [dropK]
  | _ :: l, _ :: m, k => by simp only [dropK, dropK_eq l m k, List.length_cons, List.drop_succ_cons]
def stoK : List Rec → List (Option (List AVal)) → (List (Option (List AVal)) → Prop) → Prop
  | [], hp, k => k hp
  | r :: D, hp, k => match r.sto with
    | some (l, vs) => setK hp l (some vs) fun hp' => stoK D hp' k
    | none => stoK D hp k
theorem stoK_eq : ∀ (D : List Rec) (hp : List (Option (List AVal))) (k : List (Option (List AVal)) → Prop), stoK D hp k = k (D.foldl putSto hp)
  | [], hp, k => rfl
  | r :: D, hp, k => by
    simp only [stoK, List.foldl_cons, putSto]
    cases hr : r.sto with
    | none => simp only [stoK_eq D]
    | some lv => obtain ⟨l, vs⟩ := lv; simp only [setK_eq, stoK_eq D]

def headRun (T : TypeId → Option TInfo) (G : List (FuncId × Ctr)) (L : List Oper) (nb0 nr0 : Nat) (b0 : Nat) (hp0 old : List (Option (List AVal))) : List Oper → List Rec → List AVal → List (Option (List AVal)) → List (Option Row) → (List Rec → St → Prop) → Prop
  | [], D, fr, hp, rows, k => k D ⟨fr, hp, rows⟩
  | o :: rest, D, fr, hp, rows, k =>
    match o.guard with
    | none => (match isSto o.op with
      | true => headSto T b0 nb0 nr0 hp0 old D o fr hp rows fun r fr' hp' rows' => pushK D r fun D' => headRun T G L nb0 nr0 b0 hp0 old rest D' fr' hp' rows' k
      | false => headOne T G nb0 nr0 D o fr hp rows fun r fr' hp' rows' => pushK D r fun D' => headRun T G L nb0 nr0 b0 hp0 old rest D' fr' hp' rows' k)
    | some (j, want) => (match nth L j with
      | some oj => (match oj.dst with
        | some d => (match nth fr d with
          | some (.bool b) => bcond b
            (setK fr d (.bool true) fun fr1 => match want with
              | true => headOne T G nb0 nr0 D o fr1 hp rows fun r fr' hp' rows' => pushK D r fun D' => headRun T G L nb0 nr0 b0 hp0 old rest D' fr' hp' rows' k
              | false => headSkip D o fr1 hp rows fun r fr' hp' rows' => pushK D r fun D' => headRun T G L nb0 nr0 b0 hp0 old rest D' fr' hp' rows' k)
            (setK fr d (.bool false) fun fr1 => match want with
              | true => headSkip D o fr1 hp rows fun r fr' hp' rows' => pushK D r fun D' => headRun T G L nb0 nr0 b0 hp0 old rest D' fr' hp' rows' k
              | false => headOne T G nb0 nr0 D o fr1 hp rows fun r fr' hp' rows' => pushK D r fun D' => headRun T G L nb0 nr0 b0 hp0 old rest D' fr' hp' rows' k)
          | some (.raw v) => (match v with
            | .bool _ => False
            | _ => headSkip D o fr hp rows fun r fr' hp' rows' => pushK D r fun D' => headRun T G L nb0 nr0 b0 hp0 old rest D' fr' hp' rows' k)
          | _ => False)
        | none => False)
      | none => False)

mutual
theorem AVal.sc_up {nb nb' nr nr' : Nat} {eb er : List Nat} (h1 : nb ≤ nb') (he : ∀ l ∈ eb, l < nb') (h2 : nr ≤ nr') (hr : ∀ l ∈ er, l < nr') : ∀ x : AVal, x.sc nb eb nr er = true → x.sc nb' [] nr' [] = true
  | .loc i _, h => by simp only [AVal.sc, lvl_eq, List.not_mem_nil, or_false] at h ⊢; exact h.elim (fun h => by omega) (fun h => he _ h)
  | .ele k _ _ _, h => by simp only [AVal.sc, lvl_eq, List.not_mem_nil, or_false] at h ⊢; exact h.elim (fun h => by omega) (fun h => hr _ h)
  | .row k, h => by simp only [AVal.sc, lvl_eq, List.not_mem_nil, or_false] at h ⊢; exact h.elim (fun h => by omega) (fun h => hr _ h)
  | .irow k _, h => by simp only [AVal.sc, lvl_eq, List.not_mem_nil, or_false] at h ⊢; exact h.elim (fun h => by omega) (fun h => hr _ h)
  | .iele k _ _ _ _, h => by simp only [AVal.sc, lvl_eq, List.not_mem_nil, or_false] at h ⊢; exact h.elim (fun h => by omega) (fun h => hr _ h)
  | .vw k _ _ _, h => by simp only [AVal.sc, lvl_eq, List.not_mem_nil, or_false] at h ⊢; exact h.elim (fun h => by omega) (fun h => hr _ h)
  | .bsl i _, h => by simp only [AVal.sc, lvl_eq, List.not_mem_nil, or_false] at h ⊢; exact h.elim (fun h => by omega) (fun h => he _ h)
  | .agg cs, h => by simp only [AVal.sc] at h ⊢; exact scs_up h1 he h2 hr cs h
  | .tup vs, h => by simp only [AVal.sc] at h ⊢; exact scs_up h1 he h2 hr vs h
  | .fn _ fs cs, h => by
    simp only [AVal.sc] at h ⊢
    split at h
    · rename_i h3; rw [scs_up h1 he h2 hr fs h3]; exact scs_up h1 he h2 hr cs h
    · cases h
  | .int _ _, _ => by simp [AVal.sc]
  | .bool _, _ => by simp [AVal.sc]
  | .str _, _ => by simp [AVal.sc]
  | .raw _, _ => by simp [AVal.sc]
  | .junk, _ => by simp [AVal.sc]
theorem scs_up {nb nb' nr nr' : Nat} {eb er : List Nat} (h1 : nb ≤ nb') (he : ∀ l ∈ eb, l < nb') (h2 : nr ≤ nr') (hr : ∀ l ∈ er, l < nr') : ∀ l : List AVal, scs nb eb nr er l = true → scs nb' [] nr' [] l = true
  | [], _ => by simp [scs]
  | x :: l, h => by
    simp only [scs] at h ⊢
    split at h
    · rename_i h3; rw [AVal.sc_up h1 he h2 hr x h3]; exact scs_up h1 he h2 hr l h
    · cases h
end

/-! ### what the lexical walk of the head knows -/
def putFr (fr : List AVal) (r : Rec) : List AVal := match r.o.dst with | some d => fr.set d r.eff.v | none => fr
def frOf (fr0 : List AVal) (D : List Rec) : List AVal := D.foldl putFr fr0
def hpOf (hp0 : List (Option (List AVal))) (D : List Rec) : List (Option (List AVal)) := hp0 ++ D.flatMap fun r => boxL r.eff.box
def rwOf (rows0 : List (Option Row)) (D : List Rec) : List (Option Row) := rows0 ++ D.flatMap fun r => r.eff.rows.map some

/-- What is told of a store of the head. -/
structure StoOk (E : Env) (hp0 old : List (Option (List AVal))) (rows0 : List (Option Row)) (D : List Rec) (r : Rec) (l : Nat) (vs : List AVal) : Prop where
  run : r.run = true
  eff : r.eff = ⟨none, [], .junk⟩
  dst : r.o.dst = none
  own : E.b0 ≤ l
  gone : nthj hp0 l = none
  was : ∃ oc, nthj old l = some oc
  sc : scs hp0.length [] rows0.length [] vs = true
  new : ∀ r' ∈ D, ∀ c, r'.sto ≠ some (l, c)
  step : ∀ A (hp : Nat → Option (List AVal)) rw w (ρ : Operand → Value), Mem E A hp rw w → hp l = nthj old l → Match r.fr r.o ρ A →
    ∃ w', (execOp ρ r.o).run E.P w = .ok .skip w' ∧ Mem E A (upd hp l (some vs)) rw w' ∧ w.heap.size ≤ w'.heap.size

structure ROk (E : Env) (L : List Oper) (fr0 : List AVal) (hp0 old : List (Option (List AVal))) (rows0 : List (Option Row)) (D : List Rec) (r : Rec) : Prop where
  op : L[D.length]? = some r.o
  fr : r.fr = frOf fr0 D
  lb : r.lb = (hpOf hp0 D).length
  lr : r.lr = (rwOf rows0 D).length
  ab : ∀ l ∈ r.ab, l ∈ depB D r.o.after.toList
  ar : ∀ l ∈ r.ar, l ∈ depR D r.o.after.toList
  guard : match r.o.guard with
    | none => r.run = true
    | some (g, want) => ∃ og d x ob, L[g]? = some og ∧ og.dst = some d ∧ r.fr[d]? = some x ∧ gk x = some ob ∧ r.run = (ob == some want)
  eff : r.run = true → r.sto = none → ∀ A hp rw w (ρ : Operand → Value), Ctx E A hp rw r.lb r.eff.box.isSome r.lr r.eff.rows.length w → (∀ i c, hgL hp0.length r.ab (hpOf hp0 D) i = some c → hp i = some c) →
    (∀ i c, hgL rows0.length r.ar (rwOf rows0 D) i = some c → rw i = some c) → Match r.fr r.o ρ A → (∀ B, Agr r.lb r.eff.box.isSome r.lr r.eff.rows.length A B → ∀ cs, r.eff.box = some cs → dens B cs = dens A cs) →
    (∀ i c, hgL hp0.length r.ab (hpOf hp0 D) i = some c → ∀ B : Asg, B.bx = A.bx → (∀ k, k < r.lr + 1000 → B.rw k = A.rw k ∧ B.inn k = A.inn k) → dens B c = dens A c) →
    Runs E.P (fun u w' => Post E A hp rw r.lb r.lr w r.eff u w') ((execOp ρ r.o).run E.P w)
  skip : r.run = false → r.eff = val uV ∧ r.o.dst ≠ none
  sc : r.eff.v.sc hp0.length (r.ob ++ r.ab) rows0.length (r.orw ++ r.ar) = true
  bsc : ∀ cs, r.eff.box = some cs → scs hp0.length r.ab rows0.length r.ar cs = true
  sto : ∀ l vs, r.sto = some (l, vs) → StoOk E hp0 old rows0 D r l vs

def HeadOk (E : Env) (L : List Oper) (fr0 : List AVal) (hp0 old : List (Option (List AVal))) (rows0 : List (Option Row)) (D : List Rec) : Prop :=
  ∀ (i : Nat) (r : Rec), D[i]? = some r → ROk E L fr0 hp0 old rows0 (D.take i) r

theorem HeadOk.snoc {E : Env} {L : List Oper} {fr0 : List AVal} {hp0 old : List (Option (List AVal))} {rows0 : List (Option Row)} {D : List Rec} {r : Rec} (h : HeadOk E L fr0 hp0 old rows0 D) (hr : ROk E L fr0 hp0 old rows0 D r) :
    HeadOk E L fr0 hp0 old rows0 (D ++ [r]) := by
  intro i r' hi
  rw [List.getElem?_append] at hi
  split at hi
  · rename_i hlt
    rw [List.take_append_of_le_length (by omega)]
    exact h i r' hi
  · rename_i hge
    have hi0 : i - D.length = 0 := by
      rcases Nat.eq_zero_or_pos (i - D.length) with h' | h'
      · exact h'
      · rw [List.getElem?_eq_none (by simp; omega)] at hi; cases hi
    rw [hi0] at hi
    simp at hi
    subst hi
    have : i = D.length := by omega
    subst this
    rw [List.take_append_of_le_length (Nat.le_refl _), List.take_length]
    exact hr

theorem frOf_snoc (fr0 : List AVal) (D : List Rec) (r : Rec) : frOf fr0 (D ++ [r]) = putFr (frOf fr0 D) r := by simp [frOf]
theorem hpOf_snoc (hp0 : List (Option (List AVal))) (D : List Rec) (r : Rec) : hpOf hp0 (D ++ [r]) = hpOf hp0 D ++ boxL r.eff.box := by simp [hpOf]
theorem rwOf_snoc (rows0 : List (Option Row)) (D : List Rec) (r : Rec) : rwOf rows0 (D ++ [r]) = rwOf rows0 D ++ r.eff.rows.map some := by simp [rwOf]

section
variable {E : Env} {T : TypeId → Option TInfo} {G : List (FuncId × Ctr)} {L : List Oper} {fr0 : List AVal} {hp0 old : List (Option (List AVal))} {rows0 : List (Option Row)} {D : List Rec}

theorem headOne_spec (hT : TOk E.P T) (hG : GOk E.P G) {o : Oper} {k : Rec → List AVal → List (Option (List AVal)) → List (Option Row) → Prop} (hop : L[D.length]? = some o)
    (hgd : match o.guard with
      | none => True
      | some (g, want) => ∃ og d, L[g]? = some og ∧ og.dst = some d ∧ (frOf fr0 D)[d]? = some (.bool want))
    (h : headOne T G hp0.length rows0.length D o (frOf fr0 D) (hpOf hp0 D) (rwOf rows0 D) k) :
    ∃ r, ROk E L fr0 hp0 old rows0 D r ∧ k r (frOf fr0 (D ++ [r])) (hpOf hp0 (D ++ [r])) (rwOf rows0 (D ++ [r])) := by
  simp only [headOne, lenK_eq, copyN_eq] at h
  obtain ⟨eff, h, hrun⟩ := opEff_sound hT hG h
  obtain ⟨box, rs, v⟩ := eff
  simp only [pushO_eq, pushR_eq] at h
  split at h
  · rename_i hsc
    split at h
    · rename_i hb
      have hrok : ROk E L fr0 hp0 old rows0 D ⟨o, frOf fr0 D, true, ⟨box, rs, v⟩, (hpOf hp0 D).length, (rwOf rows0 D).length, depB D o.after.toList, depR D o.after.toList, none⟩ := {
        op := hop
        fr := rfl
        lb := rfl
        lr := rfl
        ab := fun l h => h
        ar := fun l h => h
        guard := by
          show match o.guard with | none => true = true | some (g, want) => _
          cases hg : o.guard with
          | none => rfl
          | some gw =>
            obtain ⟨g, want⟩ := gw
            rw [hg] at hgd
            obtain ⟨og, d, h1, h2, h3⟩ := hgd
            exact ⟨og, d, .bool want, some want, h1, h2, h3, rfl, by cases want <;> rfl⟩
        eff := fun _ _ => hrun
        sto := fun l vs h => by cases h
        skip := fun h => by cases h
        sc := hsc
        bsc := fun cs hcs => by
          simp only at hcs
          subst hcs
          exact hb }
      refine ⟨_, hrok, ?_⟩
      rw [frOf_snoc, hpOf_snoc, rwOf_snoc]
      cases hd : o.dst with
      | none => simp only [hd] at h; simpa [putFr, hd] using h
      | some d => simp only [hd, setK_eq] at h; simpa [putFr, hd] using h
    · exact h.elim
  · exact h.elim

theorem headSkip_spec {o : Oper} {k : Rec → List AVal → List (Option (List AVal)) → List (Option Row) → Prop} (hop : L[D.length]? = some o)
    (hgd : ∃ g want og d x ob, o.guard = some (g, want) ∧ L[g]? = some og ∧ og.dst = some d ∧ (frOf fr0 D)[d]? = some x ∧ gk x = some ob ∧ (ob == some want) = false)
    (h : headSkip D o (frOf fr0 D) (hpOf hp0 D) (rwOf rows0 D) k) :
    ∃ r, ROk E L fr0 hp0 old rows0 D r ∧ k r (frOf fr0 (D ++ [r])) (hpOf hp0 (D ++ [r])) (rwOf rows0 (D ++ [r])) := by
  simp only [headSkip] at h
  cases hd : o.dst with
  | none => simp [hd] at h
  | some d =>
    simp only [hd, lenK_eq, setK_eq] at h
    refine ⟨⟨o, frOf fr0 D, false, val uV, (hpOf hp0 D).length, (rwOf rows0 D).length, [], [], none⟩, ?_, ?_⟩
    · exact {
        op := hop
        fr := rfl
        lb := rfl
        lr := rfl
        ab := fun l h => by simp at h
        ar := fun l h => by simp at h
        guard := by
          obtain ⟨g, want, og, d', x, ob, h0, h1, h2, h3, h4, h5⟩ := hgd
          show match o.guard with | none => false = true | some (g, want) => _
          rw [h0]
          exact ⟨og, d', x, ob, h1, h2, h3, h4, h5.symm⟩
        eff := fun h => by cases h
        sto := fun l vs h => by cases h
        skip := fun _ => ⟨rfl, by simp [hd]⟩
        sc := rfl
        bsc := fun cs hcs => by cases hcs }
    · rw [frOf_snoc, hpOf_snoc, rwOf_snoc]
      simpa [putFr, hd, val, boxL, uV] using h

theorem noSto_spec {l : Nat} : ∀ {D : List Rec}, noSto l D = true → ∀ r ∈ D, ∀ c, r.sto ≠ some (l, c)
  | [], _, r, hr, c => by simp at hr
  | r0 :: D, h, r, hr, c => by
    simp only [noSto] at h
    rcases List.mem_cons.1 hr with rfl | hr
    · intro hc
      rw [hc] at h
      simp at h
    · split at h
      · split at h
        · cases h
        · exact noSto_spec h r hr c
      · exact noSto_spec h r hr c

theorem headSto_spec (hT : TOk E.P T) {o : Oper} {k : Rec → List AVal → List (Option (List AVal)) → List (Option Row) → Prop} (hop : L[D.length]? = some o) (hgd : o.guard = none)
    (h : headSto T E.b0 hp0.length rows0.length hp0 old D o (frOf fr0 D) (hpOf hp0 D) (rwOf rows0 D) k) :
    ∃ r, ROk E L fr0 hp0 old rows0 D r ∧ k r (frOf fr0 (D ++ [r])) (hpOf hp0 (D ++ [r])) (rwOf rows0 (D ++ [r])) := by
  obtain ⟨dst, op, ty, pos, after, guard⟩ := o
  simp only at hgd
  subst hgd
  unfold headSto at h
  simp only at h
  split at h
  case h_2 => exact h.elim
  rename_i t x v
  replace h := with1_eq h; obtain ⟨xv, hx, h⟩ := h
  replace h := with1_eq h; obtain ⟨vv, hv, h⟩ := h
  split at h
  case h_2 => exact h.elim
  rename_i l
  cases hb : Nat.ble E.b0 l with
  | false => simp [hb] at h
  | true =>
  simp only [hb] at h
  have hb0 : E.b0 ≤ l := Nat.le_of_ble_eq_true hb
  cases hg : nthj hp0 l with
  | some _ => simp [hg] at h
  | none =>
  simp only [hg] at h
  cases ho : nthj old l with
  | none => simp [ho] at h
  | some oc =>
  simp only [ho] at h
  cases ht : T t with
  | none => simp [ht] at h
  | some ti =>
  simp only [ht] at h
  replace h := cellsA_eq h; obtain ⟨vs, h, hvs⟩ := h
  split at h
  case h_2 => exact h.elim
  rename_i h1
  split at h
  case h_2 => exact h.elim
  rename_i h2
  split at h
  case h_2 => exact h.elim
  rename_i hone
  split at h
  case h_2 => exact h.elim
  rename_i hsc
  split at h
  case h_2 => exact h.elim
  rename_i hnew
  have h1 := Nat.eq_of_beq_eq_true h1
  have h2 := Nat.eq_of_beq_eq_true h2
  rw [lenN_eq] at h1
  rw [lenN_eq, lenN_eq] at h2
  rw [lenK_eq, lenK_eq] at h
  refine ⟨⟨⟨none, .store t x v, ty, pos, after, none⟩, frOf fr0 D, true, ⟨none, [], .junk⟩, (hpOf hp0 D).length, (rwOf rows0 D).length, [], [], some (l, vs)⟩, ?_, ?_⟩
  · exact {
      op := hop
      fr := rfl
      lb := rfl
      lr := rfl
      ab := fun l h => by simp at h
      ar := fun l h => by simp at h
      guard := rfl
      eff := fun _ h => by cases h
      skip := fun h => by cases h
      sc := rfl
      bsc := fun cs hcs => by cases hcs
      sto := fun l' vs' he => by
        simp only [Option.some.injEq, Prod.mk.injEq] at he
        obtain ⟨rfl, rfl⟩ := he
        exact {
          run := rfl
          eff := rfl
          dst := rfl
          own := hb0
          gone := hg
          was := ⟨oc, ho⟩
          sc := hsc
          new := fun r' hr' c hc => noSto_spec hnew r' hr' c hc
          step := fun A hp rw w ρ hm hl hmt => by
            rw [ho] at hl
            have ex : ρ x = (AVal.loc l 0).den A := hmt x (by simp [Op.operands]) _ hx
            have evv : ρ v = vv.den A := hmt v (by simp [Op.operands]) _ hv
            refine ⟨w.setRow (A.bx l) (dens A vs).toArray, ?_, hm.setBox hb0 hl, by rw [setRow_size]; exact Nat.le_refl _⟩
            obtain ⟨⟨t', ht'⟩, _⟩ := hm.box l oc hl
            have hl1 : (dens A oc).length = oc.length := by rw [dens_eq]; simp
            have hl2 : (dens A vs).length = vs.length := by rw [dens_eq]; simp
            have hst := run_storeCells_at E.P (A.bx l) 0 t' (dens A vs) 0 (dens A oc).toArray w ht' (by simp [hl1, hl2]; omega) (allOne_den hone A)
            have hcells : (vv.den A).cells = (dens A vs).toArray := hvs A
            have hsz : ((dens A vs).toArray.size ≠ ti.size) = False := by simp [hl2, h1]
            have hd : (dens A oc).drop vs.length = [] := List.drop_eq_nil_of_le (by omega)
            simp only [execOp, ex, evv, AVal.den]
            simp only [Instr.storeAt, Instr.sureAddr, Sem.run_bind, Sem.run_pure, Result.andThen_ok, storeVar, run_size (hT _ _ ht), hcells, hsz, if_false, hst]
            simp [hl2, hd] } }
  · rw [frOf_snoc, hpOf_snoc, rwOf_snoc]
    simpa [putFr, boxL] using h

theorem headRun_spec (hT : TOk E.P T) (hG : GOk E.P G) {k : List Rec → St → Prop} : ∀ (rest : List Oper) (D : List Rec), HeadOk E L fr0 hp0 old rows0 D → (∀ j, j < rest.length → L[D.length + j]? = rest[j]?) →
    headRun T G L hp0.length rows0.length E.b0 hp0 old rest D (frOf fr0 D) (hpOf hp0 D) (rwOf rows0 D) k →
    ∃ D', HeadOk E L fr0 hp0 old rows0 D' ∧ D'.length = D.length + rest.length ∧ k D' ⟨frOf fr0 D', hpOf hp0 D', rwOf rows0 D'⟩
  | [], D, hD, _, h => ⟨D, hD, by simp, by simpa [headRun] using h⟩
  | o :: rest, D, hD, hL, h => by
    have hop : L[D.length]? = some o := by simpa using hL 0 (by simp)
    have next : ∀ r, ROk E L fr0 hp0 old rows0 D r → (pushK D r fun D' => headRun T G L hp0.length rows0.length E.b0 hp0 old rest D' (frOf fr0 (D ++ [r])) (hpOf hp0 (D ++ [r])) (rwOf rows0 (D ++ [r])) k) →
        ∃ D', HeadOk E L fr0 hp0 old rows0 D' ∧ D'.length = D.length + (o :: rest).length ∧ k D' ⟨frOf fr0 D', hpOf hp0 D', rwOf rows0 D'⟩ := fun r hr h' => by
      rw [pushK_eq] at h'
      obtain ⟨D', h1, h2, h3⟩ := headRun_spec hT hG rest (D ++ [r]) (hD.snoc hr) (fun j hj => by
        have := hL (j + 1) (by simp; omega)
        simp only [List.length_append, List.length_cons, List.length_nil] at *
        rw [show D.length + (0 + 1) + j = D.length + (j + 1) by omega]
        simpa using this) h'
      exact ⟨D', h1, by rw [h2]; simp; omega, h3⟩
    simp only [headRun] at h
    split at h
    · rename_i hg
      split at h
      · obtain ⟨r, hr, hk⟩ := headSto_spec hT hop hg h
        exact next r hr hk
      · obtain ⟨r, hr, hk⟩ := headOne_spec hT hG hop (by rw [hg]; trivial) h
        exact next r hr hk
    · rename_i g want hg
      split at h
      · rename_i og hog
        rw [nth_eq] at hog
        split at h
        · rename_i d hd
          split at h
          · rename_i b hb
            rw [nth_eq] at hb
            have hset : (frOf fr0 D).set d (.bool b) = frOf fr0 D := by
              apply List.ext_getElem?
              intro i
              by_cases hi : i = d
              · subst hi; rw [List.getElem?_set_self', hb]; rfl
              · rw [List.getElem?_set_ne (fun e => hi e.symm)]
            cases b <;> simp only [bcond, setK_eq, hset] at h <;> cases want <;> simp only at h
            · obtain ⟨r, hr, hk⟩ := headOne_spec hT hG hop (by rw [hg]; exact ⟨og, d, hog, hd, hb⟩) h
              exact next r hr hk
            · obtain ⟨r, hr, hk⟩ := headSkip_spec (E := E) hop ⟨g, true, og, d, .bool false, some false, hg, hog, hd, hb, rfl, rfl⟩ h
              exact next r hr hk
            · obtain ⟨r, hr, hk⟩ := headSkip_spec (E := E) hop ⟨g, false, og, d, .bool true, some true, hg, hog, hd, hb, rfl, rfl⟩ h
              exact next r hr hk
            · obtain ⟨r, hr, hk⟩ := headOne_spec hT hG hop (by rw [hg]; exact ⟨og, d, hog, hd, hb⟩) h
              exact next r hr hk
          · rename_i v hb
            rw [nth_eq] at hb
            split at h
            · exact h.elim
            · rename_i hnb
              obtain ⟨r, hr, hk⟩ := headSkip_spec (E := E) hop ⟨g, want, og, d, .raw v, none, hg, hog, hd, hb, gk_raw fun b e => hnb b e, rfl⟩ h
              exact next r hr hk
          · exact h.elim
        · exact h.elim
      · exact h.elim

end
end Go.Proofs.Ytlplngafncobkaa.Fw
