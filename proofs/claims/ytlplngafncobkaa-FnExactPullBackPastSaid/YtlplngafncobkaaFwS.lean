/- A region that draws its order: the theorem. -/
import Derived.Test.YtlplngafncobkaaFwR
namespace Go.Proofs.Ytlplngafncobkaa.Fw
open Go Go.RowKit
set_option linter.unusedVariables false
set_option linter.unusedSimpArgs false

theorem bindsAny_eq (e : Edge) : Region.binds .any e = bindsAny e := by
  unfold Region.binds bindsAny
  cases e.ground <;> rfl

def edgeTo (o : Oper) (j : Nat) : Bool := o.after.toList.any fun e => bindsAny e && e.on == j

/-- The head's operations wait for what they look at; no place is written twice. -/
def chkHead (L : List Oper) (n : Nat) : Bool :=
  (List.range n).all fun i => match L[i]? with
    | some oi => (oi.after.toList.all fun e => !bindsAny e || decide (e.on < i)) &&
      (List.range n).all fun j => (j == i) || (match L[j]? with
        | some oj => (match oj.dst with
          | none => true
          | some t => (!(oi.looksAt L.toArray).contains t || (decide (j < i) && edgeTo oi j) || (decide (i < j) && edgeTo oj i)) && (match oi.dst with | some t' => t != t' | none => true))
        | none => true)
    | none => false

def chkTail (L : List Oper) (n : Nat) : Bool :=
  (n == L.length || (Region.sinkB .any L.toArray n && Region.chainB .any L.toArray n)) && Region.seqB .any L.toArray (L.length - n) n ((List.replicate n true ++ List.replicate (L.length - n) false).toArray)

def chkRegion (L : List Oper) (n : Nat) : Bool := decide (n ≤ L.length) && chkHead L n && chkTail L n

theorem mem_rangeL : ∀ (n a l : Nat), l ∈ rangeL a n ↔ a ≤ l ∧ l < a + n
  | 0, a, l => by simp [rangeL]
  | n + 1, a, l => by
    simp only [rangeL, List.mem_cons, mem_rangeL n (a + 1) l]
    omega

section
variable {E : Env} {L : List Oper} {fr0 : List AVal} {hp0 old : List (Option (List AVal))} {rows0 : List (Option Row)} {D : List Rec} {n : Nat}

theorem chkHead_spec (h : chkHead L n = true) {i j : Nat} {oi oj : Oper} {t : Nat} (hi : i < n) (hj : j < n) (hij : j ≠ i) (hoi : L[i]? = some oi) (hoj : L[j]? = some oj) (ht : oj.dst = some t) :
    (t ∈ oi.looksAt L.toArray → (j < i ∧ ∃ e ∈ oi.after.toList, bindsAny e = true ∧ e.on = j) ∨ (i < j ∧ ∃ e ∈ oj.after.toList, bindsAny e = true ∧ e.on = i)) ∧ oi.dst ≠ some t := by
  unfold chkHead at h
  have h1 := List.all_eq_true.1 h i (List.mem_range.2 hi)
  rw [hoi] at h1
  simp only [Bool.and_eq_true] at h1
  have h2 := List.all_eq_true.1 h1.2 j (List.mem_range.2 hj)
  have hji : (j == i) = false := by simpa using hij
  simp only [hoj, ht, hji, Bool.false_or, Bool.and_eq_true, Bool.or_eq_true, Bool.not_eq_true', decide_eq_true_eq] at h2
  refine ⟨fun hm => ?_, fun hd => ?_⟩
  · have edge : ∀ (o : Oper) (x : Nat), edgeTo o x = true → ∃ e ∈ o.after.toList, bindsAny e = true ∧ e.on = x := fun o x hx => by
      unfold edgeTo at hx
      obtain ⟨e, he, hb⟩ := List.any_eq_true.1 hx
      simp only [Bool.and_eq_true, beq_iff_eq] at hb
      exact ⟨e, he, hb.1, hb.2⟩
    rcases h2.1 with (h3 | h3) | h3
    · have : (oi.looksAt L.toArray).contains t = true := by simpa using hm
      rw [this] at h3; cases h3
    · exact .inl ⟨h3.1, edge _ _ h3.2⟩
    · exact .inr ⟨h3.1, edge _ _ h3.2⟩
  · rw [hd] at h2
    simp at h2

theorem chkHead_edge (h : chkHead L n = true) {i : Nat} {oi : Oper} (hi : i < n) (hoi : L[i]? = some oi) {e : Edge} (he : e ∈ oi.after.toList) (hb : bindsAny e = true) : e.on < i := by
  unfold chkHead at h
  have h1 := List.all_eq_true.1 h i (List.mem_range.2 hi)
  rw [hoi] at h1
  simp only [Bool.and_eq_true] at h1
  have h2 := List.all_eq_true.1 h1.1 e he
  simpa [hb] using h2

theorem depB_mem : ∀ (l : List Edge) (x : Nat), x ∈ depB D l → ∃ e ∈ l, bindsAny e = true ∧ ∃ r, D[e.on]? = some r ∧ (x ∈ r.ob ∨ x ∈ r.ab)
  | [], x, h => by simp [depB] at h
  | e :: l, x, h => by
    simp only [depB] at h
    split at h
    · rename_i hb
      rw [nth_eq] at h
      cases hr : D[e.on]? with
      | none =>
        simp only [hr] at h
        obtain ⟨e', h1, h2⟩ := depB_mem l x h
        exact ⟨e', by simp [h1], h2⟩
      | some r =>
        simp only [hr, List.mem_append] at h
        rcases h with h | h | h
        · exact ⟨e, by simp, hb, r, hr, .inl h⟩
        · exact ⟨e, by simp, hb, r, hr, .inr h⟩
        · obtain ⟨e', h1, h2⟩ := depB_mem l x h
          exact ⟨e', by simp [h1], h2⟩
    · obtain ⟨e', h1, h2⟩ := depB_mem l x h
      exact ⟨e', by simp [h1], h2⟩
theorem depR_mem : ∀ (l : List Edge) (x : Nat), x ∈ depR D l → ∃ e ∈ l, bindsAny e = true ∧ ∃ r, D[e.on]? = some r ∧ (x ∈ r.orw ∨ x ∈ r.ar)
  | [], x, h => by simp [depR] at h
  | e :: l, x, h => by
    simp only [depR] at h
    split at h
    · rename_i hb
      rw [nth_eq] at h
      cases hr : D[e.on]? with
      | none =>
        simp only [hr] at h
        obtain ⟨e', h1, h2⟩ := depR_mem l x h
        exact ⟨e', by simp [h1], h2⟩
      | some r =>
        simp only [hr, List.mem_append] at h
        rcases h with h | h | h
        · exact ⟨e, by simp, hb, r, hr, .inl h⟩
        · exact ⟨e, by simp, hb, r, hr, .inr h⟩
        · obtain ⟨e', h1, h2⟩ := depR_mem l x h
          exact ⟨e', by simp [h1], h2⟩
    · obtain ⟨e', h1, h2⟩ := depR_mem l x h
      exact ⟨e', by simp [h1], h2⟩

/-- the frame of the lexical walk at a place -/
theorem frOf_get (fr0 : List AVal) : ∀ (D : List Rec) (t : Nat), (∀ r ∈ D, r.o.dst ≠ some t) → (frOf fr0 D)[t]? = fr0[t]? := by
  intro D
  induction D generalizing fr0 with
  | nil => intro t _; rfl
  | cons r D ih =>
    intro t h
    show (frOf (putFr fr0 r) D)[t]? = _
    rw [ih _ t (fun r' hr' => h r' (by simp [hr']))]
    unfold putFr
    cases hd : r.o.dst with
    | none => rfl
    | some d =>
      have : d ≠ t := fun e => h r (by simp) (by rw [hd, e])
      rw [List.getElem?_set_ne this]
theorem frOf_len (fr0 : List AVal) : ∀ (D : List Rec), (frOf fr0 D).length = fr0.length := by
  intro D
  induction D generalizing fr0 with
  | nil => rfl
  | cons r D ih =>
    show (frOf (putFr fr0 r) D).length = _
    rw [ih]
    unfold putFr
    split <;> simp
theorem frOf_hit (fr0 : List AVal) : ∀ (D : List Rec) (i t : Nat) (r : Rec), D[i]? = some r → r.o.dst = some t → (∀ j r', D[j]? = some r' → j ≠ i → r'.o.dst ≠ some t) → t < fr0.length → (frOf fr0 D)[t]? = some r.eff.v := by
  intro D
  induction D generalizing fr0 with
  | nil => intro i t r h; simp at h
  | cons r0 D ih =>
    intro i t r hi ht hu hlt
    show (frOf (putFr fr0 r0) D)[t]? = _
    cases i with
    | zero =>
      simp at hi
      subst hi
      rw [frOf_get _ D t (fun r' hr' => by
        obtain ⟨j, hj⟩ := List.mem_iff_getElem?.1 hr'
        exact hu (j + 1) r' (by simpa using hj) (by omega))]
      simp only [putFr, ht]
      rw [List.getElem?_set_self hlt]
    | succ i =>
      refine ih _ i t r (by simpa using hi) ht (fun j r' hj hne => hu (j + 1) r' (by simpa using hj) (by omega)) ?_
      unfold putFr
      split <;> simpa using hlt

theorem nthj_append_left {α : Type _} (l l' : List (Option α)) (i : Nat) (h : i < l.length) : nthj (l ++ l') i = nthj l i := by
  rw [nthj_eq, nthj_eq, List.getElem?_append_left h]
theorem nthj_lt {α : Type _} {l : List (Option α)} {i : Nat} {c : α} (h : nthj l i = some c) : i < l.length := by
  rcases Nat.lt_or_ge i l.length with h' | h'
  · exact h'
  · rw [nthj_none h'] at h; cases h

theorem hpOf_app (D D' : List Rec) : hpOf hp0 (D ++ D') = hpOf hp0 D ++ D'.flatMap fun r => boxL r.eff.box := by simp [hpOf]
theorem rwOf_app (D D' : List Rec) : rwOf rows0 (D ++ D') = rwOf rows0 D ++ D'.flatMap fun r => r.eff.rows.map some := by simp [rwOf]
theorem hpOf_take (i : Nat) : hpOf hp0 D = hpOf hp0 (D.take i) ++ (D.drop i).flatMap fun r => boxL r.eff.box := by
  rw [← hpOf_app, List.take_append_drop]
theorem rwOf_take (i : Nat) : rwOf rows0 D = rwOf rows0 (D.take i) ++ (D.drop i).flatMap fun r => r.eff.rows.map some := by
  rw [← rwOf_app, List.take_append_drop]
theorem drop_cons {i : Nat} {r : Rec} (h : D[i]? = some r) : D.drop i = r :: D.drop (i + 1) := by
  have hlt := (List.getElem?_eq_some_iff.1 h).1
  rw [List.drop_eq_getElem_cons hlt]
  rw [List.getElem?_eq_getElem hlt] at h
  rw [Option.some.inj h]
theorem take_snoc' {i : Nat} {r : Rec} (h : D[i]? = some r) : D.take (i + 1) = D.take i ++ [r] := by
  rw [List.take_add_one, h]; rfl

theorem hp0_le (D : List Rec) : hp0.length ≤ (hpOf hp0 D).length := by simp [hpOf]
theorem rw0_le (D : List Rec) : rows0.length ≤ (rwOf rows0 D).length := by simp [rwOf]
theorem nthj_hp0 {l : Nat} (h : l < hp0.length) (D : List Rec) : nthj (hpOf hp0 D) l = nthj hp0 l := nthj_append_left _ _ _ h
theorem nthj_rw0 {l : Nat} (h : l < rows0.length) (D : List Rec) : nthj (rwOf rows0 D) l = nthj rows0 l := nthj_append_left _ _ _ h

theorem lb_step (hD : HeadOk E L fr0 hp0 old rows0 D) {i j : Nat} {r r' : Rec} (hi : D[i]? = some r) (hj : D[j]? = some r') (hij : i < j) : r.lb + (boxL r.eff.box).length ≤ r'.lb ∧ r.lr + r.eff.rows.length ≤ r'.lr := by
  have h1 := hD i r hi
  have h2 := hD j r' hj
  rw [h1.lb, h2.lb, h1.lr, h2.lr]
  have e : D.take j = D.take (i + 1) ++ ((D.take j).drop (i + 1)) := by
    have : D.take (i + 1) = (D.take j).take (i + 1) := by rw [List.take_take]; congr 1; omega
    rw [this, List.take_append_drop]
  rw [e, take_snoc' hi, hpOf_app, hpOf_app, rwOf_app, rwOf_app]
  simp

theorem box_at (hD : HeadOk E L fr0 hp0 old rows0 D) {i : Nat} {r : Rec} (hi : D[i]? = some r) {c : List AVal} (hc : r.eff.box = some c) : nthj (hpOf hp0 D) r.lb = some c := by
  rw [hpOf_take i, drop_cons hi, (hD i r hi).lb, nthj_eq, List.getElem?_append_right (Nat.le_refl _)]
  simp [hc, boxL]
theorem row_at (hD : HeadOk E L fr0 hp0 old rows0 D) {i : Nat} {r : Rec} (hi : D[i]? = some r) {j : Nat} {row : Row} (hc : r.eff.rows[j]? = some row) : nthj (rwOf rows0 D) (r.lr + j) = some row := by
  rw [rwOf_take i, drop_cons hi, (hD i r hi).lr, nthj_eq, List.getElem?_append_right (by omega)]
  have hlt := (List.getElem?_eq_some_iff.1 hc).1
  rw [List.flatMap_cons, show (rwOf rows0 (D.take i)).length + j - (rwOf rows0 (D.take i)).length = j by omega, List.getElem?_append_left (by simpa using hlt)]
  simp [hc]
theorem pre_hp (i : Nat) {l : Nat} {c : List AVal} (h : nthj (hpOf hp0 (D.take i)) l = some c) : nthj (hpOf hp0 D) l = some c := by
  rw [hpOf_take i, nthj_append_left _ _ _ (nthj_lt h)]; exact h
theorem pre_rw (i : Nat) {l : Nat} {c : Row} (h : nthj (rwOf rows0 (D.take i)) l = some c) : nthj (rwOf rows0 D) l = some c := by
  rw [rwOf_take i, nthj_append_left _ _ _ (nthj_lt h)]; exact h

theorem ob_mem {r : Rec} {l : Nat} : l ∈ r.ob ↔ l = r.lb ∧ r.eff.box.isSome = true := by
  unfold Rec.ob
  cases r.eff.box <;> simp
theorem orw_mem {r : Rec} {l : Nat} : l ∈ r.orw ↔ r.lr ≤ l ∧ l < r.lr + r.eff.rows.length := by
  unfold Rec.orw
  rw [mem_rangeL, lenN_eq]

end
end Go.Proofs.Ytlplngafncobkaa.Fw
