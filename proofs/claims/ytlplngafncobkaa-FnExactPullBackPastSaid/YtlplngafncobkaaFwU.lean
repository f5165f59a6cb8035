/- A region that draws its order: one operation of the head, in whatever order. -/
import Derived.Test.YtlplngafncobkaaFwS
namespace Go.Proofs.Ytlplngafncobkaa.Fw
open Go Go.RowKit
set_option linter.unusedVariables false
set_option linter.unusedSimpArgs false

section
variable {E : Env} {L : List Oper} {fr0 : List AVal} {hp0 old : List (Option (List AVal))} {rows0 : List (Option Row)} {D : List Rec} {n : Nat}

def Lst (listed : Array Bool) (j : Nat) : Prop := listed.getD j false = true
def PB (hp0 : List (Option (List AVal))) (D : List Rec) (listed : Array Bool) (l : Nat) : Prop := l < hp0.length ∨ ∃ (j : Nat) (r : Rec), Lst listed j ∧ D[j]? = some r ∧ l ∈ r.ob
def PR (rows0 : List (Option Row)) (D : List Rec) (listed : Array Bool) (l : Nat) : Prop := l < rows0.length ∨ ∃ (j : Nat) (r : Rec), Lst listed j ∧ D[j]? = some r ∧ l ∈ r.orw
open Classical in
noncomputable def stoF (D : List Rec) (listed : Array Bool) (l : Nat) : Option (List AVal) := if h : ∃ vs, ∃ (j : Nat) (r : Rec), Lst listed j ∧ D[j]? = some r ∧ r.sto = some (l, vs) then some h.choose else none
open Classical in
noncomputable def hpS (hp0 old : List (Option (List AVal))) (D : List Rec) (listed : Array Bool) : Nat → Option (List AVal) := fun l =>
  if l < hp0.length then (match stoF D listed l with | some c => some c | none => nthj old l) else if PB hp0 D listed l then nthj (hpOf hp0 D) l else none
open Classical in
noncomputable def rwS (rows0 : List (Option Row)) (D : List Rec) (listed : Array Bool) : Nat → Option Row := fun l => if PR rows0 D listed l then nthj (rwOf rows0 D) l else none

structure DInv (E : Env) (fr0 : List AVal) (hp0 hpo : List (Option (List AVal))) (rows0 : List (Option Row)) (D : List Rec) (listed : Array Bool) (A : Asg) (a : Act) (w : World) : Prop where
  defers : a.defers = []
  size : a.tmps.size = fr0.length
  set : ∀ (j : Nat) (r : Rec), Lst listed j → D[j]? = some r → ∀ t, r.o.dst = some t → t < fr0.length → (r.eff.v = .junk ∨ a.tmps.getD t undef = r.eff.v.den A)
  old : ∀ (t : Nat) (x : AVal), fr0[t]? = some x → (∀ (j : Nat) (r : Rec), Lst listed j → D[j]? = some r → r.o.dst ≠ some t) → x = .junk ∨ a.tmps.getD t undef = x.den A
  mem : Mem E A (hpS hp0 hpo D listed) (rwS rows0 D listed) w
  klt : ∀ b, E.K b → b < w.heap.size

/-- what is told of the state before the region -/
structure Base (E : Env) (fr0 : List AVal) (hp0 old : List (Option (List AVal))) (rows0 : List (Option Row)) : Prop where
  fr : ∀ (t : Nat) (x : AVal), fr0[t]? = some x → x.sc hp0.length [] rows0.length [] = true
  len : old.length = hp0.length
  sub : ∀ i cs, nthj hp0 i = some cs → nthj old i = some cs
  hp : ∀ i cs, nthj old i = some cs → scs hp0.length [] rows0.length [] cs = true
  n0 : E.n0 ≤ rows0.length
  b0 : E.b0 ≤ hp0.length

def Closed (D : List Rec) (listed : Array Bool) : Prop := ∀ (j : Nat) (r : Rec), Lst listed j → D[j]? = some r → ∀ e ∈ r.o.after.toList, bindsAny e = true → Lst listed e.on

theorem ab_pres (hD : HeadOk E L fr0 hp0 old rows0 D) {listed : Array Bool} (hcl : Closed D listed) : ∀ (m j : Nat), j < m → ∀ (r : Rec), D[j]? = some r → (∀ e ∈ r.o.after.toList, bindsAny e = true → Lst listed e.on) →
    (∀ l ∈ r.ab, PB hp0 D listed l) ∧ (∀ l ∈ r.ar, PR rows0 D listed l) := by
  intro m
  induction m with
  | zero => intro j hj; omega
  | succ m ih =>
    intro j hj r hr hdep
    have hok := hD j r hr
    have take : ∀ (i : Nat) (r' : Rec), (D.take j)[i]? = some r' → i < j ∧ D[i]? = some r' := fun i r' h => by
      rw [List.getElem?_take] at h
      split at h
      · rename_i hlt; exact ⟨hlt, h⟩
      · cases h
    constructor
    · intro l hl
      obtain ⟨e, he, hb, r', hr', ho⟩ := depB_mem _ _ (hok.ab l hl)
      obtain ⟨hlt, hr''⟩ := take _ _ hr'
      rcases ho with ho | ho
      · exact .inr ⟨e.on, r', hdep e he hb, hr'', ho⟩
      · exact (ih e.on (by omega) r' hr'' (hcl e.on r' (hdep e he hb) hr'')).1 l ho
    · intro l hl
      obtain ⟨e, he, hb, r', hr', ho⟩ := depR_mem _ _ (hok.ar l hl)
      obtain ⟨hlt, hr''⟩ := take _ _ hr'
      rcases ho with ho | ho
      · exact .inr ⟨e.on, r', hdep e he hb, hr'', ho⟩
      · exact (ih e.on (by omega) r' hr'' (hcl e.on r' (hdep e he hb) hr'')).2 l ho

theorem ab_early (hD : HeadOk E L fr0 hp0 old rows0 D) : ∀ (m j : Nat), j < m → ∀ (r : Rec), D[j]? = some r →
    (∀ l ∈ r.ab, ∃ i r', i < j ∧ D[i]? = some r' ∧ l ∈ r'.ob) ∧ (∀ l ∈ r.ar, ∃ i r', i < j ∧ D[i]? = some r' ∧ l ∈ r'.orw) := by
  intro m
  induction m with
  | zero => intro j hj; omega
  | succ m ih =>
    intro j hj r hr
    have hok := hD j r hr
    have take : ∀ (i : Nat) (r' : Rec), (D.take j)[i]? = some r' → i < j ∧ D[i]? = some r' := fun i r' h => by
      rw [List.getElem?_take] at h
      split at h
      · rename_i hlt; exact ⟨hlt, h⟩
      · cases h
    constructor
    · intro l hl
      obtain ⟨e, he, hb, r', hr', ho⟩ := depB_mem _ _ (hok.ab l hl)
      obtain ⟨hlt, hr''⟩ := take _ _ hr'
      rcases ho with ho | ho
      · exact ⟨e.on, r', hlt, hr'', ho⟩
      · obtain ⟨i, r2, h1, h2, h3⟩ := (ih e.on (by omega) r' hr'').1 l ho
        exact ⟨i, r2, by omega, h2, h3⟩
    · intro l hl
      obtain ⟨e, he, hb, r', hr', ho⟩ := depR_mem _ _ (hok.ar l hl)
      obtain ⟨hlt, hr''⟩ := take _ _ hr'
      rcases ho with ho | ho
      · exact ⟨e.on, r', hlt, hr'', ho⟩
      · obtain ⟨i, r2, h1, h2, h3⟩ := (ih e.on (by omega) r' hr'').2 l ho
        exact ⟨i, r2, by omega, h2, h3⟩

variable {listed : Array Bool} {A : Asg} {a : Act} {w : World} {j : Nat} {r : Rec}

/-- what an operation of the head looks at is what the lexical walk says -/
theorem looks_ok (hc : chkHead L n = true) (hD : HeadOk E L fr0 hp0 old rows0 D) (hlen : D.length = n) (hinv : DInv E fr0 hp0 old rows0 D listed A a w) (hcl : Closed D listed) (hn : ¬ Lst listed j) (hj : D[j]? = some r)
    (hdep : ∀ e ∈ r.o.after.toList, bindsAny e = true → Lst listed e.on) {t : Nat} (ht : t ∈ r.o.looksAt L.toArray) {x : AVal} (hx : r.fr[t]? = some x) : x = .junk ∨ a.tmps.getD t undef = x.den A := by
  have hok := hD j r hj
  have hjn : j < n := by rw [← hlen]; exact (List.getElem?_eq_some_iff.1 hj).1
  have hop : ∀ (i : Nat) (r' : Rec), D[i]? = some r' → L[i]? = some r'.o ∧ i < n := fun i r' hi => by
    have h1 := (hD i r' hi).op
    have hlt := (List.getElem?_eq_some_iff.1 hi).1
    rw [List.length_take, show min i D.length = i by omega] at h1
    exact ⟨h1, by omega⟩
  rw [hok.fr] at hx
  have htl : t < fr0.length := by
    have := (List.getElem?_eq_some_iff.1 hx).1
    rwa [frOf_len] at this
  have take : ∀ (i : Nat) (r' : Rec), (D.take j)[i]? = some r' → i < j ∧ D[i]? = some r' := fun i r' h => by
    rw [List.getElem?_take] at h
    split at h
    · rename_i hlt; exact ⟨hlt, h⟩
    · cases h
  by_cases hex : ∃ (i : Nat) (r' : Rec), D[i]? = some r' ∧ i ≠ j ∧ r'.o.dst = some t
  · obtain ⟨i, r', hi, hij, hd⟩ := hex
    obtain ⟨hLi, hin⟩ := hop i r' hi
    obtain ⟨hLj, _⟩ := hop j r hj
    rcases (chkHead_spec hc hjn hin hij hLj hLi hd).1 ht with ⟨hlt, e, he, hb, heon⟩ | ⟨hlt, e, he, hb, heon⟩
    case inr =>
      -- it is written behind: not yet
      have hni : ¬ Lst listed i := fun hl => hn (by rw [← heon]; exact hcl i r' hl hi e he hb)
      have only : ∀ (i2 : Nat) (r2 : Rec), D[i2]? = some r2 → r2.o.dst = some t → i2 = i ∨ i2 = j := fun i2 r2 h2 hd2 => by
        by_cases h3 : i2 = i
        · exact .inl h3
        · obtain ⟨hL2, hin2⟩ := hop i2 r2 h2
          exact absurd hd2 (chkHead_spec hc hin2 hin (fun e => h3 e.symm) hL2 hLi hd).2
      rw [frOf_get fr0 (D.take j) t (fun r2 hr2 hd2 => by
        obtain ⟨i2, h2⟩ := List.mem_iff_getElem?.1 hr2
        obtain ⟨hlt2, h2'⟩ := take _ _ h2
        rcases only i2 r2 h2' hd2 with h | h <;> omega)] at hx
      exact hinv.old t x hx (fun i2 r2 hl2 h2 hd2 => by
        rcases only i2 r2 h2 hd2 with rfl | rfl
        · exact hni hl2
        · exact hn hl2)
    have hli : Lst listed i := by rw [← heon]; exact hdep e he hb
    have hhit := frOf_hit fr0 (D.take j) i t r' (by rw [List.getElem?_take, if_pos hlt]; exact hi) hd (fun i2 r2 h2 hne hd2 => by
      obtain ⟨hlt2, hr2⟩ := take _ _ h2
      obtain ⟨hL2, hin2⟩ := hop i2 r2 hr2
      exact (chkHead_spec hc hin2 hin hne.symm hL2 hLi hd).2 hd2) htl
    rw [hhit] at hx
    cases hx
    exact hinv.set i r' hli hi t hd htl
  · rw [frOf_get fr0 (D.take j) t (fun r' hr' hd => by
      obtain ⟨i, hi⟩ := List.mem_iff_getElem?.1 hr'
      obtain ⟨hlt, hi'⟩ := take _ _ hi
      exact hex ⟨i, r', hi', by omega, hd⟩)] at hx
    exact hinv.old t x hx (fun i r' hli hi hd => hex ⟨i, r', hi, fun e => hn (e ▸ hli), hd⟩)

theorem not_PB (hD : HeadOk E L fr0 hp0 old rows0 D) (hn : ¬ Lst listed j) (hj : D[j]? = some r) (hb : r.eff.box.isSome = true) : ¬ PB hp0 D listed r.lb := by
  have hok := hD j r hj
  rintro (h | ⟨i, r', hli, hi, ho⟩)
  · have := hp0_le (hp0 := hp0) (D.take j)
    rw [hok.lb] at h; omega
  · rw [ob_mem] at ho
    have hij : i ≠ j := fun e => hn (e ▸ hli)
    have hl : ∀ x : Option (List AVal), x.isSome = true → (boxL x).length = 1 := fun x hx => by cases x with | none => cases hx | some _ => rfl
    rcases Nat.lt_or_gt_of_ne hij with h | h
    · have := (lb_step hD hi hj h).1
      rw [hl _ ho.2] at this; omega
    · have := (lb_step hD hj hi h).1
      rw [hl _ hb] at this; omega
theorem not_PR (hD : HeadOk E L fr0 hp0 old rows0 D) (hn : ¬ Lst listed j) (hj : D[j]? = some r) {l : Nat} (h1 : r.lr ≤ l) (h2 : l < r.lr + r.eff.rows.length) : ¬ PR rows0 D listed l := by
  have hok := hD j r hj
  rintro (h | ⟨i, r', hli, hi, ho⟩)
  · have := rw0_le (rows0 := rows0) (D.take j)
    rw [hok.lr] at h1; omega
  · rw [orw_mem] at ho
    have hij : i ≠ j := fun e => hn (e ▸ hli)
    rcases Nat.lt_or_gt_of_ne hij with h | h
    · have := (lb_step hD hi hj h).2; omega
    · have := (lb_step hD hj hi h).2; omega

/-- two stores of the head go to two levels -/
theorem sto_uniq (hD : HeadOk E L fr0 hp0 old rows0 D) {i k : Nat} {q q' : Rec} {l : Nat} {v v' : List AVal} (hi : D[i]? = some q) (h : q.sto = some (l, v)) (hk : D[k]? = some q') (h' : q'.sto = some (l, v')) : i = k := by
  rcases Nat.lt_trichotomy i k with hlt | heq | hlt
  · exact absurd h (((hD k q' hk).sto l v' h').new q (List.mem_iff_getElem?.2 ⟨i, by rw [List.getElem?_take, if_pos hlt]; exact hi⟩) v)
  · exact heq
  · exact absurd h' (((hD i q hi).sto l v h).new q' (List.mem_iff_getElem?.2 ⟨k, by rw [List.getElem?_take, if_pos hlt]; exact hk⟩) v')
theorem stoF_some (hD : HeadOk E L fr0 hp0 old rows0 D) {l : Nat} {v : List AVal} (hl : Lst listed j) (hj : D[j]? = some r) (h : r.sto = some (l, v)) : stoF D listed l = some v := by
  have hex : ∃ vs, ∃ (j : Nat) (r : Rec), Lst listed j ∧ D[j]? = some r ∧ r.sto = some (l, vs) := ⟨v, j, r, hl, hj, h⟩
  unfold stoF
  rw [dif_pos hex]
  obtain ⟨j', r', _, h2, h3⟩ := hex.choose_spec
  have := sto_uniq hD hj h h2 h3
  subst this
  rw [hj] at h2; cases h2
  rw [h] at h3
  exact congrArg some (by simpa using h3.symm)
theorem stoF_none {l : Nat} (h : ∀ (i : Nat) (q : Rec) (v : List AVal), Lst listed i → D[i]? = some q → q.sto ≠ some (l, v)) : stoF D listed l = none := by
  unfold stoF
  rw [dif_neg]
  rintro ⟨v, i, q, h1, h2, h3⟩
  exact h i q v h1 h2 h3
theorem stoF_inv {l : Nat} {c : List AVal} (h : stoF D listed l = some c) : ∃ (i : Nat) (q : Rec), Lst listed i ∧ D[i]? = some q ∧ q.sto = some (l, c) := by
  unfold stoF at h
  split at h
  · rename_i hex
    cases h
    exact hex.choose_spec
  · cases h

/-- what names only levels that are there does not feel new ones -/
theorem stab (hD : HeadOk E L fr0 hp0 old rows0 D) (hn : ¬ Lst listed j) (hj : D[j]? = some r) {B : Asg} (hag : Agr r.lb r.eff.box.isSome r.lr r.eff.rows.length A B) {eb er : List Nat}
    (heb : ∀ l ∈ eb, PB hp0 D listed l) (her : ∀ l ∈ er, PR rows0 D listed l) :
    (∀ x : AVal, x.sc hp0.length eb rows0.length er = true → x.den A = x.den B) ∧ (∀ l : List AVal, scs hp0.length eb rows0.length er l = true → dens A l = dens B l) := by
  have hb : ∀ i, (i < hp0.length ∨ i ∈ eb) → A.bx i = B.bx i := fun i hi => hag.bx i (fun hbo e => not_PB hD hn hj hbo (by
    rw [← e]
    rcases hi with hi | hi
    · exact .inl hi
    · exact heb i hi))
  have hr : ∀ i, (i < rows0.length ∨ i ∈ er) → A.rw i = B.rw i ∧ A.inn i = B.inn i := fun i hi => hag.rw i (by
    have hp : PR rows0 D listed i := by
      rcases hi with hi | hi
      · exact .inl hi
      · exact her i hi
    rcases Nat.lt_or_ge i r.lr with h | h
    · exact .inl h
    · rcases Nat.lt_or_ge i (r.lr + r.eff.rows.length) with h' | h'
      · exact absurd hp (not_PR hD hn hj h h')
      · exact .inr h')
  exact ⟨fun x hx => AVal.den_congr hb hr x hx, fun l hl => dens_congr hb hr l hl⟩

end
end Go.Proofs.Ytlplngafncobkaa.Fw
