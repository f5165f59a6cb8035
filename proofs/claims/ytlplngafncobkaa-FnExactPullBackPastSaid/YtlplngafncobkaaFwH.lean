/- The operations that are taken by themselves: the machine comes to their effects. -/
import Derived.Test.YtlplngafncobkaaFwF
namespace Go.Proofs.Ytlplngafncobkaa.Fw
open Go Go.RowKit
set_option linter.unusedVariables false
set_option linter.unusedSimpArgs false

/-- What a memory has to tell, and where new levels are free. -/
structure Ctx (E : Env) (A : Asg) (hp : Nat → Option (List AVal)) (rw : Nat → Option Row) (lb : Nat) (bo : Bool) (lr m : Nat) (w : World) : Prop where
  mem : Mem E A hp rw w
  klt : ∀ b, E.K b → b < w.heap.size
  fb : bo = true → hp lb = none
  fr : ∀ i, lr ≤ i → i < lr + m → rw i = none
  n0 : E.n0 ≤ lr
  b0 : E.b0 ≤ lb
  stb : ∀ B, Agr lb bo lr m A B → ∀ i c, hp i = some c → dens B c = dens A c

theorem updO_none (f : Nat → Option (List AVal)) (n : Nat) : updO f n none = f := by funext i; rfl
theorem updO_some (f : Nat → Option (List AVal)) (n : Nat) (c : List AVal) : updO f n (some c) = upd f n (some c) := by funext i; rfl
theorem updL_nil (f : Nat → Option Row) (n : Nat) : updL f n [] = f := by
  funext i
  unfold updL
  rw [if_neg (by simp)]

section
variable {E : Env} {A : Asg} {hp : Nat → Option (List AVal)} {rw_ : Nat → Option Row} {w w' : World}

theorem setRws_in (A : Asg) (lr : Nat) (hs : List HdrN) (i : Nat) (h : HdrN) (hi : hs[i]? = some h) : (A.setRws lr hs).rw (lr + i) = h.h ∧ (A.setRws lr hs).inn (lr + i) = h.ih := by
  have hlt : i < hs.length := (List.getElem?_eq_some_iff.1 hi).1
  have hg : hs.getD (lr + i - lr) hdr0 = h := by
    rw [Nat.add_sub_cancel_left, List.getD_eq_getElem?_getD, hi]; rfl
  constructor
  · show (if lr ≤ lr + i ∧ lr + i < lr + hs.length then (hs.getD (lr + i - lr) hdr0).h else A.rw (lr + i)) = _
    rw [if_pos (by omega), hg]
  · show (if lr ≤ lr + i ∧ lr + i < lr + hs.length then (hs.getD (lr + i - lr) hdr0).ih else A.inn (lr + i)) = _
    rw [if_pos (by omega), hg]
theorem setRws_out (A : Asg) (lr : Nat) (hs : List HdrN) (k : Nat) (hk : k < lr ∨ lr + hs.length ≤ k) : (A.setRws lr hs).rw k = A.rw k ∧ (A.setRws lr hs).inn k = A.inn k := by
  constructor
  · show (if lr ≤ k ∧ k < lr + hs.length then (hs.getD (k - lr) hdr0).h else A.rw k) = _
    rw [if_neg (by omega)]
  · show (if lr ≤ k ∧ k < lr + hs.length then (hs.getD (k - lr) hdr0).ih else A.inn k) = _
    rw [if_neg (by omega)]

theorem Mem.addRows (h : Mem E A hp rw_ w) (lr : Nat) (hs : List HdrN) (rows : List Row) {free : Nat → Prop} (hn : NewRows rows hs w free) (hfK : ∀ b, free b → ¬ E.K b)
    (hfb : ∀ i c b, E.b0 ≤ i → hp i = some c → free b → A.bx i ≠ b) (hfr : ∀ k r b, rw_ k = some r → Feet r (A.rw k) (A.inn k) b → ¬ free b)
    (hl : ∀ i, lr ≤ i → i < lr + rows.length → rw_ i = none) (hn0 : E.n0 ≤ lr) (hsc : ∀ i c, hp i = some c → dens (A.setRws lr hs) c = dens A c) :
    Mem E (A.setRws lr hs) hp (updL rw_ lr rows) w := by
  have hlen := hn.len
  have cases' : ∀ k c, updL rw_ lr rows k = some c → (∃ i hd, k = lr + i ∧ rows[i]? = some c ∧ hs[i]? = some hd ∧ (A.setRws lr hs).rw k = hd.h ∧ (A.setRws lr hs).inn k = hd.ih) ∨
      (rw_ k = some c ∧ (A.setRws lr hs).rw k = A.rw k ∧ (A.setRws lr hs).inn k = A.inn k) := by
    intro k c hk
    unfold updL at hk
    by_cases hc : lr ≤ k ∧ k < lr + rows.length
    · rw [if_pos hc] at hk
      have hlt : k - lr < hs.length := by omega
      have hgi : hs[k - lr]? = some hs[k - lr] := List.getElem?_eq_getElem hlt
      have := setRws_in A lr hs (k - lr) _ hgi
      rw [show lr + (k - lr) = k by omega] at this
      exact .inl ⟨k - lr, hs[k - lr], by omega, hk, hgi, this.1, this.2⟩
    · rw [if_neg hc] at hk
      have := setRws_out A lr hs k (by omega)
      exact .inr ⟨hk, this.1, this.2⟩
  refine ⟨h.kept, fun i c hi => ?_, fun k c hk => ?_, h.bb, fun i ci k c b h0 hi hk hf => ?_, fun k k' c c' b hk hk' hkk hown hf hf' => ?_, fun k hk => ?_⟩
  · obtain ⟨⟨t', ht⟩, hn⟩ := h.box i c hi
    exact ⟨⟨t', by rw [hsc i c hi]; exact ht⟩, hn⟩
  · rcases cases' k c hk with ⟨i, hd, rfl, h1, h2, h3, h4⟩ | ⟨h1, h2, h3⟩
    · rw [h3, h4]
      obtain ⟨ho, hr, hge⟩ := hn.new i c hd h1 h2
      exact ⟨hr.at, fun _ => ⟨hr, fun b hb => hfK b (hge b hb)⟩⟩
    · rw [h2, h3]; exact h.row k c h1
  · rcases cases' k c hk with ⟨j, hd, rfl, h1, h2, h3, h4⟩ | ⟨h1, h2, h3⟩
    · rw [h3, h4] at hf
      obtain ⟨ho, hr, hge⟩ := hn.new j c hd h1 h2
      exact hfb i ci b h0 hi (hge b hf)
    · rw [h2, h3] at hf; exact h.br i ci k c b h0 hi h1 hf
  · rcases cases' k c hk with ⟨i, hd, rfl, h1, h2, h3, h4⟩ | ⟨h1, h2, h3⟩ <;> rcases cases' k' c' hk' with ⟨j, hd', rfl, h1', h2', h3', h4'⟩ | ⟨h1', h2', h3'⟩
    · rw [h3, h4] at hf; rw [h3', h4'] at hf'
      exact hn.dis i j hd hd' c c' b (fun e => hkk (by rw [e])) h2 h2' h1 h1' hf hf'
    · rw [h3, h4] at hf; rw [h2', h3'] at hf'
      obtain ⟨ho, hr, hge⟩ := hn.new i c hd h1 h2
      exact hfr k' c' b h1' hf' (hge b hf)
    · rw [h2, h3] at hf; rw [h3', h4'] at hf'
      obtain ⟨ho, hr, hge⟩ := hn.new j c' hd' h1' h2'
      exact hfr k c b h1 hf (hge b hf')
    · rw [h2, h3] at hf; rw [h2', h3'] at hf'
      exact h.rr k k' c c' b h1 h1' hkk hown hf hf'
  · rw [(setRws_out A lr hs k (by omega)).1]
    exact h.args k hk

variable {lb lr : Nat}

theorem post_val {v : AVal} (h : Mem E A hp rw_ w) : Post E A hp rw_ lb lr w (val v) (v.den A) w :=
  ⟨⟨A, ⟨fun _ _ => rfl, fun _ _ => ⟨rfl, rfl⟩⟩, rfl, by simp only [val, updO_none, updL_nil]; exact h, Nat.le_refl _⟩⟩

theorem runs_val {o : Oper} {ρ : Operand → Value} {v : AVal} (hm : Mem E A hp rw_ w) (h : (execOp ρ o).run E.P w = .ok (.value (v.den A)) w) :
    Runs E.P (fun u w' => Post E A hp rw_ lb lr w (val v) u w') ((execOp ρ o).run E.P w) := by
  rw [h]; exact post_val hm

theorem post_box {cs : List AVal} {t : TypeId} (h : Ctx E A hp rw_ lb true lr 0 w) (hcs : ∀ B, Agr lb true lr 0 A B → dens B cs = dens A cs) :
    Post E A hp rw_ lb lr w ⟨some cs, [], .loc lb 0⟩ (.pointer (some ⟨w.heap.size, 0, none⟩)) { w with heap := w.heap.push (.cells (dens A cs).toArray t) } := by
  have hag : Agr lb true lr 0 A (A.setBx lb w.heap.size) := ⟨fun i hi => (upd_ne _ _ _ (hi rfl)).symm, fun k _ => ⟨rfl, rfl⟩⟩
  refine ⟨⟨A.setBx lb w.heap.size, hag, ?_, ?_, by simp⟩⟩
  · show _ = Value.pointer (some ⟨upd A.bx lb w.heap.size lb, 0, none⟩)
    rw [upd_same]
  · simp only [updO_some, updL_nil]
    exact h.mem.addBox lb cs t h.b0 (h.fb rfl) (h.stb _ hag) (hcs _ hag) h.klt rfl

theorem post_rows {rows : List Row} {v : AVal} {hs : List HdrN} (h : Ctx E A hp rw_ lb false lr rows.length w) (hB : Below w.heap.size w w') (hn : NewRows rows hs w' (w.heap.size ≤ ·)) :
    Post E A hp rw_ lb lr w ⟨none, rows, v⟩ (v.den (A.setRws lr hs)) w' := by
  have hlen := hn.len
  have hag : Agr lb false lr rows.length A (A.setRws lr hs) := ⟨fun i hi => rfl, fun k hk => by
    have := setRws_out A lr hs k (by omega)
    exact ⟨this.1.symm, this.2.symm⟩⟩
  refine ⟨⟨A.setRws lr hs, hag, rfl, ?_, hB.size⟩⟩
  simp only [updO_none]
  exact (h.mem.grow hB h.klt).addRows lr hs rows hn (fun b hb hk => by have := h.klt b hk; omega) (fun i c b _ hi hb e => by have := h.mem.box_lt hi; omega)
    (fun k r b hk hf hb => by have := h.mem.foot_lt hk hf; omega) h.fr h.n0 (h.stb _ hag)

/-- One new row of a fresh block. -/
theorem post_row {r : Row} {hd : Hdr} {ih : Nat → Hdr} (h : Ctx E A hp rw_ lb false lr 1 w) (hB : Below w.heap.size w w') (ho : r.own = true) (hr : RowsOwn w' hd ih r) (hf : ∀ b, Feet r hd ih b → w.heap.size ≤ b) :
    Post E A hp rw_ lb lr w ⟨none, [r], .row lr⟩ hd.val w' := by
  have hn : NewRows [r] [⟨hd, ih⟩] w' (w.heap.size ≤ ·) := ⟨rfl, fun i r' h' hi hi' => by
    cases i with
    | zero => simp at hi hi'; subst hi; subst hi'; exact ⟨ho, hr, hf⟩
    | succ i => simp at hi, fun i j h1 h2 r1 r2 b hij hi hj => by
    cases i with
    | zero => cases j with
      | zero => exact absurd rfl hij
      | succ j => simp at hj
    | succ i => simp at hi⟩
  have := post_rows (v := .row lr) h hB hn
  have hden : (AVal.row lr).den (A.setRws lr [⟨hd, ih⟩]) = hd.val := by
    have := (setRws_in A lr [⟨hd, ih⟩] 0 ⟨hd, ih⟩ rfl).1
    simp only [Nat.add_zero] at this
    simp [AVal.den, this]
  rwa [hden] at this

end

theorem withs_eq (fr : List AVal) : ∀ (l : List Operand) (k : List AVal → Prop), withs fr l k → ∃ vs, k vs ∧ vs.length = l.length ∧ ∀ A (ρ : Operand → Value), (∀ x ∈ l, ∀ v, ev fr x = some v → ρ x = v.den A) → l.map ρ = dens A vs
  | [], k, h => ⟨[], h, rfl, fun _ _ _ => by simp [dens]⟩
  | x :: l, k, h => by
    simp only [withs, with1] at h
    cases hx : ev fr x with
    | none => simp [hx] at h
    | some v =>
      simp only [hx] at h
      obtain ⟨vs, hk, hl, hv⟩ := withs_eq fr l _ h
      refine ⟨v :: vs, hk, by simp [hl], fun A ρ hρ => ?_⟩
      simp only [List.map_cons, dens, hρ x (by simp) v hx, hv A ρ (fun y hy => hρ y (by simp [hy]))]

theorem with1_eq {fr : List AVal} {x : Operand} {k : AVal → Prop} (h : with1 fr x k) : ∃ v, ev fr x = some v ∧ k v := by
  unfold with1 at h
  cases hx : ev fr x with
  | none => simp [hx] at h
  | some v => simp only [hx] at h; exact ⟨v, rfl, h⟩

theorem cellsA_eq {v : AVal} {k : List AVal → Prop} (h : cellsA v k) : ∃ cs, k cs ∧ ∀ A, (v.den A).cells = (dens A cs).toArray := by
  unfold cellsA at h
  split at h
  all_goals first
    | exact h.elim
    | (refine ⟨_, h, fun A => ?_⟩; simp [AVal.den, Value.cells, dens, Hdr.val, Hdr.ptr]; done)

end Go.Proofs.Ytlplngafncobkaa.Fw
