/- The operations that are taken by themselves: the machine comes to their effects. -/
import Derived.Test.YtlplngafncobkaaFwF
namespace Go.Proofs.Ytlplngafncobkaa.Fw
open Go Go.RowKit
set_option linter.unusedVariables false
set_option linter.unusedSimpArgs false

/-- What a memory has to tell, and where new levels are free. -/
structure Ctx (E : Env) (A : Asg) (hp : Nat → Option (List AVal)) (rw : Nat → Option Row) (lb : Nat) (bo : Bool) (lr m : Nat) (w : World) : Prop where
  mem : Mem E A hp rw w
  klt : ∀ b, E.K b → b < w.heap.size
  fb : bo = true → hp lb = none
  fr : ∀ i, lr ≤ i → i < lr + m → rw i = none
  n0 : E.n0 ≤ lr
  b0 : E.b0 ≤ lb
  stb : ∀ B, Agr lb bo lr m A B → ∀ i c, hp i = some c → dens B c = dens A c

theorem updO_none (f : Nat → Option (List AVal)) (n : Nat) : updO f n none = f := by funext i; rfl
theorem updO_some (f : Nat → Option (List AVal)) (n : Nat) (c : List AVal) : updO f n (some c) = upd f n (some c) := by funext i; rfl
theorem updL_nil (f : Nat → Option Row) (n : Nat) : updL f n [] = f := by
  funext i
  unfold updL
  rw [if_neg (by simp)]

section
variable {E : Env} {A : Asg} {hp : Nat → Option (List AVal)} {rw_ : Nat → Option Row} {w w' : World}

theorem Mem.addRows (h : Mem E A hp rw_ w) (hB : Below w.heap.size w w') (hK : ∀ b, E.K b → b < w.heap.size) (lr : Nat) (hs : List Hdr) (rows : List Row) (hlen : hs.length = rows.length)
    (hl : ∀ i, lr ≤ i → i < lr + rows.length → rw_ i = none) (hn0 : E.n0 ≤ lr) (hsc : ∀ i c, hp i = some c → dens (A.setRws lr hs) c = dens A c)
    (hnew : ∀ (i : Nat) (r : Row) (hd : Hdr), rows[i]? = some r → hs[i]? = some hd → r.own = true ∧ RowOwn w' hd r ∧ ∀ a, hd.a = some a → w.heap.size ≤ a.block)
    (hdis : ∀ (i j : Nat) (h h' : Hdr) (a b : Addr), i ≠ j → hs[i]? = some h → hs[j]? = some h' → h.a = some a → h'.a = some b → a.block ≠ b.block) :
    Mem E (A.setRws lr hs) hp (updL rw_ lr rows) w' := by
  have hg := h.grow hB hK
  have cases' : ∀ k c, updL rw_ lr rows k = some c → (∃ i hd, k = lr + i ∧ rows[i]? = some c ∧ hs[i]? = some hd ∧ (A.setRws lr hs).rw k = hd) ∨ (rw_ k = some c ∧ (A.setRws lr hs).rw k = A.rw k) := by
    intro k c hk
    unfold updL at hk
    by_cases hc : lr ≤ k ∧ k < lr + rows.length
    · rw [if_pos hc] at hk
      have hlt : k - lr < hs.length := by omega
      refine .inl ⟨k - lr, hs[k - lr], by omega, hk, List.getElem?_eq_getElem hlt, ?_⟩
      show (if lr ≤ k ∧ k < lr + hs.length then hs.getD (k - lr) ⟨none, 0, 0⟩ else A.rw k) = _
      rw [if_pos (by omega)]
      simp [hlt]
    · rw [if_neg hc] at hk
      refine .inr ⟨hk, ?_⟩
      show (if lr ≤ k ∧ k < lr + hs.length then hs.getD (k - lr) ⟨none, 0, 0⟩ else A.rw k) = _
      rw [if_neg (by omega)]
  refine ⟨hg.kept, fun i c hi => ?_, fun k c hk => ?_, hg.bb, fun i ci k c b h0 hi hk hf => ?_, fun k k' c c' b hk hk' hkk hown hf hf' => ?_, fun k hk => ?_⟩
  · obtain ⟨⟨t', ht⟩, hn⟩ := hg.box i c hi
    exact ⟨⟨t', by rw [hsc i c hi]; exact ht⟩, hn⟩
  · rcases cases' k c hk with ⟨i, hd, rfl, h1, h2, h3⟩ | ⟨h1, h2⟩
    · rw [h3]
      obtain ⟨ho, hr, hge⟩ := hnew i c hd h1 h2
      exact ⟨hr.at, fun _ => ⟨hr, fun a ha hka => by have := hK _ hka; have := hge a ha; omega⟩⟩
    · rw [h2]; exact hg.row k c h1
  · rcases cases' k c hk with ⟨j, hd, rfl, h1, h2, h3⟩ | ⟨h1, h2⟩
    · rw [h3] at hf
      obtain ⟨ho, hr, hge⟩ := hnew j c hd h1 h2
      obtain ⟨_, a, ha, rfl⟩ := hf
      have := hge a ha
      have := h.box_lt hi
      show A.bx i ≠ _
      omega
    · rw [h2] at hf; exact hg.br i ci k c b h0 hi h1 hf
  · rcases cases' k c hk with ⟨i, hd, rfl, h1, h2, h3⟩ | ⟨h1, h2⟩ <;> rcases cases' k' c' hk' with ⟨j, hd', rfl, h1', h2', h3'⟩ | ⟨h1', h2'⟩
    · rw [h3] at hf; rw [h3'] at hf'
      obtain ⟨_, a, ha, rfl⟩ := hf
      obtain ⟨_, a', ha', hb⟩ := hf'
      exact hdis i j hd hd' a a' (fun e => hkk (by rw [e])) h2 h2' ha ha' hb.symm
    · rw [h3] at hf; rw [h2'] at hf'
      obtain ⟨ho, hr, hge⟩ := hnew i c hd h1 h2
      obtain ⟨_, a, ha, rfl⟩ := hf
      have := hge a ha
      have := h.foot_lt h1' hf'
      omega
    · rw [h2] at hf; rw [h3'] at hf'
      obtain ⟨ho, hr, hge⟩ := hnew j c' hd' h1' h2'
      obtain ⟨_, a, ha, rfl⟩ := hf'
      have := hge a ha
      have := h.foot_lt h1 hf
      omega
    · rw [h2] at hf; rw [h2'] at hf'
      exact h.rr k k' c c' b h1 h1' hkk hown hf hf'
  · have : ¬ (lr ≤ k ∧ k < lr + hs.length) := by omega
    show (if lr ≤ k ∧ k < lr + hs.length then hs.getD (k - lr) ⟨none, 0, 0⟩ else A.rw k) = _
    rw [if_neg this]
    exact h.args k hk

variable {lb lr : Nat}

theorem post_val {v : AVal} (h : Mem E A hp rw_ w) : Post E A hp rw_ lb lr w (val v) (v.den A) w :=
  ⟨⟨A, ⟨fun _ _ => rfl, fun _ _ => ⟨rfl, rfl⟩⟩, rfl, by simp only [val, updO_none, updL_nil]; exact h, Nat.le_refl _⟩⟩

theorem runs_val {o : Oper} {ρ : Operand → Value} {v : AVal} (hm : Mem E A hp rw_ w) (h : (execOp ρ o).run E.P w = .ok (.value (v.den A)) w) :
    Runs E.P (fun u w' => Post E A hp rw_ lb lr w (val v) u w') ((execOp ρ o).run E.P w) := by
  rw [h]; exact post_val hm

theorem post_box {cs : List AVal} {t : TypeId} (h : Ctx E A hp rw_ lb true lr 0 w) (hcs : ∀ B, Agr lb true lr 0 A B → dens B cs = dens A cs) :
    Post E A hp rw_ lb lr w ⟨some cs, [], .loc lb 0⟩ (.pointer (some ⟨w.heap.size, 0, none⟩)) { w with heap := w.heap.push (.cells (dens A cs).toArray t) } := by
  have hag : Agr lb true lr 0 A (A.setBx lb w.heap.size) := ⟨fun i hi => (upd_ne _ _ _ (hi rfl)).symm, fun k _ => ⟨rfl, rfl⟩⟩
  refine ⟨⟨A.setBx lb w.heap.size, hag, ?_, ?_, by simp⟩⟩
  · show _ = Value.pointer (some ⟨upd A.bx lb w.heap.size lb, 0, none⟩)
    rw [upd_same]
  · simp only [updO_some, updL_nil]
    exact h.mem.addBox lb cs t h.b0 (h.fb rfl) (h.stb _ hag) (hcs _ hag) h.klt rfl

theorem post_rows {rows : List Row} {v : AVal} {hs : List Hdr} (h : Ctx E A hp rw_ lb false lr rows.length w) (hB : Below w.heap.size w w') (hlen : hs.length = rows.length)
    (hnew : ∀ (i : Nat) (r : Row) (hd : Hdr), rows[i]? = some r → hs[i]? = some hd → r.own = true ∧ RowOwn w' hd r ∧ ∀ a, hd.a = some a → w.heap.size ≤ a.block)
    (hdis : ∀ (i j : Nat) (h h' : Hdr) (a b : Addr), i ≠ j → hs[i]? = some h → hs[j]? = some h' → h.a = some a → h'.a = some b → a.block ≠ b.block) :
    Post E A hp rw_ lb lr w ⟨none, rows, v⟩ (v.den (A.setRws lr hs)) w' := by
  have hag : Agr lb false lr rows.length A (A.setRws lr hs) := ⟨fun i hi => rfl, fun k hk => ⟨by
    show A.rw k = (if lr ≤ k ∧ k < lr + hs.length then hs.getD (k - lr) ⟨none, 0, 0⟩ else A.rw k)
    rw [if_neg (by omega)], rfl⟩⟩
  refine ⟨⟨A.setRws lr hs, hag, rfl, ?_, hB.size⟩⟩
  simp only [updO_none]
  exact h.mem.addRows hB h.klt lr hs rows hlen h.fr h.n0 (h.stb _ hag) hnew hdis

end

theorem withs_eq (fr : List AVal) : ∀ (l : List Operand) (k : List AVal → Prop), withs fr l k → ∃ vs, k vs ∧ vs.length = l.length ∧ ∀ A (ρ : Operand → Value), (∀ x ∈ l, ∀ v, ev fr x = some v → ρ x = v.den A) → l.map ρ = dens A vs
  | [], k, h => ⟨[], h, rfl, fun _ _ _ => by simp [dens]⟩
  | x :: l, k, h => by
    simp only [withs, with1] at h
    cases hx : ev fr x with
    | none => simp [hx] at h
    | some v =>
      simp only [hx] at h
      obtain ⟨vs, hk, hl, hv⟩ := withs_eq fr l _ h
      refine ⟨v :: vs, hk, by simp [hl], fun A ρ hρ => ?_⟩
      simp only [List.map_cons, dens, hρ x (by simp) v hx, hv A ρ (fun y hy => hρ y (by simp [hy]))]

theorem with1_eq {fr : List AVal} {x : Operand} {k : AVal → Prop} (h : with1 fr x k) : ∃ v, ev fr x = some v ∧ k v := by
  unfold with1 at h
  cases hx : ev fr x with
  | none => simp [hx] at h
  | some v => simp only [hx] at h; exact ⟨v, rfl, h⟩

theorem cellsA_eq {v : AVal} {k : List AVal → Prop} (h : cellsA v k) : ∃ cs, k cs ∧ ∀ A, (v.den A).cells = (dens A cs).toArray := by
  unfold cellsA at h
  split at h
  all_goals first
    | exact h.elim
    | (refine ⟨_, h, fun A => ?_⟩; simp [AVal.den, Value.cells, dens, Hdr.val, Hdr.ptr]; done)

end Go.Proofs.Ytlplngafncobkaa.Fw
