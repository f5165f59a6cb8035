/- Plain laws: decimal numerals as lists of bytes, cut and split at a slash. No program. -/
import Derived.Lib.ItoaNum
import Derived.Lib.ParseIntB
import Derived.Lib.Bytealg
namespace Go.Proofs.YtmbfflckgmdncaaDoor.Fw
open Go
set_option linter.unusedVariables false
set_option linter.unusedSimpArgs false

/-! ### numerals -/
def Dg (c : UInt8) : Prop := 48 ≤ c.toNat ∧ c.toNat ≤ 57
instance (c : UInt8) : Decidable (Dg c) := by unfold Dg; infer_instance
/-- What digits spell. -/
def dvL (acc : Nat) : List UInt8 → Nat
  | [] => acc
  | c :: r => dvL (acc * 10 + (c.toNat - 48)) r
theorem dvL_snoc : ∀ (l : List UInt8) (acc : Nat) (c : UInt8), dvL acc (l ++ [c]) = dvL acc l * 10 + (c.toNat - 48)
  | [], _, _ => rfl
  | x :: l, acc, c => dvL_snoc l _ c
theorem dvL_ge : ∀ (l : List UInt8) (acc : Nat), acc ≤ dvL acc l
  | [], _ => Nat.le_refl _
  | c :: l, acc => by
    have h1 : acc ≤ acc * 10 + (c.toNat - 48) := by omega
    show acc ≤ dvL (acc * 10 + (c.toNat - 48)) l
    have h2 := dvL_ge l (acc * 10 + (c.toNat - 48))
    omega
theorem dvL_lt : ∀ (l : List UInt8) (acc : Nat), (∀ c ∈ l, Dg c) → dvL acc l < (acc + 1) * 10 ^ l.length
  | [], acc, _ => by
    show acc < (acc + 1) * 1
    omega
  | c :: l, acc, h => by
    have hc := h c (List.mem_cons_self ..)
    have ih := dvL_lt l (acc * 10 + (c.toNat - 48)) fun x hx => h x (List.mem_cons_of_mem _ hx)
    show dvL (acc * 10 + (c.toNat - 48)) l < _
    refine Nat.lt_of_lt_of_le ih ?_
    rw [List.length_cons, Nat.pow_succ, Nat.mul_comm (10 ^ l.length) 10, ← Nat.mul_assoc]
    refine Nat.mul_le_mul_right _ ?_
    unfold Dg at hc
    omega
theorem dg_of {m : Nat} (h : m < 10) : (UInt8.ofNat (48 + m)).toNat = 48 + m := by
  rw [UInt8.toNat_ofNat']
  omega
theorem dd_lt {n : Nat} (h : n < 10) : Lib.decDigits n = [UInt8.ofNat (48 + n)] := by rw [Lib.decDigits, dif_pos h]
theorem dd_ge {n : Nat} (h : ¬ n < 10) : Lib.decDigits n = Lib.decDigits (n / 10) ++ [UInt8.ofNat (48 + n % 10)] := by rw [Lib.decDigits, dif_neg h]
theorem dd_dig (n : Nat) : ∀ c ∈ Lib.decDigits n, Dg c := by
  induction n using Nat.strongRecOn with
  | _ n ih =>
    intro c hc
    by_cases h : n < 10
    · rw [dd_lt h, List.mem_singleton] at hc
      subst hc
      unfold Dg
      rw [dg_of h]; omega
    · rw [dd_ge h, List.mem_append, List.mem_singleton] at hc
      rcases hc with hc | rfl
      · exact ih (n / 10) (by omega) c hc
      · unfold Dg
        rw [dg_of (by omega)]; omega
theorem dd_val (n : Nat) : dvL 0 (Lib.decDigits n) = n := by
  induction n using Nat.strongRecOn with
  | _ n ih =>
    by_cases h : n < 10
    · rw [dd_lt h]
      show 0 * 10 + ((UInt8.ofNat (48 + n)).toNat - 48) = n
      rw [dg_of h]; omega
    · rw [dd_ge h, dvL_snoc, ih (n / 10) (by omega), dg_of (by omega)]
      omega
theorem dd_ne (n : Nat) : Lib.decDigits n ≠ [] := by
  by_cases h : n < 10
  · rw [dd_lt h]; simp
  · rw [dd_ge h]; simp
theorem dd_head (n : Nat) (h1 : 1 ≤ n) : ∃ c r, Lib.decDigits n = c :: r ∧ c.toNat ≠ 48 := by
  induction n using Nat.strongRecOn with
  | _ n ih =>
    by_cases h : n < 10
    · exact ⟨_, _, dd_lt h, by rw [dg_of h]; omega⟩
    · obtain ⟨c, r, e, hc⟩ := ih (n / 10) (by omega) (by omega)
      exact ⟨c, r ++ [UInt8.ofNat (48 + n % 10)], by rw [dd_ge h, e]; rfl, hc⟩
theorem dd_len (k : Nat) : ∀ n, n < 10 ^ (k + 1) → (Lib.decDigits n).length ≤ k + 1 := by
  induction k with
  | zero => intro n h; rw [dd_lt (by simpa using h)]; simp
  | succ k ih =>
    intro n h
    by_cases h9 : n < 10
    · rw [dd_lt h9]; simp
    · rw [dd_ge h9, List.length_append]
      have := ih (n / 10) (by rw [Nat.pow_succ] at h; omega)
      simp; omega
theorem dd_of : ∀ (k : Nat) (l : List UInt8), l.length = k + 1 → (∀ c ∈ l, Dg c) → (1 < l.length → (l.getD 0 0).toNat ≠ 48) → Lib.decDigits (dvL 0 l) = l := by
  intro k
  induction k with
  | zero =>
    intro l hl hd _
    match l, hl with
    | [c], _ =>
      have hc := hd c (List.mem_singleton.2 rfl)
      unfold Dg at hc
      have e : dvL 0 [c] = c.toNat - 48 := by
        show 0 * 10 + (c.toNat - 48) = c.toNat - 48
        omega
      rw [e, dd_lt (by omega)]
      congr 1
      apply UInt8.toNat_inj.1
      rw [dg_of (by omega)]; omega
  | succ k ih =>
    intro l hl hd hh
    obtain ⟨l', c, rfl⟩ : ∃ l' c, l = l' ++ [c] := ⟨l.dropLast, l.getLast (by intro e; rw [e] at hl; simp at hl), (List.dropLast_concat_getLast _).symm⟩
    have hl' : l'.length = k + 1 := by simpa using hl
    have hh' := hh (hl ▸ Nat.le_add_left 2 k)
    obtain ⟨x, r, rfl⟩ : ∃ x r, l' = x :: r := by
      match l', hl' with
      | x :: r, _ => exact ⟨x, r, rfl⟩
    have hx : x.toNat ≠ 48 := hh'
    have hdx := hd x (by simp)
    have hdc := hd c (by simp)
    unfold Dg at hdx hdc
    have h1 : 1 ≤ 0 * 10 + (x.toNat - 48) := by omega
    have hpos : 1 ≤ dvL 0 (x :: r) := by
      show 1 ≤ dvL (0 * 10 + (x.toNat - 48)) r
      have h2 := dvL_ge r (0 * 10 + (x.toNat - 48))
      omega
    have hi := ih (x :: r) hl' (fun y hy => hd y (by rw [List.mem_append]; exact .inl hy)) (fun _ => hx)
    rw [dvL_snoc, dd_ge (by omega)]
    have q1 : (dvL 0 (x :: r) * 10 + (c.toNat - 48)) / 10 = dvL 0 (x :: r) := by omega
    have q2 : (dvL 0 (x :: r) * 10 + (c.toNat - 48)) % 10 = c.toNat - 48 := by omega
    rw [q1, q2, hi]
    congr 2
    apply UInt8.toNat_inj.1
    rw [dg_of (by omega)]; omega

/-! ### what the library reads -/
theorem parseU (M : Nat) (hM : M ≤ 18446744073709551615) : ∀ (l : List UInt8) (acc : Nat), (∀ c ∈ l, Dg c) → dvL acc l ≤ M → Lib.parseUintM M acc l = .ok (dvL acc l)
  | [], _, _, _ => rfl
  | c :: r, acc, h, hv => by
    have hc := h c (List.mem_cons_self ..)
    have hv' : dvL (acc * 10 + (c.toNat - 48)) r ≤ M := hv
    have hg := dvL_ge r (acc * 10 + (c.toNat - 48))
    unfold Dg at hc
    rw [Lib.parseUintM, if_pos hc, if_neg (by omega), if_neg (by omega)]
    exact parseU M hM r _ (fun x hx => h x (List.mem_cons_of_mem _ hx)) hv'
theorem parseI (n : Nat) (hn : n ≤ 100000) : Lib.parseIntB 64 (Lib.decDigits n) = .ok (n : Int) := by
  have hd := dd_dig n
  have hv := dd_val n
  cases hl : Lib.decDigits n with
  | nil => exact absurd hl (dd_ne n)
  | cons c r =>
    rw [hl] at hd hv
    have hc := hd c (List.mem_cons_self ..)
    unfold Dg at hc
    have hu : Lib.parseUintB 64 (c :: r) = .ok n := by
      unfold Lib.parseUintB
      rw [if_neg (by simp), parseU _ (by decide) _ _ hd (by rw [hv]; omega), hv]
    unfold Lib.parseIntB
    simp only
    rw [if_neg (by omega), hu]
    simp only
    rw [if_neg (by omega), if_neg (by omega), if_neg (by omega)]

/-! ### what the reference reads -/
def nmL (l : List UInt8) : Int := if (l.length = 0 ∨ 9 < l.length) ∨ (1 < l.length ∧ (l.getD 0 0).toNat = 48) then -1 else if ∀ c ∈ l, Dg c then (dvL 0 l : Int) else -1
theorem nmL_inv {l : List UInt8} (h : 0 ≤ nmL l) : Lib.decDigits (nmL l).toNat = l := by
  unfold nmL at h ⊢
  by_cases h1 : (l.length = 0 ∨ 9 < l.length) ∨ (1 < l.length ∧ (l.getD 0 0).toNat = 48)
  · rw [if_pos h1] at h; omega
  · rw [if_neg h1] at h ⊢
    by_cases h2 : ∀ c ∈ l, Dg c
    · rw [if_pos h2, Int.toNat_natCast]
      exact dd_of (l.length - 1) l (by omega) h2 (fun h3 h4 => h1 (.inr ⟨h3, h4⟩))
    · rw [if_neg h2] at h; omega
theorem nmL_of {n : Nat} (h : n ≤ 100000) : nmL (Lib.decDigits n) = n := by
  have h0 : (Lib.decDigits n).length ≠ 0 := fun e => dd_ne n (List.eq_nil_of_length_eq_zero e)
  have h9 : (Lib.decDigits n).length ≤ 8 + 1 := dd_len 8 n (by omega)
  have hh : ¬ (1 < (Lib.decDigits n).length ∧ ((Lib.decDigits n).getD 0 0).toNat = 48) := fun ⟨h1, h2⟩ => by
    by_cases hn : n < 10
    · rw [dd_lt hn] at h1; simp at h1
    · obtain ⟨c, r, e, hc⟩ := dd_head n (by omega)
      rw [e] at h2
      exact hc h2
  unfold nmL
  have hno : ¬ (((Lib.decDigits n).length = 0 ∨ 9 < (Lib.decDigits n).length) ∨ (1 < (Lib.decDigits n).length ∧ ((Lib.decDigits n).getD 0 0).toNat = 48)) := by
    intro h
    rcases h with (h | h) | h
    · exact h0 h
    · omega
    · exact hh h
  rw [if_neg hno, if_pos (dd_dig n), dd_val]
end Go.Proofs.YtmbfflckgmdncaaDoor.Fw
