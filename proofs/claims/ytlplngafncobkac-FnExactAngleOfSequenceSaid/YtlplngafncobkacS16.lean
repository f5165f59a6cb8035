/- Contracts: the angle of a sequence, on both sides. -/
import Derived.Test.YtlplngafncobkacS15
import Derived.Test.YtlplngafncobkacS6
import Derived.Test.YtlplngafncobkacS9
import Derived.Test.YtlplngafncobkacLyI
namespace Go.Proofs.Ytlplngafncobkac.Fw
open Go Go.RowKit Go.Shelf
set_option linter.unusedVariables false
set_option linter.unusedSimpArgs false
set_option maxRecDepth 100000
set_option maxHeartbeats 2000000

/-! ### the star -/
@[irreducible] def ix42 (s : ByteArray) : Int := Go.Lib.indexByte (bl s) 42
theorem ixB_iff (b : UInt8) : ∀ L : List UInt8, 0 ≤ Go.Lib.indexByte L b ↔ b ∈ L
  | [] => by simp [Go.Lib.indexByte]
  | x :: L => by
    have ih := ixB_iff b L
    have hg := Go.Lib.indexByte_ge L b
    unfold Go.Lib.indexByte
    by_cases hx : (x == b) = true
    · rw [if_pos hx]
      have : x = b := by simpa using hx
      simp [this]
    · rw [if_neg hx]
      have hne : ¬ b = x := fun e => hx (by simp [e])
      rw [List.mem_cons, ← ih]
      by_cases h1 : (Go.Lib.indexByte L b == -1) = true
      · rw [if_pos h1]
        have : Go.Lib.indexByte L b = -1 := by simpa using h1
        rw [this]; simp [hne]
      · rw [if_neg h1]
        have h2 : Go.Lib.indexByte L b ≠ -1 := by simpa using h1
        constructor
        · intro _; exact .inr (by omega)
        · rintro (h | h)
          · exact absurd h hne
          · omega
theorem idxF : Try.idxL_ren.f 219 = 148 := by kernel_rfl
def idxC : PCtr := fun _ _ _ vals k => match vals with
  | [.str s, .str p] => p = ByteArray.mk #[42] ∧ k [] (.int .i64 (ix42 s))
  | _ => False
theorem idx_ok : PCtrOk Try.prog 148 idxC where
  enter := enter_ok Try.func148 (by kernel_rfl) rfl
  calls := by
    intro hg rg lr vals k h
    unfold idxC at h
    split at h
    case h_2 => exact h.elim
    rename_i s p
    obtain ⟨rfl, hk⟩ := h
    refine ⟨_, _, hk, fun A w _ _ => ?_⟩
    have h := Any.stringslite_Index_one Try.idxL s 42 w
    rw [idxF] at h
    refine Calls.mono h ?_
    rintro e w' ⟨rfl, rfl⟩
    exact ⟨[], by unfold ix42; rfl, Blw.refl _ _, newRows_nil⟩
theorem index_ok : PCtrOk Try.prog 139 idxC where
  enter := enter_ok Try.func139 (by kernel_rfl) rfl
  calls := by
    intro hg rg lr vals k h
    unfold idxC at h
    split at h
    case h_2 => exact h.elim
    rename_i s p
    obtain ⟨hp, hk⟩ := h
    refine ⟨_, _, hk, fun A w _ _ => ?_⟩
    refine enter T_ok (GOk.cons idx_ok .nil) Try.func139 rfl (K := (· < w.heap.size)) (fun _ h => h) (A := A) (n0 := 0) (b0 := 0) (rows := []) (hp := []) rfl (Nat.zero_le _) (fun k r h => by cases h) rfl (fun k r h => by cases h) rfl rfl (Nat.le_of_ble_eq_true rfl) ?_
    conv => whnf
    repeat (refine V_step T_ok (GOk.cons idx_ok .nil) rfl ?_; conv => whnf)
    repeat (any_goals (first
      | (refine V_step T_ok (GOk.cons idx_ok .nil) rfl ?_; conv => whnf)
      | (refine V_drawA T_ok (GOk.cons idx_ok .nil) mixed (by kernel_rfl) ?_; conv => whnf)
      | (refine bcond_split (fun hc => ?_) (fun hc => ?_) <;> (try simp only [decide_eq_true_eq, decide_eq_false_iff_not, Bool.not_eq_true', Bool.not_eq_false', Bool.and_eq_true, Bool.or_eq_true, Bool.and_eq_false_imp, Bool.or_eq_false_iff, ne_eq, Decidable.not_not] at hc) <;> conv => whnf)
      | (intro ysK hysK; have hysl := congrArg List.length hysK; (try simp only [List.length_set, List.length_append, List.length_cons, List.length_nil, List.length_take, List.length_drop, List.length_replicate] at hysl); conv => whnf)
      | (intro bK hbK; have hbl := congrArg ByteArray.size hbK; conv => whnf)
      | (intro sK hsK; conv => whnf)
      | (refine And.intro (by first | (first | exact hp) | exact True.intro | exact ⟨rfl, True.intro, fun _ _ => rfl⟩ | exact Nat.le_of_ble_eq_true rfl | (refine ⟨by (try simp only [List.length_cons, List.length_nil]); omega, Int.le_trans (Int.mul_le_mul_of_nonneg_left (show (TInfo.bytes _ : Int) ≤ 64 from Int.ofNat_le.2 (Nat.le_of_ble_eq_true rfl)) (by omega)) (by (try simp only [List.length_cons, List.length_nil]); omega)⟩)) ?_; conv => whnf)))
    all_goals exact leaf0 rfl rfl rfl
def conC : PCtr := fun _ _ _ vals k => match vals with
  | [.str s, .str p] => p = ByteArray.mk #[42] ∧ k [] (.bool (decide (0 ≤ ix42 s)))
  | _ => False
theorem con_ok : PCtrOk Try.prog 106 conC where
  enter := enter_ok Try.func106 (by kernel_rfl) rfl
  calls := by
    intro hg rg lr vals k h
    unfold conC at h
    split at h
    case h_2 => exact h.elim
    rename_i s p
    obtain ⟨hp, hk⟩ := h
    refine ⟨_, _, hk, fun A w _ _ => ?_⟩
    refine enter T_ok (GOk.cons index_ok .nil) Try.func106 rfl (K := (· < w.heap.size)) (fun _ h => h) (A := A) (n0 := 0) (b0 := 0) (rows := []) (hp := []) rfl (Nat.zero_le _) (fun k r h => by cases h) rfl (fun k r h => by cases h) rfl rfl (Nat.le_of_ble_eq_true rfl) ?_
    conv => whnf
    repeat (refine V_step T_ok (GOk.cons index_ok .nil) rfl ?_; conv => whnf)
    repeat (any_goals (first
      | (refine V_step T_ok (GOk.cons index_ok .nil) rfl ?_; conv => whnf)
      | (refine V_drawA T_ok (GOk.cons index_ok .nil) mixed (by kernel_rfl) ?_; conv => whnf)
      | (refine bcond_split (fun hc => ?_) (fun hc => ?_) <;> (try simp only [decide_eq_true_eq, decide_eq_false_iff_not, Bool.not_eq_true', Bool.not_eq_false', Bool.and_eq_true, Bool.or_eq_true, Bool.and_eq_false_imp, Bool.or_eq_false_iff, ne_eq, Decidable.not_not] at hc) <;> conv => whnf)
      | (intro ysK hysK; have hysl := congrArg List.length hysK; (try simp only [List.length_set, List.length_append, List.length_cons, List.length_nil, List.length_take, List.length_drop, List.length_replicate] at hysl); conv => whnf)
      | (intro bK hbK; have hbl := congrArg ByteArray.size hbK; conv => whnf)
      | (intro sK hsK; conv => whnf)
      | (refine And.intro (by first | (first | exact hp) | exact True.intro | exact ⟨rfl, True.intro, fun _ _ => rfl⟩ | exact Nat.le_of_ble_eq_true rfl | (refine ⟨by (try simp only [List.length_cons, List.length_nil]); omega, Int.le_trans (Int.mul_le_mul_of_nonneg_left (show (TInfo.bytes _ : Int) ≤ 64 from Int.ofNat_le.2 (Nat.le_of_ble_eq_true rfl)) (by omega)) (by (try simp only [List.length_cons, List.length_nil]); omega)⟩)) ?_; conv => whnf)))
    all_goals exact leaf0 rfl rfl rfl
/-- Has a sequence a star? -/
@[irreducible] def stB (s : Sq) : Bool := decide (0 ≤ ix42 (s.1 ++ s.2))
theorem stB_iff (s : Sq) : stB s = true ↔ 42 ∈ bl (s.1 ++ s.2) := by unfold stB ix42; rw [decide_eq_true_iff]; exact ixB_iff _ _
theorem stB_at (s : Sq) : stB s = true ↔ ∃ k, k < s.1.size + s.2.size ∧ ltN s k = 42 := by
  rw [stB_iff]
  have hl : (bl (s.1 ++ s.2)).length = s.1.size + s.2.size := by rw [bl_len, ByteArray.size_append]
  have hlt : ∀ k, k < s.1.size + s.2.size → ltN s k = byteAt (s.1 ++ s.2) k := fun k hk => by
    unfold ltN
    split
    · rw [byteAt_append_left (by assumption)]
    · rw [byteAt_append_right (by omega), Nat.mod_eq_of_lt (by omega)]
  constructor
  · intro h
    obtain ⟨k, hk, e⟩ := List.mem_iff_getElem.1 h
    refine ⟨k, by omega, ?_⟩
    rw [hlt k (by omega), byteAt_eq, List.getD_eq_getElem?_getD, List.getElem?_eq_getElem hk, e]; rfl
  · rintro ⟨k, hk, e⟩
    rw [hlt k hk, byteAt_eq, List.getD_eq_getElem?_getD, List.getElem?_eq_getElem (by omega)] at e
    refine List.mem_iff_getElem.2 ⟨k, by omega, UInt8.toNat_inj.1 ?_⟩
    exact e
theorem BitS.of {s : Sq} (h : IsSeq s) (hs : stB s = false) : BitS s := by
  have hno : ∀ k, k < s.1.size + s.2.size → ltN s k ≠ 42 := fun k hk e => by
    have := (stB_at s).2 ⟨k, hk, e⟩
    rw [hs] at this; cases this
  have let3 : ∀ b, letB b = true → b ≠ 42 → (b : Int) - 48 = 0 ∨ (b : Int) - 48 = 1 := fun b h1 h2 => by
    have := (letB_iff b).1 h1
    omega
  refine ⟨fun k hk => let3 _ (letS_at h.1.1 hk) (fun e => hno k (by omega) ?_), fun k hk => let3 _ (letS_at h.1.2 hk) (fun e => hno (s.1.size + k) (by omega) ?_), h.2.1.1⟩
  · unfold ltN; rw [if_pos hk]; exact e
  · unfold ltN; rw [if_neg (by omega), Nat.add_sub_cancel_left, Nat.mod_eq_of_lt hk]; exact e

/-! ### the result -/
@[irreducible] noncomputable def aoR (s : Sq) : Ang × Int := if isSeqB s = true then (if stB s = true then ((0, 0), 5) else if (aS s).2 ≤ 8191 then (aS s, 0) else ((0, 0), 3)) else ((0, 0), 1)
theorem aoR_i {s : Sq} (h : isSeqB s = false) : aoR s = ((0, 0), 1) := by unfold aoR; rw [h]; rfl
theorem aoR_s {s : Sq} (h : isSeqB s = true) (h2 : stB s = true) : aoR s = ((0, 0), 5) := by unfold aoR; rw [if_pos h, if_pos h2]
theorem aoR_l {s : Sq} (h : isSeqB s = true) (h2 : stB s = false) (h3 : ¬ (aS s).2 ≤ 8191) : aoR s = ((0, 0), 3) := by unfold aoR; rw [if_pos h, h2, if_neg h3]; rfl
theorem aoR_t {s : Sq} (h : isSeqB s = true) (h2 : stB s = false) (h3 : (aS s).2 ≤ 8191) : aoR s = (aS s, 0) := by unfold aoR; rw [if_pos h, h2, if_pos h3]; rfl
def aoC : PCtr := fun _ _ _ vals k => match vals with
  | [.agg [.str n, .str d]] => (True ∧ SzS (n, d)) ∧ ∀ q : Ang × Int, q = aoR (n, d) → k [] (.tup [.agg [.int .i64 q.1.1, .int .i64 q.1.2], .int .i64 q.2])
  | _ => False

/-! ### the program's -/
theorem or_bit {m y : Int} (h0 : 0 ≤ m) (h1 : m < 9223372036854775808) (hy : y = 0 ∨ y = 1) : IntKind.u64.wrap (((BitVec.ofInt 64 (m * 2 ^ 1)) ||| (BitVec.ofInt 64 y)).toNat) = 2 * m + y := by
  obtain ⟨n, rfl⟩ := Int.eq_ofNat_of_zero_le h0
  have e1 : ((n : Int) * 2 ^ 1) = ((2 * n : Nat) : Int) := by omega
  have hb : (BitVec.ofInt 64 ((n : Int) * 2 ^ 1)).toNat = 2 * n := by
    rw [e1, BitVec.ofInt_natCast, BitVec.toNat_ofNat]
    omega
  have hy' : ∃ z : Nat, y = z ∧ z < 2 := by
    rcases hy with h | h
    · exact ⟨0, h, by omega⟩
    · exact ⟨1, h, by omega⟩
  obtain ⟨z, rfl, hz⟩ := hy'
  have hb2 : (BitVec.ofInt 64 (z : Int)).toNat = z := by
    rw [BitVec.ofInt_natCast, BitVec.toNat_ofNat]
    omega
  have hor : 2 * n ||| z = 2 * n + z := by
    have := Nat.two_pow_add_eq_or_of_lt (i := 1) (b := z) (by omega) n
    rw [← this]
  rw [BitVec.toNat_or, hb, hb2, hor, wrap_of_rng]
  · omega
  · simp only [Rng]; omega
/-- A bit put in behind. -/
abbrev orU (x y : Int) : Int := IntKind.u64.wrap (((BitVec.ofInt IntKind.u64.bits x) ||| (BitVec.ofInt IntKind.u64.bits y)).toNat)
theorem orU_bit {m y : Int} (h0 : 0 ≤ m) (h1 : m < 9223372036854775808) (hy : y = 0 ∨ y = 1) : orU (m * 2 ^ (1 : Int).toNat) y = 2 * m + y := or_bit h0 h1 hy
theorem bytes_at (d : ByteArray) {g : Nat} (h : g < d.size) : (d.data.toList.map fun x => (x.toNat : Int)).getD g bT.dflt = (byteAt d g : Int) := by
  have hl : g < d.data.toList.length := by rw [← bl_len] at h; exact h
  rw [byteAt_eq]
  show _ = (((bl d).getD g 0).toNat : Int)
  unfold bl
  rw [List.getD_eq_getElem?_getD, List.getD_eq_getElem?_getD, List.getElem?_map, List.getElem?_eq_getElem hl]
  rfl
theorem pow_le64 {k : Nat} (h : k ≤ 64) : (1 : Int) ≤ 2 ^ k ∧ (2 : Int) ^ k ≤ 18446744073709551616 := by
  refine ⟨Int.pow_pos (by omega), ?_⟩
  have h1 : (2 : Nat) ^ k ≤ 2 ^ 64 := Nat.pow_le_pow_right (by omega) h
  have h2 : ((2 ^ k : Nat) : Int) ≤ ((2 ^ 64 : Nat) : Int) := Int.ofNat_le.2 h1
  rw [Int.natCast_pow, Int.natCast_pow] at h2
  exact h2
theorem pow_lt64 {k : Nat} (h : k < 64) : (2 : Int) ^ k ≤ 9223372036854775808 := by
  have h1 : (2 : Nat) ^ k ≤ 2 ^ 63 := Nat.pow_le_pow_right (by omega) (by omega)
  have h2 : ((2 ^ k : Nat) : Int) ≤ ((2 ^ 63 : Nat) : Int) := Int.ofNat_le.2 h1
  rw [Int.natCast_pow, Int.natCast_pow] at h2
  exact h2

abbrev GAo := (GOk.cons isSeq_ok (GOk.cons con_ok (GOk.cons angle_ok .nil)))
theorem ao_ok : PCtrOk Try.prog 60 aoC where
  enter := enter_ok Try.func60 (by kernel_rfl) rfl
  calls := by
    intro hg rg lr vals k h
    unfold aoC at h
    split at h
    case h_2 => exact h.elim
    rename_i n d
    obtain ⟨⟨_, hx⟩, hk⟩ := h
    replace hk := hk _ rfl
    refine ⟨_, _, hk, fun A w _ _ => ?_⟩
    refine enter T_ok GAo Try.func60 rfl (K := (· < w.heap.size)) (fun _ h => h) (A := A) (n0 := 0) (b0 := 0) (rows := []) (hp := []) rfl (Nat.zero_le _) (fun k r h => by cases h) rfl (fun k r h => by cases h) rfl rfl (Nat.le_of_ble_eq_true rfl) ?_
    conv => whnf
    repeat (refine V_step T_ok GAo rfl ?_; conv => whnf)
    have hx' : n.size + d.size ≤ 1048576 := hx
    repeat (any_goals (first
      | (refine V_step T_ok GAo rfl ?_; conv => whnf)
      | (refine V_drawA T_ok GAo mixed (by kernel_rfl) ?_; conv => whnf)
      | (refine bcond_split (fun hc => ?_) (fun hc => ?_) <;> (try simp only [decide_eq_true_eq, decide_eq_false_iff_not, Bool.not_eq_true', Bool.not_eq_false', Bool.and_eq_true, Bool.or_eq_true, Bool.and_eq_false_imp, Bool.or_eq_false_iff, ne_eq, Decidable.not_not] at hc) <;> conv => whnf)
      | (intro ysK hysK; have hysl := congrArg List.length hysK; (try simp only [List.length_set, List.length_append, List.length_cons, List.length_nil, List.length_take, List.length_drop, List.length_replicate] at hysl); conv => whnf)
      | (intro bK hbK; have hbl := congrArg ByteArray.size hbK; conv => whnf)
      | (intro sK hsK; conv => whnf)
      | (refine And.intro (by first | (first | exact True.intro | exact ⟨True.intro, hx⟩ | exact rfl | omega | with_reducible assumption) | exact True.intro | exact ⟨rfl, True.intro, fun _ _ => rfl⟩ | exact Nat.le_of_ble_eq_true rfl | (refine ⟨by (try simp only [List.length_cons, List.length_nil]); omega, Int.le_trans (Int.mul_le_mul_of_nonneg_left (show (TInfo.bytes _ : Int) ≤ 64 from Int.ofNat_le.2 (Nat.le_of_ble_eq_true rfl)) (by omega)) (by (try simp only [List.length_cons, List.length_nil]); omega)⟩)) ?_; conv => whnf)))
    · exact leaf0 rfl (by rw [aoR_i hc]) rfl
    · rename_i hq
      have hst : stB (n, d) = true := by unfold stB; exact decide_eq_true hc
      exact leaf0 rfl (by rw [aoR_s hq hst]) rfl
    · rename_i hq
      have hst : stB (n, d) = false := by unfold stB; exact decide_eq_false hc
      have hseq := (isSeqB_iff _).1 hq
      have hbit := BitS.of hseq hst
      have hd1 : 1 ≤ d.size := hseq.2.1.1
      have hd64 : n.size + d.size ≤ 64 := hseq.2.1.2
      have hml : (List.length (α := Int) (d.data.toList.map fun x => (x.toNat : Int)) : Int) = (d.size : Int) := by rw [List.length_map]; rfl
      refine V_loopH (γ := Nat × Int × Int) (fun g => g.1 ≤ d.size ∧ g.2.1 = nOf (dB d) g.1 ∧ g.2.2 = 2 ^ g.1 - 1) (fun g => d.size - g.1)
        (fun g => [(28, .int .i64 g.1), (4, .int .u64 g.2.1), (5, .int .u64 g.2.2)]) (fun _ => []) (fun _ => []) (0, 0, 0) ⟨Nat.zero_le _, rfl, by simp⟩ ?_ ?_
      · conv => whnf
        refine ⟨?_, by (conv => whnf); repeat (first | exact True.intro | (refine And.intro rfl ?_; conv => whnf)), by (conv => whnf); repeat (first | exact True.intro | (refine And.intro (by first | rfl | (subst_vars; rfl)) ?_; conv => whnf)), rfl, rfl, rfl, rfl, rfl, rfl, rfl, Nat.le_of_ble_eq_true rfl, Nat.le_of_ble_eq_true rfl⟩
        conv => whnf
        repeat (first | exact True.intro | (refine And.intro (by first | rfl | ((conv => whnf); exact congrArg (AVal.int .i64) (by omega)) | ((conv => whnf); exact congrArg (AVal.int .i64) (by simp only [Int.natCast_add, Int.natCast_one]; omega))) ?_; conv => whnf))
      · rintro ⟨g, a, b⟩ ⟨hg, ha, hb⟩
        simp only at hg ha hb
        have hbits : ∀ k, k < g → dB d k = 0 ∨ dB d k = 1 := fun k hk => hbit.two k (by show k < d.size; omega)
        have hr := nOf_rng g hbits
        have hp := pow_le64 (k := g) (by omega)
        rw [← ha] at hr
        have hdig : (g : Int) < (d.size : Nat) → (List.getD (d.data.toList.map fun x => (x.toNat : Int)) (g : Int).toNat bT.dflt) = (byteAt d g : Int) ∧ ((byteAt d g : Int) - 48 = 0 ∨ (byteAt d g : Int) - 48 = 1) ∧ (2 : Int) ^ g ≤ 9223372036854775808 := fun h => ⟨bytes_at d (by omega), hbit.two g (by show g < d.size; omega), pow_lt64 (by omega)⟩
        conv => whnf
        refine vcCode_sound T_ok GAo _ _ _ _ _ ?_
        conv => whnf
        repeat (refine V_step T_ok GAo rfl ?_; conv => whnf)
        repeat (any_goals (first
          | (refine V_step T_ok GAo rfl ?_; conv => whnf)
          | (refine V_drawA T_ok GAo mixed (by kernel_rfl) ?_; conv => whnf)
          | (refine bcond_split (fun hc => ?_) (fun hc => ?_) <;> (try simp only [decide_eq_true_eq, decide_eq_false_iff_not, Bool.not_eq_true', Bool.not_eq_false', Bool.and_eq_true, Bool.or_eq_true, Bool.and_eq_false_imp, Bool.or_eq_false_iff, ne_eq, Decidable.not_not] at hc) <;> conv => whnf)
          | (intro ysK hysK; have hysl := congrArg List.length hysK; (try simp only [List.length_set, List.length_append, List.length_cons, List.length_nil, List.length_take, List.length_drop, List.length_replicate] at hysl); conv => whnf)
          | (intro bK hbK; have hbl := congrArg ByteArray.size hbK; conv => whnf)
          | (intro sK hsK; conv => whnf)
          | (refine And.intro (by first | (first | exact True.intro | omega | (simp only [Rng]; omega) | (obtain ⟨w1, w2, w3⟩ := hdig (by omega); simp only [Rng, w1, Int.toNat_one, Int.pow_one]; omega)) | exact True.intro | exact ⟨rfl, True.intro, fun _ _ => rfl⟩ | exact Nat.le_of_ble_eq_true rfl | (refine ⟨by (try simp only [List.length_cons, List.length_nil]); omega, Int.le_trans (Int.mul_le_mul_of_nonneg_left (show (TInfo.bytes _ : Int) ≤ 64 from Int.ofNat_le.2 (Nat.le_of_ble_eq_true rfl)) (by omega)) (by (try simp only [List.length_cons, List.length_nil]); omega)⟩)) ?_; conv => whnf)))
        · have hl : (g : Int) < (d.size : Nat) := by omega
          obtain ⟨w1, w2, w3⟩ := hdig hl
          refine ⟨(g + 1, orU (a * 2 ^ (1 : Int).toNat) (List.getD (d.data.toList.map fun x => (x.toNat : Int)) (g : Int).toNat bT.dflt - 48), orU (b * 2 ^ (1 : Int).toNat) 1), ⟨by simp only; omega, ?_, ?_⟩, by simp only; omega, ?_⟩
          · simp only
            rw [w1, orU_bit (by omega) (by omega) w2, nOf, ← ha]; rfl
          · simp only
            rw [orU_bit (by omega) (by omega) (.inr rfl), Int.pow_succ]; omega
          · conv => whnf
            refine ⟨?_, by (conv => whnf); repeat (first | exact True.intro | (refine And.intro rfl ?_; conv => whnf)), by (conv => whnf); repeat (first | exact True.intro | (refine And.intro (by first | rfl | (subst_vars; rfl)) ?_; conv => whnf)), rfl, rfl, rfl, rfl, rfl, rfl, rfl, Nat.le_of_ble_eq_true rfl, Nat.le_of_ble_eq_true rfl⟩
            conv => whnf
            repeat (first | exact True.intro | (refine And.intro (by first | rfl | ((conv => whnf); exact congrArg (AVal.int .i64) (by omega)) | ((conv => whnf); exact congrArg (AVal.int .i64) (by simp only [Int.natCast_add, Int.natCast_one]; omega))) ?_; conv => whnf))
        · have hge : g = d.size := by omega
          subst hge
          refine V_loopH (γ := Int × Int) (fun g => (0 ≤ g.1 ∧ g.1 ≤ 18446744073709551615) ∧ (0 ≤ g.2 ∧ g.2 ≤ 18446744073709551615) ∧ Int.gcd g.1 g.2 = Int.gcd a b) (fun g => g.2.toNat)
            (fun g => [(8, .int .u64 g.1), (9, .int .u64 g.2)]) (fun _ => []) (fun _ => []) (a, b) ⟨by omega, by omega, rfl⟩ ?_ ?_
          · conv => whnf
            refine ⟨?_, by (conv => whnf); repeat (first | exact True.intro | (refine And.intro rfl ?_; conv => whnf)), by (conv => whnf); repeat (first | exact True.intro | (refine And.intro (by first | rfl | (subst_vars; rfl)) ?_; conv => whnf)), rfl, rfl, rfl, rfl, rfl, rfl, rfl, Nat.le_of_ble_eq_true rfl, Nat.le_of_ble_eq_true rfl⟩
            conv => whnf
            repeat (first | exact True.intro | (refine And.intro (by first | rfl | ((conv => whnf); exact congrArg (AVal.int .i64) (by omega)) | ((conv => whnf); exact congrArg (AVal.int .i64) (by simp only [Int.natCast_add, Int.natCast_one]; omega))) ?_; conv => whnf))
          · rintro ⟨x, y⟩ ⟨h1, h2, h5⟩
            simp only at h1 h2 h5
            have hgb : Int.gcd a b = Int.gcd b a := Int.gcd_comm a b
            have hdpos : (1 : Int) ≤ (Int.gcd b a : Nat) ∧ ((Int.gcd b a : Nat) : Int) ≤ b := by
              have hb2 := pow_two hd1
              have := Int.gcd_dvd_left (a := b) (b := a)
              have h7 := Int.le_of_dvd (by omega) this
              have h8 : (0 : Int) < (Int.gcd b a : Nat) := Int.ofNat_lt.2 (Int.gcd_pos_of_ne_zero_left _ (by omega))
              omega
            have hxz : y = 0 → x = (Int.gcd b a : Nat) := fun h => by
              rw [h, Int.gcd_zero_right, hgb] at h5
              omega
            have hqz : y = 0 → (0 ≤ a.tdiv x ∧ a.tdiv x ≤ a) ∧ (0 ≤ b.tdiv x ∧ b.tdiv x ≤ b) := fun h => by
              have hx1 := hxz h
              rw [Int.tdiv_eq_ediv_of_nonneg (by omega), Int.tdiv_eq_ediv_of_nonneg (by omega)]
              exact ⟨⟨Int.ediv_nonneg (by omega) (by omega), Int.ediv_le_self _ (by omega)⟩, Int.ediv_nonneg (by omega) (by omega), Int.ediv_le_self _ (by omega)⟩
            conv => whnf
            refine vcCode_sound T_ok GAo _ _ _ _ _ ?_
            conv => whnf
            repeat (refine V_step T_ok GAo rfl ?_; conv => whnf)
            repeat (any_goals (first
              | (refine V_step T_ok GAo rfl ?_; conv => whnf)
              | (refine V_drawA T_ok GAo mixed (by kernel_rfl) ?_; conv => whnf)
              | (refine bcond_split (fun hc => ?_) (fun hc => ?_) <;> (try simp only [decide_eq_true_eq, decide_eq_false_iff_not, Bool.not_eq_true', Bool.not_eq_false', Bool.and_eq_true, Bool.or_eq_true, Bool.and_eq_false_imp, Bool.or_eq_false_iff, ne_eq, Decidable.not_not] at hc) <;> conv => whnf)
              | (intro ysK hysK; have hysl := congrArg List.length hysK; (try simp only [List.length_set, List.length_append, List.length_cons, List.length_nil, List.length_take, List.length_drop, List.length_replicate] at hysl); conv => whnf)
              | (intro bK hbK; have hbl := congrArg ByteArray.size hbK; conv => whnf)
              | (intro sK hsK; conv => whnf)
              | (refine And.intro (by first | (first | exact True.intro | omega | (simp only [Rng]; omega) | (have h9 := hxz (by assumption); omega) | (have h9 := hqz (by assumption); simp only [Rng]; omega)) | exact True.intro | exact ⟨rfl, True.intro, fun _ _ => rfl⟩ | exact Nat.le_of_ble_eq_true rfl | (refine ⟨by (try simp only [List.length_cons, List.length_nil]); omega, Int.le_trans (Int.mul_le_mul_of_nonneg_left (show (TInfo.bytes _ : Int) ≤ 64 from Int.ofNat_le.2 (Nat.le_of_ble_eq_true rfl)) (by omega)) (by (try simp only [List.length_cons, List.length_nil]); omega)⟩)) ?_; conv => whnf)))
            · have e1 := Int.emod_nonneg x hc
              have e2 := Int.emod_lt_of_pos x (by omega : 0 < y)
              have e3 : x.tmod y = x % y := Int.tmod_eq_emod_of_nonneg h1.1
              refine ⟨(y, x.tmod y), ⟨h2, by simp only; omega, by rw [← h5]; exact gcd_step x y⟩, by simp only; omega, ?_⟩
              conv => whnf
              refine ⟨?_, by (conv => whnf); repeat (first | exact True.intro | (refine And.intro rfl ?_; conv => whnf)), by (conv => whnf); repeat (first | exact True.intro | (refine And.intro (by first | rfl | (subst_vars; rfl)) ?_; conv => whnf)), rfl, rfl, rfl, rfl, rfl, rfl, rfl, Nat.le_of_ble_eq_true rfl, Nat.le_of_ble_eq_true rfl⟩
              conv => whnf
              repeat (first | exact True.intro | (refine And.intro (by first | rfl | ((conv => whnf); exact congrArg (AVal.int .i64) (by omega)) | ((conv => whnf); exact congrArg (AVal.int .i64) (by simp only [Int.natCast_add, Int.natCast_one]; omega))) ?_; conv => whnf))
            · have hx1 := hxz hc
              have hb2 := pow_two hd1
              have hred0 := Red.start hbit a b ha hb
              rw [← hx1] at hred0
              have t1 : a.tdiv x = a / x := Int.tdiv_eq_ediv_of_nonneg (by omega)
              have t2 : b.tdiv x = b / x := Int.tdiv_eq_ediv_of_nonneg (by omega)
              rw [← t1, ← t2] at hred0
              refine V_loopH (γ := Nat × Int × Int) (fun g => g.1 ≤ n.size ∧ Red (n, d) g.1 g.2.1 g.2.2) (fun g => g.1)
                (fun g => [(10, .int .i64 ((g.1 : Int) - 1)), (4, .int .u64 g.2.1), (5, .int .u64 g.2.2)]) (fun _ => []) (fun _ => []) (n.size, a.tdiv x, b.tdiv x) ⟨Nat.le_refl _, hred0⟩ ?_ ?_
              · conv => whnf
                refine ⟨?_, by (conv => whnf); repeat (first | exact True.intro | (refine And.intro rfl ?_; conv => whnf)), by (conv => whnf); repeat (first | exact True.intro | (refine And.intro (by first | rfl | (subst_vars; rfl)) ?_; conv => whnf)), rfl, rfl, rfl, rfl, rfl, rfl, rfl, Nat.le_of_ble_eq_true rfl, Nat.le_of_ble_eq_true rfl⟩
                conv => whnf
                repeat (first | exact True.intro | (refine And.intro (by first | rfl | ((conv => whnf); exact congrArg (AVal.int .i64) (by omega)) | ((conv => whnf); exact congrArg (AVal.int .i64) (by simp only [Int.natCast_add, Int.natCast_one]; omega))) ?_; conv => whnf))
              · rintro ⟨g, u, v⟩ ⟨hg1, hg2⟩
                simp only at hg1 hg2
                have k1 := hg2.d1
                have k2 := hg2.n0
                have k3 := hg2.nd
                have hdig : (0 : Int) ≤ (g : Int) - 1 → ((g : Int) - 1).toNat = g - 1 ∧ ((byteAt n (g - 1) : Int) - 48 = 0 ∨ (byteAt n (g - 1) : Int) - 48 = 1) := fun h => ⟨by omega, hbit.one (g - 1) (by show g - 1 < n.size; omega)⟩
                have hmul : (0 : Int) ≤ (g : Int) - 1 → v ≤ 8191 → (u + v * ((byteAt n ((g : Int) - 1).toNat : Int) - 48) % 18446744073709551616) % 18446744073709551616 = u + v * dB n (g - 1) ∧ 0 ≤ u + v * dB n (g - 1) ∧ u + v * dB n (g - 1) ≤ 16382 := fun h h2 => by
                  obtain ⟨w1, w2⟩ := hdig h
                  rw [w1]
                  show (u + v * dB n (g - 1) % 18446744073709551616) % 18446744073709551616 = _ ∧ _
                  have w2 : dB n (g - 1) = 0 ∨ dB n (g - 1) = 1 := w2
                  rcases w2 with w2 | w2 <;> rw [w2] <;> omega
                conv => whnf
                refine vcCode_sound T_ok GAo _ _ _ _ _ ?_
                conv => whnf
                repeat (refine V_step T_ok GAo rfl ?_; conv => whnf)
                repeat (any_goals (first
                  | (refine V_step T_ok GAo rfl ?_; conv => whnf)
                  | (refine V_drawA T_ok GAo mixed (by kernel_rfl) ?_; conv => whnf)
                  | (refine bcond_split (fun hc => ?_) (fun hc => ?_) <;> (try simp only [decide_eq_true_eq, decide_eq_false_iff_not, Bool.not_eq_true', Bool.not_eq_false', Bool.and_eq_true, Bool.or_eq_true, Bool.and_eq_false_imp, Bool.or_eq_false_iff, ne_eq, Decidable.not_not] at hc) <;> conv => whnf)
                  | (intro ysK hysK; have hysl := congrArg List.length hysK; (try simp only [List.length_set, List.length_append, List.length_cons, List.length_nil, List.length_take, List.length_drop, List.length_replicate] at hysl); conv => whnf)
                  | (intro bK hbK; have hbl := congrArg ByteArray.size hbK; conv => whnf)
                  | (intro sK hsK; conv => whnf)
                  | (refine And.intro (by first | (first | exact True.intro | omega | (simp only [Rng]; omega) | (obtain ⟨w1, w2⟩ := hdig (by omega); simp only [Rng, w1]; omega) | (have h9 := hmul (by omega) (by omega); simp only [Rng, h9.1, Int.tdiv_eq_ediv_of_nonneg h9.2.1]; omega) | (have h9 := hmul (by omega) (by omega); simp only [Rng, h9.1]; omega)) | exact True.intro | exact ⟨rfl, True.intro, fun _ _ => rfl⟩ | exact Nat.le_of_ble_eq_true rfl | (refine ⟨by (try simp only [List.length_cons, List.length_nil]); omega, Int.le_trans (Int.mul_le_mul_of_nonneg_left (show (TInfo.bytes _ : Int) ≤ 64 from Int.ofNat_le.2 (Nat.le_of_ble_eq_true rfl)) (by omega)) (by (try simp only [List.length_cons, List.length_nil]); omega)⟩)) ?_; conv => whnf)))
                · have h9 := hmul (by assumption) (by assumption)
                  obtain ⟨i, rfl⟩ : ∃ i, g = i + 1 := ⟨g - 1, by omega⟩
                  have hnx := Red.next hbit (show i < n.size by omega) hg2
                  have e1 : i + 1 - 1 = i := by omega
                  rw [h9.1, e1, Int.tmod_eq_emod_of_nonneg (by rw [e1] at h9; exact h9.2.1)] at hc
                  refine ⟨(i, ((u + v * ((byteAt n (((i + 1 : Nat) : Int) - 1).toNat : Int) - 48) % 18446744073709551616) % 18446744073709551616).tdiv 2, v), ⟨by simp only; omega, ?_⟩, by simp only; omega, ?_⟩
                  rotate_left 1
                  · conv => whnf
                    refine ⟨?_, by (conv => whnf); repeat (first | exact True.intro | (refine And.intro rfl ?_; conv => whnf)), by (conv => whnf); repeat (first | exact True.intro | (refine And.intro (by first | rfl | (subst_vars; rfl)) ?_; conv => whnf)), rfl, rfl, rfl, rfl, rfl, rfl, rfl, Nat.le_of_ble_eq_true rfl, Nat.le_of_ble_eq_true rfl⟩
                    conv => whnf
                    repeat (first | exact True.intro | (refine And.intro (by first | rfl | ((conv => whnf); exact congrArg (AVal.int .i64) (by omega)) | ((conv => whnf); exact congrArg (AVal.int .i64) (by simp only [Int.natCast_add, Int.natCast_one]; omega))) ?_; conv => whnf))
                  · simp only
                    rw [h9.1, Int.tdiv_eq_ediv_of_nonneg h9.2.1, e1]
                    exact hnx.1 hc
                · have h9 := hmul (by assumption) (by assumption)
                  obtain ⟨i, rfl⟩ : ∃ i, g = i + 1 := ⟨g - 1, by omega⟩
                  have hnx := Red.next hbit (show i < n.size by omega) hg2
                  have e1 : i + 1 - 1 = i := by omega
                  rw [h9.1, e1, Int.tmod_eq_emod_of_nonneg (by rw [e1] at h9; exact h9.2.1)] at hc
                  refine ⟨(i, (u + v * ((byteAt n (((i + 1 : Nat) : Int) - 1).toNat : Int) - 48) % 18446744073709551616) % 18446744073709551616, v * 2 % 18446744073709551616), ⟨by simp only; omega, ?_⟩, by simp only; omega, ?_⟩
                  · simp only
                    have h10 : v * 2 % 18446744073709551616 = 2 * v := by omega
                    rw [h9.1, h10, e1]
                    exact hnx.2 hc
                  · conv => whnf
                    refine ⟨?_, by (conv => whnf); repeat (first | exact True.intro | (refine And.intro rfl ?_; conv => whnf)), by (conv => whnf); repeat (first | exact True.intro | (refine And.intro (by first | rfl | (subst_vars; rfl)) ?_; conv => whnf)), rfl, rfl, rfl, rfl, rfl, rfl, rfl, Nat.le_of_ble_eq_true rfl, Nat.le_of_ble_eq_true rfl⟩
                    conv => whnf
                    repeat (first | exact True.intro | (refine And.intro (by first | rfl | ((conv => whnf); exact congrArg (AVal.int .i64) (by omega)) | ((conv => whnf); exact congrArg (AVal.int .i64) (by simp only [Int.natCast_add, Int.natCast_one]; omega))) ?_; conv => whnf))
                · have h9 := Int.le_of_dvd (show 0 < (aS (n, d)).2 by have := (aS_f (s := (n, d)) hd1).1; omega) (Red.dvd hbit hg2)
                  exact leaf0 rfl (by rw [aoR_l hq hst (by omega)]) rfl
                · omega
                · have h9 := Int.le_of_dvd (show 0 < (aS (n, d)).2 by have := (aS_f (s := (n, d)) hd1).1; omega) (Red.dvd hbit hg2)
                  exact leaf0 rfl (by rw [aoR_l hq hst (by omega)]) rfl
                · obtain rfl : g = 0 := by omega
                  have e9 := Red.done hbit hg2
                  have h9 := (ofQ_bd u v (by omega)).2.2
                  rw [e9] at h9
                  refine leaf0 rfl ?_ rfl
                  rw [aoR_t hq hst (by omega), ← e9]
end Go.Proofs.Ytlplngafncobkac.Fw
-- %intro
