/- Contracts of the reference: the angle of a sequence; the law. -/
import Derived.Test.YtlplngafncobkacS16
namespace Go.Proofs.Ytlplngafncobkac.Fw
open Go Go.RowKit
set_option linter.unusedVariables false
set_option linter.unusedSimpArgs false
set_option maxRecDepth 100000
set_option maxHeartbeats 2000000

def atC : PCtr := fun _ _ _ vals k => match vals with
  | [.agg [.str p, .str q], .int .i64 i] => ((1 ≤ q.size ∧ q.size ≤ 1048576) ∧ p.size ≤ 1048576 ∧ 0 ≤ i ∧ i ≤ 1048576) ∧ k [] (.int .u8 (ltN (p, q) i.toNat : Nat))
  | _ => False
theorem sAt_ok : PCtrOk Try.prog 103 atC where
  enter := enter_ok Try.func103 (by kernel_rfl) rfl
  calls := by
    intro hg rg lr vals k h
    unfold atC at h
    split at h
    case h_2 => exact h.elim
    rename_i p q i
    obtain ⟨⟨h1, h2, h3, h4⟩, hk⟩ := h
    refine ⟨_, _, hk, fun A w _ _ => ?_⟩
    refine enter T_ok .nil Try.func103 rfl (K := (· < w.heap.size)) (fun _ h => h) (A := A) (n0 := 0) (b0 := 0) (rows := []) (hp := []) rfl (Nat.zero_le _) (fun k r h => by cases h) rfl (fun k r h => by cases h) rfl rfl (Nat.le_of_ble_eq_true rfl) ?_
    conv => whnf
    repeat (refine V_step T_ok .nil rfl ?_; conv => whnf)
    have hm : ¬ i < (p.size : Nat) → (i - (p.size : Int)).tmod (q.size : Int) = (((i.toNat - p.size) % q.size : Nat) : Int) := fun h => by
      rw [Int.tmod_eq_emod_of_nonneg (by omega)]
      have : i - (p.size : Int) = ((i.toNat - p.size : Nat) : Int) := by omega
      rw [this]; rfl
    have hm2 : (i.toNat - p.size) % q.size < q.size := Nat.mod_lt _ (by omega)
    repeat (any_goals (first
      | (refine V_step T_ok .nil rfl ?_; conv => whnf)
      | (refine V_drawA T_ok .nil mixed (by kernel_rfl) ?_; conv => whnf)
      | (refine bcond_split (fun hc => ?_) (fun hc => ?_) <;> (try simp only [decide_eq_true_eq, decide_eq_false_iff_not, Bool.not_eq_true', Bool.not_eq_false', Bool.and_eq_true, Bool.or_eq_true, Bool.and_eq_false_imp, Bool.or_eq_false_iff, ne_eq, Decidable.not_not] at hc) <;> conv => whnf)
      | (intro ysK hysK; have hysl := congrArg List.length hysK; (try simp only [List.length_set, List.length_append, List.length_cons, List.length_nil, List.length_take, List.length_drop, List.length_replicate] at hysl); conv => whnf)
      | (intro bK hbK; have hbl := congrArg ByteArray.size hbK; conv => whnf)
      | (intro sK hsK; conv => whnf)
      | (refine And.intro (by first | (first | exact True.intro | omega | (simp only [Rng]; omega) | (have h9 := hm (by assumption); rw [h9]; omega) | (have h9 := hm (by assumption); simp only [Rng, h9]; omega)) | exact True.intro | exact ⟨rfl, True.intro, fun _ _ => rfl⟩ | exact Nat.le_of_ble_eq_true rfl | (refine ⟨by (try simp only [List.length_cons, List.length_nil]); omega, Int.le_trans (Int.mul_le_mul_of_nonneg_left (show (TInfo.bytes _ : Int) ≤ 64 from Int.ofNat_le.2 (Nat.le_of_ble_eq_true rfl)) (by omega)) (by (try simp only [List.length_cons, List.length_nil]); omega)⟩)) ?_; conv => whnf)))
    · refine leaf0 rfl (congrArg (AVal.int .u8) ?_) rfl
      unfold ltN
      rw [if_pos (by simp only; omega)]
    · refine leaf0 rfl (congrArg (AVal.int .u8) ?_) rfl
      unfold ltN
      rw [if_neg (by simp only; omega), hm hc]
      rfl
def sDg2C : PCtr := fun hg rg _ vals k => match vals with
  | [.agg [.int .i64 n, .int .i64 d]] => IsA (n, d) ∧ ∀ s : ByteArray, s = strOfNums [dgA (n, d)] → k [] (.str s)
  | _ => False
theorem sDg2_ok : PCtrOk Try.prog 133 sDg2C where
  enter := enter_ok Try.func133 (by kernel_rfl) rfl
  calls := by
    intro hg rg lr vals k h
    unfold sDg2C at h
    split at h
    case h_2 => exact h.elim
    rename_i n d
    obtain ⟨hx, hk⟩ := h
    replace hk := hk _ rfl
    refine ⟨_, _, hk, fun A w _ _ => ?_⟩
    refine enter T_ok .nil Try.func133 rfl (K := (· < w.heap.size)) (fun _ h => h) (A := A) (n0 := 0) (b0 := 0) (rows := []) (hp := []) rfl (Nat.zero_le _) (fun k r h => by cases h) rfl (fun k r h => by cases h) rfl rfl (Nat.le_of_ble_eq_true rfl) ?_
    conv => whnf
    repeat (refine V_step T_ok .nil rfl ?_; conv => whnf)
    obtain ⟨h1, h2⟩ := hx.bd
    simp only at h1 h2
    repeat (any_goals (first
      | (refine V_step T_ok .nil rfl ?_; conv => whnf)
      | (refine V_drawA T_ok .nil mixed (by kernel_rfl) ?_; conv => whnf)
      | (refine bcond_split (fun hc => ?_) (fun hc => ?_) <;> (try simp only [decide_eq_true_eq, decide_eq_false_iff_not, Bool.not_eq_true', Bool.not_eq_false', Bool.and_eq_true, Bool.or_eq_true, Bool.and_eq_false_imp, Bool.or_eq_false_iff, ne_eq, Decidable.not_not] at hc) <;> conv => whnf)
      | (intro ysK hysK; have hysl := congrArg List.length hysK; (try simp only [List.length_set, List.length_append, List.length_cons, List.length_nil, List.length_take, List.length_drop, List.length_replicate] at hysl); conv => whnf)
      | (intro bK hbK; have hbl := congrArg ByteArray.size hbK; conv => whnf)
      | (intro sK hsK; conv => whnf)
      | (refine And.intro (by first | (first | exact True.intro | omega | (simp only [Rng]; omega)) | exact True.intro | exact ⟨rfl, True.intro, fun _ _ => rfl⟩ | exact Nat.le_of_ble_eq_true rfl | (refine ⟨by (try simp only [List.length_cons, List.length_nil]); omega, Int.le_trans (Int.mul_le_mul_of_nonneg_left (show (TInfo.bytes _ : Int) ≤ 64 from Int.ofNat_le.2 (Nat.le_of_ble_eq_true rfl)) (by omega)) (by (try simp only [List.length_cons, List.length_nil]); omega)⟩)) ?_; conv => whnf)))
    · exact leaf0 rfl (congrArg AVal.str (by rw [show dgA (n, d) = 49 from if_pos hc]; rfl)) rfl
    · exact leaf0 rfl (congrArg AVal.str (by rw [show dgA (n, d) = 48 from if_neg hc]; rfl)) rfl
theorem dg_byte (x : Ang) : ((byteAt (strOfNums [dgA x]) 0 : Nat) : Int) = dgA x := by
  rcases dgA_cases x with h | h <;> rw [h] <;> rfl

/-! ### does an angle begin so? -/
def begC : PCtr := fun _ _ _ vals k => match vals with
  | [.agg [.int .i64 n, .int .i64 d], .agg [.str p, .str q]] => (IsA (n, d) ∧ (1 ≤ q.size ∧ p.size + q.size ≤ 1000)) ∧ k [] (.bool (begB (n, d) (p, q)))
  | _ => False
abbrev GBe := (GOk.cons sDg2_ok (GOk.cons sAt_ok (GOk.cons sDouble_ok .nil)))
theorem beg_no {a : Ang} {s : Sq} {k : Nat} (h : k < s.1.size + s.2.size) (hn : ¬ dgA (itA a k) = (ltN s k : Int)) : begB a s = false := by
  unfold begB
  rw [Bool.and_eq_false_iff]
  left
  rw [List.all_eq_false]
  exact ⟨k, List.mem_range.2 h, by simpa using hn⟩
theorem beg_end {a : Ang} {s : Sq} (h : ∀ k, k < s.1.size + s.2.size → dgA (itA a k) = (ltN s k : Int)) : begB a s = decide (itA a (s.1.size + s.2.size) = itA a s.1.size) := by
  unfold begB
  have : (List.range (s.1.size + s.2.size)).all (fun k => decide (dgA (itA a k) = (ltN s k : Int))) = true := List.all_eq_true.2 fun k hk => decide_eq_true (h k (List.mem_range.1 hk))
  rw [this, Bool.true_and]
theorem pair_dec (a b : Ang) : (decide (a.1 = b.1) && decide (a.2 = b.2)) = decide (a = b) := by
  rw [Bool.eq_iff_iff, Bool.and_eq_true, decide_eq_true_iff, decide_eq_true_iff, decide_eq_true_iff]
  exact ⟨fun h => Prod.ext h.1 h.2, fun h => by rw [h]; exact ⟨rfl, rfl⟩⟩
theorem beg_ok : PCtrOk Try.prog 136 begC where
  enter := enter_ok Try.func136 (by kernel_rfl) rfl
  calls := by
    intro hg rg lr vals k h
    unfold begC at h
    split at h
    case h_2 => exact h.elim
    rename_i n d p q
    obtain ⟨⟨hA, hq1, hq2⟩, hk⟩ := h
    refine ⟨_, _, hk, fun A w _ _ => ?_⟩
    refine enter T_ok GBe Try.func136 rfl (K := (· < w.heap.size)) (fun _ h => h) (A := A) (n0 := 0) (b0 := 0) (rows := []) (hp := []) rfl (Nat.zero_le _) (fun k r h => by cases h) rfl (fun k r h => by cases h) rfl rfl (Nat.le_of_ble_eq_true rfl) ?_
    conv => whnf
    repeat (refine V_step T_ok GBe rfl ?_; conv => whnf)
    refine V_loopH (γ := Nat) (fun g => g ≤ p.size + q.size ∧ ∀ k, k < g → dgA (itA (n, d) k) = (ltN (p, q) k : Int)) (fun g => p.size + q.size - g)
      (fun g => [(6, .int .i64 g)]) (fun g => [(2, [.int .i64 (itA (n, d) g).1, .int .i64 (itA (n, d) g).2])]) (fun _ => []) 0 ⟨Nat.zero_le _, fun k h => absurd h (Nat.not_lt_zero _)⟩ ?_ ?_
    · conv => whnf
      refine ⟨?_, by (conv => whnf); repeat (first | exact True.intro | (refine And.intro rfl ?_; conv => whnf)), by (conv => whnf); repeat (first | exact True.intro | (refine And.intro (by first | rfl | (subst_vars; rfl)) ?_; conv => whnf)), rfl, rfl, rfl, rfl, rfl, rfl, rfl, Nat.le_of_ble_eq_true rfl, Nat.le_of_ble_eq_true rfl⟩
      conv => whnf
      repeat (first | exact True.intro | (refine And.intro (by first | rfl | ((conv => whnf); exact congrArg (AVal.int .i64) (by omega)) | ((conv => whnf); exact congrArg (AVal.int .i64) (by simp only [Int.natCast_add, Int.natCast_one]; omega))) ?_; conv => whnf))
    · rintro g ⟨hg1, hg2⟩
      have hAg := hA.it g
      have hbg := hAg.bd
      have hone : ∀ b : ByteArray, b = strOfNums [dgA ((itA (n, d) g).1, (itA (n, d) g).2)] → b.size = 1 ∧ ((byteAt b 0 : Nat) : Int) = dgA (itA (n, d) g) := fun b h => by
        subst h
        exact ⟨by rw [strOfNums_size]; rfl, dg_byte _⟩
      conv => whnf
      refine vcCode_sound T_ok GBe _ _ _ _ _ ?_
      conv => whnf
      repeat (refine V_step T_ok GBe rfl ?_; conv => whnf)
      repeat (any_goals (first
        | (refine V_step T_ok GBe rfl ?_; conv => whnf)
        | (refine V_drawN T_ok GBe mixed (by kernel_rfl) ?_; conv => whnf)
        | (refine bcond_split (fun hc => ?_) (fun hc => ?_) <;> (try simp only [decide_eq_true_eq, decide_eq_false_iff_not, Bool.not_eq_true', Bool.not_eq_false', Bool.and_eq_true, Bool.or_eq_true, Bool.and_eq_false_imp, Bool.or_eq_false_iff, ne_eq, Decidable.not_not] at hc) <;> conv => whnf)
        | (intro ysK hysK; have hysl := congrArg List.length hysK; (try simp only [List.length_set, List.length_append, List.length_cons, List.length_nil, List.length_take, List.length_drop, List.length_replicate] at hysl); conv => whnf)
        | (intro bK hbK; have hbl := congrArg ByteArray.size hbK; conv => whnf)
        | (intro sK hsK; conv => whnf)
        | (refine And.intro (by first | (first | exact True.intro | exact hAg | exact hbg | omega | (simp only [Rng]; omega) | (have h9 := (hone _ hbK).1; omega)) | exact True.intro | exact ⟨rfl, True.intro, fun _ _ => rfl⟩ | exact Nat.le_of_ble_eq_true rfl | (refine ⟨by (try simp only [List.length_cons, List.length_nil]); omega, Int.le_trans (Int.mul_le_mul_of_nonneg_left (show (TInfo.bytes _ : Int) ≤ 64 from Int.ofNat_le.2 (Nat.le_of_ble_eq_true rfl)) (by omega)) (by (try simp only [List.length_cons, List.length_nil]); omega)⟩)) ?_; conv => whnf)))
      · have h9 := (hone _ hbK).2
        have hno : ¬ dgA (itA (n, d) g) = (ltN (p, q) g : Int) := fun h => hc (h9.trans h)
        exact leaf0 rfl (congrArg AVal.bool (beg_no (s := (p, q)) (by show g < p.size + q.size; omega) hno).symm) rfl
      · have h9 := (hone _ hbK).2
        have hyes : dgA (itA (n, d) g) = (ltN (p, q) g : Int) := h9.symm.trans hc
        refine ⟨g + 1, ⟨by omega, fun k hk => ?_⟩, by omega, ?_⟩
        · rcases Nat.lt_or_ge k g with h | h
          · exact hg2 k h
          · obtain rfl : k = g := by omega
            exact hyes
        · conv => whnf
          refine ⟨?_, by (conv => whnf); repeat (first | exact True.intro | (refine And.intro rfl ?_; conv => whnf)), by (conv => whnf); repeat (first | exact True.intro | (refine And.intro (by first | rfl | (subst_vars; rfl)) ?_; conv => whnf)), rfl, rfl, rfl, rfl, rfl, rfl, rfl, Nat.le_of_ble_eq_true rfl, Nat.le_of_ble_eq_true rfl⟩
          conv => whnf
          repeat (first | exact True.intro | (refine And.intro (by first | rfl | ((conv => whnf); exact congrArg (AVal.int .i64) (by omega)) | ((conv => whnf); exact congrArg (AVal.int .i64) (by simp only [Int.natCast_add, Int.natCast_one]; omega))) ?_; conv => whnf))
      · obtain rfl : g = p.size + q.size := by omega
        refine V_loopH (γ := Nat) (fun g => g ≤ p.size) (fun g => p.size - g)
          (fun g => [(8, .int .i64 g)]) (fun g => [(3, [.int .i64 (itA (n, d) g).1, .int .i64 (itA (n, d) g).2])]) (fun _ => []) 0 (Nat.zero_le _) ?_ ?_
        · conv => whnf
          refine ⟨?_, by (conv => whnf); repeat (first | exact True.intro | (refine And.intro rfl ?_; conv => whnf)), by (conv => whnf); repeat (first | exact True.intro | (refine And.intro (by first | rfl | (subst_vars; rfl)) ?_; conv => whnf)), rfl, rfl, rfl, rfl, rfl, rfl, rfl, Nat.le_of_ble_eq_true rfl, Nat.le_of_ble_eq_true rfl⟩
          conv => whnf
          repeat (first | exact True.intro | (refine And.intro (by first | rfl | ((conv => whnf); exact congrArg (AVal.int .i64) (by omega)) | ((conv => whnf); exact congrArg (AVal.int .i64) (by simp only [Int.natCast_add, Int.natCast_one]; omega))) ?_; conv => whnf))
        · rintro g hg
          have hbg2 := (hA.it g).bd
          conv => whnf
          refine vcCode_sound T_ok GBe _ _ _ _ _ ?_
          conv => whnf
          repeat (refine V_step T_ok GBe rfl ?_; conv => whnf)
          repeat (any_goals (first
            | (refine V_step T_ok GBe rfl ?_; conv => whnf)
            | (refine V_drawA T_ok GBe mixed (by kernel_rfl) ?_; conv => whnf)
            | (refine bcond_split (fun hc => ?_) (fun hc => ?_) <;> (try simp only [decide_eq_true_eq, decide_eq_false_iff_not, Bool.not_eq_true', Bool.not_eq_false', Bool.and_eq_true, Bool.or_eq_true, Bool.and_eq_false_imp, Bool.or_eq_false_iff, ne_eq, Decidable.not_not] at hc) <;> conv => whnf)
            | (intro ysK hysK; have hysl := congrArg List.length hysK; (try simp only [List.length_set, List.length_append, List.length_cons, List.length_nil, List.length_take, List.length_drop, List.length_replicate] at hysl); conv => whnf)
            | (intro bK hbK; have hbl := congrArg ByteArray.size hbK; conv => whnf)
            | (intro sK hsK; conv => whnf)
            | (refine And.intro (by first | (first | exact True.intro | exact hbg2 | omega | (simp only [Rng]; omega)) | exact True.intro | exact ⟨rfl, True.intro, fun _ _ => rfl⟩ | exact Nat.le_of_ble_eq_true rfl | (refine ⟨by (try simp only [List.length_cons, List.length_nil]); omega, Int.le_trans (Int.mul_le_mul_of_nonneg_left (show (TInfo.bytes _ : Int) ≤ 64 from Int.ofNat_le.2 (Nat.le_of_ble_eq_true rfl)) (by omega)) (by (try simp only [List.length_cons, List.length_nil]); omega)⟩)) ?_; conv => whnf)))
          · refine ⟨g + 1, by omega, by omega, ?_⟩
            conv => whnf
            refine ⟨?_, by (conv => whnf); repeat (first | exact True.intro | (refine And.intro rfl ?_; conv => whnf)), by (conv => whnf); repeat (first | exact True.intro | (refine And.intro (by first | rfl | (subst_vars; rfl)) ?_; conv => whnf)), rfl, rfl, rfl, rfl, rfl, rfl, rfl, Nat.le_of_ble_eq_true rfl, Nat.le_of_ble_eq_true rfl⟩
            conv => whnf
            repeat (first | exact True.intro | (refine And.intro (by first | rfl | ((conv => whnf); exact congrArg (AVal.int .i64) (by omega)) | ((conv => whnf); exact congrArg (AVal.int .i64) (by simp only [Int.natCast_add, Int.natCast_one]; omega))) ?_; conv => whnf))
          · obtain rfl : g = p.size := by omega
            refine leaf0 rfl (congrArg AVal.bool ?_) rfl
            rw [beg_end (s := (p, q)) hg2]
            exact pair_dec _ _

/-! ### the value -/
theorem LowS.of {s : Sq} (h : IsSeq s) (hb : BitS s) (h1 : s.2 ≠ ByteArray.mk #[49]) : LowS s := by
  refine { hb with low := nOf_lt _ hb.two ?_ }
  refine Classical.byContradiction fun hno => h1 ?_
  have hall : ∀ i, i < s.2.size → byteAt s.2 i = 49 := fun i hi => by
    rcases hb.two i hi with h0 | h0
    · exact absurd ⟨i, hi, h0⟩ hno
    · unfold dB at h0; omega
  -- the shortest word of ones has one letter
  have hroot : IsRoot s.2 1 := by
    refine ⟨⟨Nat.le_refl _, Nat.mod_one _, fun i hi1 hi2 => ?_⟩, fun j hj hp => by have := hp.1; omega⟩
    rw [bl_len] at hi2
    rw [← byteAt_inj, hall i hi2, hall (i - 1) (by omega)]
  have hk := rootK_of hroot h.2.1.1
  have hs := (strip_size s.1.size s.1 (wordR s.2) (by rw [wordR_size h.2.1.1, hk]; exact Nat.le_refl _)).2
  have heq : stripB s.1.size s.1 (wordR s.2) = s := h.2.2
  rw [heq, wordR_size h.2.1.1, hk] at hs
  apply bl_inj
  have hl : (bl s.2).length = 1 := by rw [bl_len]; exact hs
  refine List.ext_getElem (by rw [hl]; rfl) fun i h1 h2 => ?_
  have hi : i = 0 := by omega
  subst hi
  have := hall 0 (by omega)
  rw [byteAt_eq, List.getD_eq_getElem?_getD, List.getElem?_eq_getElem h1] at this
  exact UInt8.toNat_inj.1 this
/-- What is told by ones for ever behind a 0. -/
def oneS (p : ByteArray) : Sq := (p.extract 0 ((p.size : Int) - 1).toNat ++ ByteArray.mk #[49], ByteArray.mk #[48])
theorem last_zero {s : Sq} (h : IsSeq s) (hb : BitS s) (h1 : s.2 = ByteArray.mk #[49]) (h0 : 1 ≤ s.1.size) : dB s.1 (s.1.size - 1) = 0 := by
  rcases hb.one (s.1.size - 1) (by omega) with h2 | h2
  · exact h2
  · exfalso
    have hsz : s.2.size = 1 := by rw [h1]; rfl
    have e1 : byteAt s.1 (s.1.size - 1) = 49 := by unfold dB at h2; omega
    have hw : wordR s.2 = s.2 := by
      have hk := (rootK_spec s.2 (by omega))
      have := hk.1.1.1
      have e : rootK s.2 = 1 := by omega
      unfold wordR
      rw [e]
      apply bl_inj
      rw [bl_extract, List.drop_zero, List.take_of_length_le (by rw [bl_len, hsz]; exact Nat.le_refl _)]
    have heq : stripB s.1.size s.1 (wordR s.2) = s := h.2.2
    rw [hw] at heq
    have e2 : byteAt s.2 (s.2.size - 1) = 49 := by rw [hsz, h1]; rfl
    rw [strip_go ⟨by omega, by rw [e1, e2]⟩] at heq
    have h3 := (strip_size (s.1.extract 0 (s.1.size - 1)).size (s.1.extract 0 (s.1.size - 1)) (s.2.extract (s.2.size - 1) s.2.size ++ s.2.extract 0 (s.2.size - 1)) (by rw [turn_size _ (by omega)]; omega)).1
    rw [heq, size_extract _ _ _ (by omega)] at h3
    omega
theorem oneS_sz {p : ByteArray} (h0 : 1 ≤ p.size) : (oneS p).1.size = p.size ∧ (oneS p).2.size = 1 := by
  refine ⟨?_, rfl⟩
  show (p.extract 0 ((p.size : Int) - 1).toNat ++ ByteArray.mk #[49]).size = _
  rw [ByteArray.size_append, size_extract _ _ _ (by omega)]
  have : (ByteArray.mk #[49]).size = 1 := rfl
  omega
theorem oneS_at {p : ByteArray} (h0 : 1 ≤ p.size) {k : Nat} (hk : k < p.size) : dB (oneS p).1 k = if k = p.size - 1 then 1 else dB p k := by
  have he : (p.extract 0 ((p.size : Int) - 1).toNat).size = p.size - 1 := by rw [size_extract _ _ _ (by omega)]; omega
  unfold dB
  show (byteAt (p.extract 0 ((p.size : Int) - 1).toNat ++ ByteArray.mk #[49]) k : Int) - 48 = _
  split
  · rename_i h
    rw [byteAt_append_right (by rw [he]; omega), he, h, Nat.sub_self]; rfl
  · rw [byteAt_append_left (by rw [he]; omega)]
    congr 2
    rw [byteAt_eq, byteAt_eq, bl_extract, List.drop_zero, List.getD_eq_getElem?_getD, List.getElem?_take, if_pos (by omega), ← List.getD_eq_getElem?_getD]
theorem oneS_low {p : ByteArray} (h0 : 1 ≤ p.size) (hb : ∀ k, k < p.size → dB p k = 0 ∨ dB p k = 1) : LowS (oneS p) := by
  obtain ⟨z1, z2⟩ := oneS_sz h0
  refine ⟨⟨fun k hk => ?_, fun k hk => ?_, by omega⟩, ?_⟩
  · rw [z1] at hk
    rw [oneS_at h0 hk]
    split
    · exact .inr rfl
    · exact hb k hk
  · obtain rfl : k = 0 := by omega
    exact .inl rfl
  · rw [z2]; exact (by decide : nOf (dB (ByteArray.mk #[48])) 1 < 2 ^ 1 - 1)
theorem oneS_eq {s : Sq} (h : IsSeq s) (hb : BitS s) (h1 : s.2 = ByteArray.mk #[49]) (h0 : 1 ≤ s.1.size) : aS (oneS s.1) = aS s := by
  obtain ⟨z1, z2⟩ := oneS_sz h0
  have hl := last_zero h hb h1 h0
  have hsz : s.2.size = 1 := by rw [h1]; rfl
  obtain ⟨m, hm⟩ : ∃ m, s.1.size = m + 1 := ⟨s.1.size - 1, by omega⟩
  have e1 : nOf (dB (oneS s.1).1) m = nOf (dB s.1) m := nOf_congr m fun i hi => by rw [oneS_at h0 (by omega), if_neg (by omega)]
  have et : topN (oneS s.1) = topN s := by
    unfold topN
    rw [z1, z2, hsz, hm, show nOf (dB (oneS s.1).1) (m + 1) = 2 * nOf (dB (oneS s.1).1) m + dB (oneS s.1).1 m from rfl, show nOf (dB s.1) (m + 1) = 2 * nOf (dB s.1) m + dB s.1 m from rfl, e1, oneS_at h0 (by omega), if_pos (by omega), show dB s.1 m = 0 by rw [← hl]; congr 1; omega]
    have f1 : nOf (dB (oneS s.1).2) 1 = 0 := rfl
    have f2 : nOf (dB s.2) 1 = 1 := by rw [h1]; rfl
    rw [f1, f2]; omega
  have eb : botN (oneS s.1) = botN s := by unfold botN; rw [z1, z2, hsz]
  unfold aS
  rw [et, eb]

def valC : PCtr := fun _ _ _ vals k => match vals with
  | [.agg [.str n, .str d]] => (IsSeq (n, d) ∧ BitS (n, d)) ∧ ∀ q : Ang × Bool, q = (if (aS (n, d)).2 ≤ 8191 then (aS (n, d), true) else ((0, 0), false)) → k [] (.tup [.agg [.int .i64 q.1.1, .int .i64 q.1.2], .bool q.2])
  | _ => False
theorem val_t {s : Sq} (h : (aS s).2 ≤ 8191) : (if (aS s).2 ≤ 8191 then (aS s, true) else (((0, 0) : Ang), false)) = (aS s, true) := if_pos h
theorem val_f {s : Sq} (h : ¬ (aS s).2 ≤ 8191) : (if (aS s).2 ≤ 8191 then (aS s, true) else (((0, 0) : Ang), false)) = ((0, 0), false) := if_neg h
theorem numD_fdiv (f d : Int) : (f * d + 1073741824 - 1).fdiv (2 ^ (30 : Int).toNat) = numD f d := by
  unfold numD
  rw [Int.fdiv_eq_ediv_of_nonneg _ (by decide)]
  rfl
structure LoS (n d : ByteArray) (s : Sq) : Prop where
  low : LowS s
  eq : aS s = aS (n, d)
  sz : s.1.size + s.2.size ≤ 64
theorem val_key {s : Sq} (h : LowS s) (g : Nat) (h1 : 1 ≤ g) (h2 : g ≤ 8191) (e : (g : Int) = (aS s).2) : numD (nOf (dS s) 30) g * 1073741824 < (nOf (dS s) 30 + 1) * (g : Int) ∧ numD (nOf (dS s) 30) g < g ∧ ((Int.gcd (numD (nOf (dS s) 30) g) g : Nat) : Int) = 1 ∧ begB (numD (nOf (dS s) 30) g, (g : Int)) s = true := by
  obtain ⟨k1, k2, k3, k4, k5⟩ := search_yes h (by omega)
  rw [e, k1]
  exact ⟨k2, k3, by rw [Int.gcd_comm, k4]; rfl, k5⟩
theorem val_bound {s : Sq} (h : LowS s) : 0 ≤ nOf (dS s) 30 ∧ nOf (dS s) 30 ≤ 1073741823 := by
  have := nOf_rng (b := dS s) 30 (fun i _ => h.d i)
  exact ⟨this.1, Int.le_trans this.2 (by decide)⟩
theorem aS_one : aS (ByteArray.mk #[], ByteArray.mk #[49]) = (0, 1) := by decide +kernel
abbrev GVa := (GOk.cons sAt_ok (GOk.cons sDiv_ok (GOk.cons beg_ok .nil)))
theorem val_ok : PCtrOk Try.prog 104 valC where
  enter := enter_ok Try.func104 (by kernel_rfl) rfl
  calls := by
    intro hg rg lr vals k h
    unfold valC at h
    split at h
    case h_2 => exact h.elim
    rename_i n d
    obtain ⟨⟨hseq, hbit⟩, hk⟩ := h
    replace hk := hk _ rfl
    refine ⟨_, _, hk, fun A w _ _ => ?_⟩
    refine enter T_ok GVa Try.func104 rfl (K := (· < w.heap.size)) (fun _ h => h) (A := A) (n0 := 0) (b0 := 0) (rows := []) (hp := []) rfl (Nat.zero_le _) (fun k r h => by cases h) rfl (fun k r h => by cases h) rfl rfl (Nat.le_of_ble_eq_true rfl) ?_
    conv => whnf
    repeat (refine V_step T_ok GVa rfl ?_; conv => whnf)
    have hsz := hseq.2.1.2
    have hd1 : 1 ≤ d.size := hseq.2.1.1
    simp only at hsz
    have hA0 : ¬ d = ByteArray.mk #[49] → LoS n d (n, d) := fun h => ⟨LowS.of hseq hbit h, rfl, hsz⟩
    have hA1 : d = ByteArray.mk #[49] → ¬ n = ByteArray.mk #[] → LoS n d (oneS n) := fun h h2 => by
      have h3 := szne h2
      obtain ⟨z1, z2⟩ := oneS_sz h3
      exact ⟨oneS_low h3 hbit.one, oneS_eq (s := (n, d)) hseq hbit h h3, by omega⟩
    have hn1 : ¬ n = ByteArray.mk #[] → 1 ≤ n.size := szne
    have h49 : (ByteArray.mk #[49]).size = 1 := rfl
    have hex : ¬ n = ByteArray.mk #[] → (n.extract 0 ((n.size : Int) - 1).toNat).size + (ByteArray.mk #[49]).size ≤ 9223372036854775807 := fun h => by
      have := hn1 h
      rw [size_extract _ _ _ (by omega)]; omega
    repeat (any_goals (first
      | (refine V_step T_ok GVa rfl ?_; conv => whnf)
      | (refine V_drawA T_ok GVa mixed (by kernel_rfl) ?_; conv => whnf)
      | (refine bcond_split (fun hc => ?_) (fun hc => ?_) <;> (try simp only [decide_eq_true_eq, decide_eq_false_iff_not, Bool.not_eq_true', Bool.not_eq_false', Bool.and_eq_true, Bool.or_eq_true, Bool.and_eq_false_imp, Bool.or_eq_false_iff, ne_eq, Decidable.not_not] at hc) <;> conv => whnf)
      | (intro ysK hysK; have hysl := congrArg List.length hysK; (try simp only [List.length_set, List.length_append, List.length_cons, List.length_nil, List.length_take, List.length_drop, List.length_replicate] at hysl); conv => whnf)
      | (intro bK hbK; have hbl := congrArg ByteArray.size hbK; conv => whnf)
      | (intro sK hsK; conv => whnf)
      | (refine And.intro (by first | (first | exact True.intro | omega | (have := hn1 (by assumption); omega) | (have := hn1 (by assumption); simp only [Rng]; omega) | exact hex (by assumption)) | exact True.intro | exact ⟨rfl, True.intro, fun _ _ => rfl⟩ | exact Nat.le_of_ble_eq_true rfl | (refine ⟨by (try simp only [List.length_cons, List.length_nil]); omega, Int.le_trans (Int.mul_le_mul_of_nonneg_left (show (TInfo.bytes _ : Int) ≤ 64 from Int.ofNat_le.2 (Nat.le_of_ble_eq_true rfl)) (by omega)) (by (try simp only [List.length_cons, List.length_nil]); omega)⟩)) ?_; conv => whnf)))
    · rename_i hd9
      subst hd9
      subst hc
      refine leaf0 rfl ?_ rfl
      rw [val_t (by rw [aS_one]; decide), aS_one]
    · rename_i hd9
      refine V_loopH (γ := Sq × Nat) (fun g => LoS n d g.1 ∧ g.2 ≤ 30) (fun g => 30 - g.2)
        (fun g => [(4, .int .i64 (nOf (dS g.1) g.2)), (5, .int .i64 g.2)]) (fun g => [(0, [.str g.1.1, .str g.1.2])]) (fun _ => []) (oneS n, 0) ⟨hA1 hd9 hc, Nat.zero_le _⟩ ?_ ?_
      · conv => whnf
        refine ⟨?_, by (conv => whnf); repeat (first | exact True.intro | (refine And.intro rfl ?_; conv => whnf)), by (conv => whnf); repeat (first | exact True.intro | (refine And.intro (by first | rfl | (subst_vars; rfl)) ?_; conv => whnf)), rfl, rfl, rfl, rfl, rfl, rfl, rfl, Nat.le_of_ble_eq_true rfl, Nat.le_of_ble_eq_true rfl⟩
        conv => whnf
        repeat (first | exact True.intro | (refine And.intro (by first | rfl | ((conv => whnf); exact congrArg (AVal.int .i64) (by omega)) | ((conv => whnf); exact congrArg (AVal.int .i64) (by simp only [Int.natCast_add, Int.natCast_one]; omega))) ?_; conv => whnf))
      · rintro ⟨s, g⟩ ⟨hs, hg⟩
        simp only at hs hg
        have hfr := nOf_rng (b := dS s) g (fun i _ => hs.low.d i)
        have hdg := hs.low.d g
        have hpw : (2 : Int) ^ g ≤ 1073741824 := by
          have h1 : (2 : Nat) ^ g ≤ 2 ^ 30 := Nat.pow_le_pow_right (by omega) hg
          have h2 : ((2 ^ g : Nat) : Int) ≤ ((2 ^ 30 : Nat) : Int) := Int.ofNat_le.2 h1
          rw [Int.natCast_pow, Int.natCast_pow] at h2
          exact h2
        have hpos := hs.low.pos
        have hssz := hs.sz
        have hlt0 : (ltN (s.1, s.2) (g : Int).toNat : Int) = 48 ∨ (ltN (s.1, s.2) (g : Int).toNat : Int) = 49 := by
          have h9 : (ltN s g : Int) - 48 = 0 ∨ (ltN s g : Int) - 48 = 1 := hdg
          show (ltN s g : Int) = 48 ∨ (ltN s g : Int) = 49
          omega
        conv => whnf
        refine vcCode_sound T_ok GVa _ _ _ _ _ ?_
        conv => whnf
        repeat (refine V_step T_ok GVa rfl ?_; conv => whnf)
        repeat (any_goals (first
          | (refine V_step T_ok GVa rfl ?_; conv => whnf)
          | (refine V_drawA T_ok GVa mixed (by kernel_rfl) ?_; conv => whnf)
          | (refine bcond_split (fun hc => ?_) (fun hc => ?_) <;> (try simp only [decide_eq_true_eq, decide_eq_false_iff_not, Bool.not_eq_true', Bool.not_eq_false', Bool.and_eq_true, Bool.or_eq_true, Bool.and_eq_false_imp, Bool.or_eq_false_iff, ne_eq, Decidable.not_not] at hc) <;> conv => whnf)
          | (intro ysK hysK; have hysl := congrArg List.length hysK; (try simp only [List.length_set, List.length_append, List.length_cons, List.length_nil, List.length_take, List.length_drop, List.length_replicate] at hysl); conv => whnf)
          | (intro bK hbK; have hbl := congrArg ByteArray.size hbK; conv => whnf)
          | (intro sK hsK; conv => whnf)
          | (refine And.intro (by first | (first | exact True.intro | omega | (simp only [Rng]; omega)) | exact True.intro | exact ⟨rfl, True.intro, fun _ _ => rfl⟩ | exact Nat.le_of_ble_eq_true rfl | (refine ⟨by (try simp only [List.length_cons, List.length_nil]); omega, Int.le_trans (Int.mul_le_mul_of_nonneg_left (show (TInfo.bytes _ : Int) ≤ 64 from Int.ofNat_le.2 (Nat.le_of_ble_eq_true rfl)) (by omega)) (by (try simp only [List.length_cons, List.length_nil]); omega)⟩)) ?_; conv => whnf)))
        · refine ⟨(s, g + 1), ⟨hs, by simp only; omega⟩, by simp only; omega, ?_⟩
          conv => whnf
          refine ⟨?_, by (conv => whnf); repeat (first | exact True.intro | (refine And.intro rfl ?_; conv => whnf)), by (conv => whnf); repeat (first | exact True.intro | (refine And.intro (by first | rfl | (subst_vars; rfl)) ?_; conv => whnf)), rfl, rfl, rfl, rfl, rfl, rfl, rfl, Nat.le_of_ble_eq_true rfl, Nat.le_of_ble_eq_true rfl⟩
          conv => whnf
          repeat (first | exact True.intro | (refine And.intro (by first | rfl | ((conv => whnf); exact congrArg (AVal.int .i64) (by omega)) | ((conv => whnf); exact congrArg (AVal.int .i64) (by simp only [Int.natCast_add, Int.natCast_one]; omega))) ?_; conv => whnf))
        · obtain rfl : g = 30 := by omega
          have key := val_key hs.low
          have hfr2 := val_bound hs.low
          refine V_loopH (γ := Nat) (fun g => (1 ≤ g ∧ g ≤ 8192) ∧ (g : Int) ≤ (aS s).2) (fun g => 8192 - g)
            (fun g => [(6, .int .i64 g)]) (fun _ => []) (fun _ => []) 1 ⟨⟨Nat.le_refl _, by omega⟩, by have := (aS_f hpos).1; omega⟩ ?_ ?_
          · conv => whnf
            refine ⟨?_, by (conv => whnf); repeat (first | exact True.intro | (refine And.intro rfl ?_; conv => whnf)), by (conv => whnf); repeat (first | exact True.intro | (refine And.intro (by first | rfl | (subst_vars; rfl)) ?_; conv => whnf)), rfl, rfl, rfl, rfl, rfl, rfl, rfl, Nat.le_of_ble_eq_true rfl, Nat.le_of_ble_eq_true rfl⟩
            conv => whnf
            repeat (first | exact True.intro | (refine And.intro (by first | rfl | ((conv => whnf); exact congrArg (AVal.int .i64) (by omega)) | ((conv => whnf); exact congrArg (AVal.int .i64) (by simp only [Int.natCast_add, Int.natCast_one]; omega))) ?_; conv => whnf))
          · rintro g ⟨⟨hg1, hg2⟩, hg3⟩
            have hN := numD_fdiv (nOf (dS s) 30) g
            have hfd : 0 ≤ nOf (dS s) 30 * (g : Int) ∧ nOf (dS s) 30 * (g : Int) ≤ 1073741823 * 8192 := ⟨Int.mul_nonneg hfr2.1 (by omega), Int.le_trans (Int.mul_le_mul hfr2.2 (show (g : Int) ≤ 8192 by omega) (by omega) (by omega)) (by omega)⟩
            have hf1 : (nOf (dS s) 30 + 1) * (g : Int) = nOf (dS s) 30 * g + g := by rw [Int.add_mul, Int.one_mul]
            have hnb : 0 ≤ numD (nOf (dS s) 30) g ∧ numD (nOf (dS s) 30) g ≤ 16384 := by
              unfold numD
              omega
            have hpre : ¬ (g : Int) ≤ numD (nOf (dS s) 30) g → ((Int.gcd (numD (nOf (dS s) 30) g) g : Nat) : Int) = 1 → g ≤ 8191 → IsA (numD (nOf (dS s) 30) g, (g : Int)) := fun h1 h2 h3 =>
              ⟨⟨by simp only; omega, by simp only; omega⟩, ⟨hnb.1, by simp only; omega⟩, by rw [Int.gcd_comm]; exact h2⟩
            have hpreR : ¬ (g : Int) ≤ (nOf (dS s) 30 * g + 1073741824 - 1).fdiv (2 ^ (30 : Int).toNat) → ((Int.gcd ((nOf (dS s) 30 * g + 1073741824 - 1).fdiv (2 ^ (30 : Int).toNat)) g : Nat) : Int) = 1 → g ≤ 8191 → IsA ((nOf (dS s) 30 * g + 1073741824 - 1).fdiv (2 ^ (30 : Int).toNat), (g : Int)) ∧ 1 ≤ s.2.size ∧ s.1.size + s.2.size ≤ 1000 := fun h1 h2 h3 => by
              rw [hN] at h1 h2 ⊢
              exact ⟨hpre h1 h2 h3, hpos, by omega⟩
            have hnext : g ≤ 8191 → (((nOf (dS s) 30 + 1) * (g : Int) ≤ numD (nOf (dS s) 30) g * 1073741824) ∨ (g : Int) ≤ numD (nOf (dS s) 30) g ∨ ¬ ((Int.gcd (numD (nOf (dS s) 30) g) g : Nat) : Int) = 1 ∨ begB (numD (nOf (dS s) 30) g, (g : Int)) s = false) → ((g + 1 : Nat) : Int) ≤ (aS s).2 := fun h1 h2 => by
              have hne : ¬ (g : Int) = (aS s).2 := fun e => by
                obtain ⟨k1, k2, k3, k4⟩ := key g hg1 h1 e
                rcases h2 with h2 | h2 | h2 | h2
                · omega
                · omega
                · rw [k3] at h2; exact h2 rfl
                · rw [k4] at h2; cases h2
              omega
            conv => whnf
            refine vcCode_sound T_ok GVa _ _ _ _ _ ?_
            conv => whnf
            repeat (refine V_step T_ok GVa rfl ?_; conv => whnf)
            repeat (any_goals (first
              | (refine V_step T_ok GVa rfl ?_; conv => whnf)
              | (refine V_drawA T_ok GVa mixed (by kernel_rfl) ?_; conv => whnf)
              | (refine bcond_split (fun hc => ?_) (fun hc => ?_) <;> (try simp only [decide_eq_true_eq, decide_eq_false_iff_not, Bool.not_eq_true', Bool.not_eq_false', Bool.and_eq_true, Bool.or_eq_true, Bool.and_eq_false_imp, Bool.or_eq_false_iff, ne_eq, Decidable.not_not] at hc) <;> conv => whnf)
              | (intro ysK hysK; have hysl := congrArg List.length hysK; (try simp only [List.length_set, List.length_append, List.length_cons, List.length_nil, List.length_take, List.length_drop, List.length_replicate] at hysl); conv => whnf)
              | (intro bK hbK; have hbl := congrArg ByteArray.size hbK; conv => whnf)
              | (intro sK hsK; conv => whnf)
              | (refine And.intro (by first | (first | exact True.intro | omega | (simp only [Rng]; omega) | (simp only [Rng, hN, hf1]; omega) | (rw [hN]; omega) | exact hpreR (by assumption) (by assumption) (by omega)) | exact True.intro | exact ⟨rfl, True.intro, fun _ _ => rfl⟩ | exact Nat.le_of_ble_eq_true rfl | (refine ⟨by (try simp only [List.length_cons, List.length_nil]); omega, Int.le_trans (Int.mul_le_mul_of_nonneg_left (show (TInfo.bytes _ : Int) ≤ 64 from Int.ofNat_le.2 (Nat.le_of_ble_eq_true rfl)) (by omega)) (by (try simp only [List.length_cons, List.length_nil]); omega)⟩)) ?_; conv => whnf)))
            · rw [hN] at hc
              refine ⟨g + 1, ⟨⟨by omega, by omega⟩, hnext (by omega) (.inl hc)⟩, by omega, ?_⟩
              conv => whnf
              refine ⟨?_, by (conv => whnf); repeat (first | exact True.intro | (refine And.intro rfl ?_; conv => whnf)), by (conv => whnf); repeat (first | exact True.intro | (refine And.intro (by first | rfl | (subst_vars; rfl)) ?_; conv => whnf)), rfl, rfl, rfl, rfl, rfl, rfl, rfl, Nat.le_of_ble_eq_true rfl, Nat.le_of_ble_eq_true rfl⟩
              conv => whnf
              repeat (first | exact True.intro | (refine And.intro (by first | rfl | ((conv => whnf); exact congrArg (AVal.int .i64) (by omega)) | ((conv => whnf); exact congrArg (AVal.int .i64) (by simp only [Int.natCast_add, Int.natCast_one]; omega))) ?_; conv => whnf))
            · rw [hN] at hc
              refine ⟨g + 1, ⟨⟨by omega, by omega⟩, hnext (by omega) (.inr (.inl hc))⟩, by omega, ?_⟩
              conv => whnf
              refine ⟨?_, by (conv => whnf); repeat (first | exact True.intro | (refine And.intro rfl ?_; conv => whnf)), by (conv => whnf); repeat (first | exact True.intro | (refine And.intro (by first | rfl | (subst_vars; rfl)) ?_; conv => whnf)), rfl, rfl, rfl, rfl, rfl, rfl, rfl, Nat.le_of_ble_eq_true rfl, Nat.le_of_ble_eq_true rfl⟩
              conv => whnf
              repeat (first | exact True.intro | (refine And.intro (by first | rfl | ((conv => whnf); exact congrArg (AVal.int .i64) (by omega)) | ((conv => whnf); exact congrArg (AVal.int .i64) (by simp only [Int.natCast_add, Int.natCast_one]; omega))) ?_; conv => whnf))
            · rw [hN] at hc
              refine ⟨g + 1, ⟨⟨by omega, by omega⟩, hnext (by omega) (.inr (.inr (.inl hc)))⟩, by omega, ?_⟩
              conv => whnf
              refine ⟨?_, by (conv => whnf); repeat (first | exact True.intro | (refine And.intro rfl ?_; conv => whnf)), by (conv => whnf); repeat (first | exact True.intro | (refine And.intro (by first | rfl | (subst_vars; rfl)) ?_; conv => whnf)), rfl, rfl, rfl, rfl, rfl, rfl, rfl, Nat.le_of_ble_eq_true rfl, Nat.le_of_ble_eq_true rfl⟩
              conv => whnf
              repeat (first | exact True.intro | (refine And.intro (by first | rfl | ((conv => whnf); exact congrArg (AVal.int .i64) (by omega)) | ((conv => whnf); exact congrArg (AVal.int .i64) (by simp only [Int.natCast_add, Int.natCast_one]; omega))) ?_; conv => whnf))
            · rename_i hg8 _ hng hgc
              have hc' : begB ((nOf (dS s) 30 * g + 1073741824 - 1).fdiv (2 ^ (30 : Int).toNat), (g : Int)) s = true := hc
              obtain ⟨hI, _⟩ := hpreR hng hgc (by omega)
              have hIF := (begB_iff hI.f hs.low).1 hc'
              have e1 : aS (n, d) = ((nOf (dS s) 30 * g + 1073741824 - 1).fdiv (2 ^ (30 : Int).toNat), (g : Int)) := hs.eq.symm.trans hIF.symm
              have h8 : (aS (n, d)).2 ≤ 8191 := by rw [e1]; simp only; omega
              refine leaf0 rfl ?_ rfl
              rw [val_t h8, e1]
            · have hc' : begB ((nOf (dS s) 30 * g + 1073741824 - 1).fdiv (2 ^ (30 : Int).toNat), (g : Int)) s = false := hc
              rw [hN] at hc'
              refine ⟨g + 1, ⟨⟨by omega, by omega⟩, hnext (by omega) (.inr (.inr (.inr hc')))⟩, by omega, ?_⟩
              conv => whnf
              refine ⟨?_, by (conv => whnf); repeat (first | exact True.intro | (refine And.intro rfl ?_; conv => whnf)), by (conv => whnf); repeat (first | exact True.intro | (refine And.intro (by first | rfl | (subst_vars; rfl)) ?_; conv => whnf)), rfl, rfl, rfl, rfl, rfl, rfl, rfl, Nat.le_of_ble_eq_true rfl, Nat.le_of_ble_eq_true rfl⟩
              conv => whnf
              repeat (first | exact True.intro | (refine And.intro (by first | rfl | ((conv => whnf); exact congrArg (AVal.int .i64) (by omega)) | ((conv => whnf); exact congrArg (AVal.int .i64) (by simp only [Int.natCast_add, Int.natCast_one]; omega))) ?_; conv => whnf))
            · refine leaf0 rfl ?_ rfl
              rw [val_f (by rw [← hs.eq]; omega)]
    · skip
      refine V_loopH (γ := Sq × Nat) (fun g => LoS n d g.1 ∧ g.2 ≤ 30) (fun g => 30 - g.2)
        (fun g => [(4, .int .i64 (nOf (dS g.1) g.2)), (5, .int .i64 g.2)]) (fun g => [(0, [.str g.1.1, .str g.1.2])]) (fun _ => []) ((n, d), 0) ⟨hA0 hc, Nat.zero_le _⟩ ?_ ?_
      · conv => whnf
        refine ⟨?_, by (conv => whnf); repeat (first | exact True.intro | (refine And.intro rfl ?_; conv => whnf)), by (conv => whnf); repeat (first | exact True.intro | (refine And.intro (by first | rfl | (subst_vars; rfl)) ?_; conv => whnf)), rfl, rfl, rfl, rfl, rfl, rfl, rfl, Nat.le_of_ble_eq_true rfl, Nat.le_of_ble_eq_true rfl⟩
        conv => whnf
        repeat (first | exact True.intro | (refine And.intro (by first | rfl | ((conv => whnf); exact congrArg (AVal.int .i64) (by omega)) | ((conv => whnf); exact congrArg (AVal.int .i64) (by simp only [Int.natCast_add, Int.natCast_one]; omega))) ?_; conv => whnf))
      · rintro ⟨s, g⟩ ⟨hs, hg⟩
        simp only at hs hg
        have hfr := nOf_rng (b := dS s) g (fun i _ => hs.low.d i)
        have hdg := hs.low.d g
        have hpw : (2 : Int) ^ g ≤ 1073741824 := by
          have h1 : (2 : Nat) ^ g ≤ 2 ^ 30 := Nat.pow_le_pow_right (by omega) hg
          have h2 : ((2 ^ g : Nat) : Int) ≤ ((2 ^ 30 : Nat) : Int) := Int.ofNat_le.2 h1
          rw [Int.natCast_pow, Int.natCast_pow] at h2
          exact h2
        have hpos := hs.low.pos
        have hssz := hs.sz
        have hlt0 : (ltN (s.1, s.2) (g : Int).toNat : Int) = 48 ∨ (ltN (s.1, s.2) (g : Int).toNat : Int) = 49 := by
          have h9 : (ltN s g : Int) - 48 = 0 ∨ (ltN s g : Int) - 48 = 1 := hdg
          show (ltN s g : Int) = 48 ∨ (ltN s g : Int) = 49
          omega
        conv => whnf
        refine vcCode_sound T_ok GVa _ _ _ _ _ ?_
        conv => whnf
        repeat (refine V_step T_ok GVa rfl ?_; conv => whnf)
        repeat (any_goals (first
          | (refine V_step T_ok GVa rfl ?_; conv => whnf)
          | (refine V_drawA T_ok GVa mixed (by kernel_rfl) ?_; conv => whnf)
          | (refine bcond_split (fun hc => ?_) (fun hc => ?_) <;> (try simp only [decide_eq_true_eq, decide_eq_false_iff_not, Bool.not_eq_true', Bool.not_eq_false', Bool.and_eq_true, Bool.or_eq_true, Bool.and_eq_false_imp, Bool.or_eq_false_iff, ne_eq, Decidable.not_not] at hc) <;> conv => whnf)
          | (intro ysK hysK; have hysl := congrArg List.length hysK; (try simp only [List.length_set, List.length_append, List.length_cons, List.length_nil, List.length_take, List.length_drop, List.length_replicate] at hysl); conv => whnf)
          | (intro bK hbK; have hbl := congrArg ByteArray.size hbK; conv => whnf)
          | (intro sK hsK; conv => whnf)
          | (refine And.intro (by first | (first | exact True.intro | omega | (simp only [Rng]; omega)) | exact True.intro | exact ⟨rfl, True.intro, fun _ _ => rfl⟩ | exact Nat.le_of_ble_eq_true rfl | (refine ⟨by (try simp only [List.length_cons, List.length_nil]); omega, Int.le_trans (Int.mul_le_mul_of_nonneg_left (show (TInfo.bytes _ : Int) ≤ 64 from Int.ofNat_le.2 (Nat.le_of_ble_eq_true rfl)) (by omega)) (by (try simp only [List.length_cons, List.length_nil]); omega)⟩)) ?_; conv => whnf)))
        · refine ⟨(s, g + 1), ⟨hs, by simp only; omega⟩, by simp only; omega, ?_⟩
          conv => whnf
          refine ⟨?_, by (conv => whnf); repeat (first | exact True.intro | (refine And.intro rfl ?_; conv => whnf)), by (conv => whnf); repeat (first | exact True.intro | (refine And.intro (by first | rfl | (subst_vars; rfl)) ?_; conv => whnf)), rfl, rfl, rfl, rfl, rfl, rfl, rfl, Nat.le_of_ble_eq_true rfl, Nat.le_of_ble_eq_true rfl⟩
          conv => whnf
          repeat (first | exact True.intro | (refine And.intro (by first | rfl | ((conv => whnf); exact congrArg (AVal.int .i64) (by omega)) | ((conv => whnf); exact congrArg (AVal.int .i64) (by simp only [Int.natCast_add, Int.natCast_one]; omega))) ?_; conv => whnf))
        · obtain rfl : g = 30 := by omega
          have key := val_key hs.low
          have hfr2 := val_bound hs.low
          refine V_loopH (γ := Nat) (fun g => (1 ≤ g ∧ g ≤ 8192) ∧ (g : Int) ≤ (aS s).2) (fun g => 8192 - g)
            (fun g => [(6, .int .i64 g)]) (fun _ => []) (fun _ => []) 1 ⟨⟨Nat.le_refl _, by omega⟩, by have := (aS_f hpos).1; omega⟩ ?_ ?_
          · conv => whnf
            refine ⟨?_, by (conv => whnf); repeat (first | exact True.intro | (refine And.intro rfl ?_; conv => whnf)), by (conv => whnf); repeat (first | exact True.intro | (refine And.intro (by first | rfl | (subst_vars; rfl)) ?_; conv => whnf)), rfl, rfl, rfl, rfl, rfl, rfl, rfl, Nat.le_of_ble_eq_true rfl, Nat.le_of_ble_eq_true rfl⟩
            conv => whnf
            repeat (first | exact True.intro | (refine And.intro (by first | rfl | ((conv => whnf); exact congrArg (AVal.int .i64) (by omega)) | ((conv => whnf); exact congrArg (AVal.int .i64) (by simp only [Int.natCast_add, Int.natCast_one]; omega))) ?_; conv => whnf))
          · rintro g ⟨⟨hg1, hg2⟩, hg3⟩
            have hN := numD_fdiv (nOf (dS s) 30) g
            have hfd : 0 ≤ nOf (dS s) 30 * (g : Int) ∧ nOf (dS s) 30 * (g : Int) ≤ 1073741823 * 8192 := ⟨Int.mul_nonneg hfr2.1 (by omega), Int.le_trans (Int.mul_le_mul hfr2.2 (show (g : Int) ≤ 8192 by omega) (by omega) (by omega)) (by omega)⟩
            have hf1 : (nOf (dS s) 30 + 1) * (g : Int) = nOf (dS s) 30 * g + g := by rw [Int.add_mul, Int.one_mul]
            have hnb : 0 ≤ numD (nOf (dS s) 30) g ∧ numD (nOf (dS s) 30) g ≤ 16384 := by
              unfold numD
              omega
            have hpre : ¬ (g : Int) ≤ numD (nOf (dS s) 30) g → ((Int.gcd (numD (nOf (dS s) 30) g) g : Nat) : Int) = 1 → g ≤ 8191 → IsA (numD (nOf (dS s) 30) g, (g : Int)) := fun h1 h2 h3 =>
              ⟨⟨by simp only; omega, by simp only; omega⟩, ⟨hnb.1, by simp only; omega⟩, by rw [Int.gcd_comm]; exact h2⟩
            have hpreR : ¬ (g : Int) ≤ (nOf (dS s) 30 * g + 1073741824 - 1).fdiv (2 ^ (30 : Int).toNat) → ((Int.gcd ((nOf (dS s) 30 * g + 1073741824 - 1).fdiv (2 ^ (30 : Int).toNat)) g : Nat) : Int) = 1 → g ≤ 8191 → IsA ((nOf (dS s) 30 * g + 1073741824 - 1).fdiv (2 ^ (30 : Int).toNat), (g : Int)) ∧ 1 ≤ s.2.size ∧ s.1.size + s.2.size ≤ 1000 := fun h1 h2 h3 => by
              rw [hN] at h1 h2 ⊢
              exact ⟨hpre h1 h2 h3, hpos, by omega⟩
            have hnext : g ≤ 8191 → (((nOf (dS s) 30 + 1) * (g : Int) ≤ numD (nOf (dS s) 30) g * 1073741824) ∨ (g : Int) ≤ numD (nOf (dS s) 30) g ∨ ¬ ((Int.gcd (numD (nOf (dS s) 30) g) g : Nat) : Int) = 1 ∨ begB (numD (nOf (dS s) 30) g, (g : Int)) s = false) → ((g + 1 : Nat) : Int) ≤ (aS s).2 := fun h1 h2 => by
              have hne : ¬ (g : Int) = (aS s).2 := fun e => by
                obtain ⟨k1, k2, k3, k4⟩ := key g hg1 h1 e
                rcases h2 with h2 | h2 | h2 | h2
                · omega
                · omega
                · rw [k3] at h2; exact h2 rfl
                · rw [k4] at h2; cases h2
              omega
            conv => whnf
            refine vcCode_sound T_ok GVa _ _ _ _ _ ?_
            conv => whnf
            repeat (refine V_step T_ok GVa rfl ?_; conv => whnf)
            repeat (any_goals (first
              | (refine V_step T_ok GVa rfl ?_; conv => whnf)
              | (refine V_drawA T_ok GVa mixed (by kernel_rfl) ?_; conv => whnf)
              | (refine bcond_split (fun hc => ?_) (fun hc => ?_) <;> (try simp only [decide_eq_true_eq, decide_eq_false_iff_not, Bool.not_eq_true', Bool.not_eq_false', Bool.and_eq_true, Bool.or_eq_true, Bool.and_eq_false_imp, Bool.or_eq_false_iff, ne_eq, Decidable.not_not] at hc) <;> conv => whnf)
              | (intro ysK hysK; have hysl := congrArg List.length hysK; (try simp only [List.length_set, List.length_append, List.length_cons, List.length_nil, List.length_take, List.length_drop, List.length_replicate] at hysl); conv => whnf)
              | (intro bK hbK; have hbl := congrArg ByteArray.size hbK; conv => whnf)
              | (intro sK hsK; conv => whnf)
              | (refine And.intro (by first | (first | exact True.intro | omega | (simp only [Rng]; omega) | (simp only [Rng, hN, hf1]; omega) | (rw [hN]; omega) | exact hpreR (by assumption) (by assumption) (by omega)) | exact True.intro | exact ⟨rfl, True.intro, fun _ _ => rfl⟩ | exact Nat.le_of_ble_eq_true rfl | (refine ⟨by (try simp only [List.length_cons, List.length_nil]); omega, Int.le_trans (Int.mul_le_mul_of_nonneg_left (show (TInfo.bytes _ : Int) ≤ 64 from Int.ofNat_le.2 (Nat.le_of_ble_eq_true rfl)) (by omega)) (by (try simp only [List.length_cons, List.length_nil]); omega)⟩)) ?_; conv => whnf)))
            · rw [hN] at hc
              refine ⟨g + 1, ⟨⟨by omega, by omega⟩, hnext (by omega) (.inl hc)⟩, by omega, ?_⟩
              conv => whnf
              refine ⟨?_, by (conv => whnf); repeat (first | exact True.intro | (refine And.intro rfl ?_; conv => whnf)), by (conv => whnf); repeat (first | exact True.intro | (refine And.intro (by first | rfl | (subst_vars; rfl)) ?_; conv => whnf)), rfl, rfl, rfl, rfl, rfl, rfl, rfl, Nat.le_of_ble_eq_true rfl, Nat.le_of_ble_eq_true rfl⟩
              conv => whnf
              repeat (first | exact True.intro | (refine And.intro (by first | rfl | ((conv => whnf); exact congrArg (AVal.int .i64) (by omega)) | ((conv => whnf); exact congrArg (AVal.int .i64) (by simp only [Int.natCast_add, Int.natCast_one]; omega))) ?_; conv => whnf))
            · rw [hN] at hc
              refine ⟨g + 1, ⟨⟨by omega, by omega⟩, hnext (by omega) (.inr (.inl hc))⟩, by omega, ?_⟩
              conv => whnf
              refine ⟨?_, by (conv => whnf); repeat (first | exact True.intro | (refine And.intro rfl ?_; conv => whnf)), by (conv => whnf); repeat (first | exact True.intro | (refine And.intro (by first | rfl | (subst_vars; rfl)) ?_; conv => whnf)), rfl, rfl, rfl, rfl, rfl, rfl, rfl, Nat.le_of_ble_eq_true rfl, Nat.le_of_ble_eq_true rfl⟩
              conv => whnf
              repeat (first | exact True.intro | (refine And.intro (by first | rfl | ((conv => whnf); exact congrArg (AVal.int .i64) (by omega)) | ((conv => whnf); exact congrArg (AVal.int .i64) (by simp only [Int.natCast_add, Int.natCast_one]; omega))) ?_; conv => whnf))
            · rw [hN] at hc
              refine ⟨g + 1, ⟨⟨by omega, by omega⟩, hnext (by omega) (.inr (.inr (.inl hc)))⟩, by omega, ?_⟩
              conv => whnf
              refine ⟨?_, by (conv => whnf); repeat (first | exact True.intro | (refine And.intro rfl ?_; conv => whnf)), by (conv => whnf); repeat (first | exact True.intro | (refine And.intro (by first | rfl | (subst_vars; rfl)) ?_; conv => whnf)), rfl, rfl, rfl, rfl, rfl, rfl, rfl, Nat.le_of_ble_eq_true rfl, Nat.le_of_ble_eq_true rfl⟩
              conv => whnf
              repeat (first | exact True.intro | (refine And.intro (by first | rfl | ((conv => whnf); exact congrArg (AVal.int .i64) (by omega)) | ((conv => whnf); exact congrArg (AVal.int .i64) (by simp only [Int.natCast_add, Int.natCast_one]; omega))) ?_; conv => whnf))
            · rename_i hg8 _ hng hgc
              have hc' : begB ((nOf (dS s) 30 * g + 1073741824 - 1).fdiv (2 ^ (30 : Int).toNat), (g : Int)) s = true := hc
              obtain ⟨hI, _⟩ := hpreR hng hgc (by omega)
              have hIF := (begB_iff hI.f hs.low).1 hc'
              have e1 : aS (n, d) = ((nOf (dS s) 30 * g + 1073741824 - 1).fdiv (2 ^ (30 : Int).toNat), (g : Int)) := hs.eq.symm.trans hIF.symm
              have h8 : (aS (n, d)).2 ≤ 8191 := by rw [e1]; simp only; omega
              refine leaf0 rfl ?_ rfl
              rw [val_t h8, e1]
            · have hc' : begB ((nOf (dS s) 30 * g + 1073741824 - 1).fdiv (2 ^ (30 : Int).toNat), (g : Int)) s = false := hc
              rw [hN] at hc'
              refine ⟨g + 1, ⟨⟨by omega, by omega⟩, hnext (by omega) (.inr (.inr (.inr hc')))⟩, by omega, ?_⟩
              conv => whnf
              refine ⟨?_, by (conv => whnf); repeat (first | exact True.intro | (refine And.intro rfl ?_; conv => whnf)), by (conv => whnf); repeat (first | exact True.intro | (refine And.intro (by first | rfl | (subst_vars; rfl)) ?_; conv => whnf)), rfl, rfl, rfl, rfl, rfl, rfl, rfl, Nat.le_of_ble_eq_true rfl, Nat.le_of_ble_eq_true rfl⟩
              conv => whnf
              repeat (first | exact True.intro | (refine And.intro (by first | rfl | ((conv => whnf); exact congrArg (AVal.int .i64) (by omega)) | ((conv => whnf); exact congrArg (AVal.int .i64) (by simp only [Int.natCast_add, Int.natCast_one]; omega))) ?_; conv => whnf))
            · refine leaf0 rfl ?_ rfl
              rw [val_f (by rw [← hs.eq]; omega)]

end Go.Proofs.Ytlplngafncobkac.Fw
-- %intro
