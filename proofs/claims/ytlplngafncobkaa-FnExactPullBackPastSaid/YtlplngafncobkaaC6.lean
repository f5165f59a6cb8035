/- Contracts of the reference: angles and leaves. -/
import Derived.Test.YtlplngafncobkaaC5
namespace Go.Proofs.Ytlplngafncobkaa.Fw
open Go Go.RowKit
set_option linter.unusedVariables false
set_option linter.unusedSimpArgs false
set_option maxRecDepth 100000
set_option maxHeartbeats 2000000

theorem sIn_ok : PCtrOk Try.prog 149 withinC where
  enter := enter_ok Try.func149 (by kernel_rfl) rfl
  calls := by
    intro hg rg lr vals k h
    unfold withinC at h
    split at h
    case h_2 => exact h.elim
    rename_i n lo hi
    obtain ⟨_, hk⟩ := h
    refine ⟨_, _, hk, fun A w _ _ => ?_⟩
    refine enter T_ok .nil Try.func149 rfl (K := (· < w.heap.size)) (fun _ h => h) (A := A) (n0 := 0) (b0 := 0) (rows := []) (hp := []) rfl (Nat.zero_le _) (fun k r h => by cases h) rfl (fun k r h => by cases h) rfl rfl (Nat.le_of_ble_eq_true rfl) ?_
    conv => whnf
    repeat (refine V_step T_ok .nil rfl ?_; conv => whnf)
    repeat (any_goals (first
      | (refine V_step T_ok .nil rfl ?_; conv => whnf)
      | (refine V_drawA T_ok .nil mixed (by kernel_rfl) ?_; conv => whnf)
      | (refine bcond_split (fun hc => ?_) (fun hc => ?_) <;> (try simp only [decide_eq_true_eq, decide_eq_false_iff_not, Bool.not_eq_true', Bool.not_eq_false', Bool.and_eq_true, Bool.or_eq_true, Bool.and_eq_false_imp, Bool.or_eq_false_iff, ne_eq, Decidable.not_not] at hc) <;> conv => whnf)
      | (intro ysK hysK; have hysl := congrArg List.length hysK; (try simp only [List.length_set, List.length_append, List.length_cons, List.length_nil] at hysl); conv => whnf)
      | (refine And.intro (by first | exact True.intro | (with_reducible assumption) | omega | (simp only [Rng]; omega) | exact Nat.le_of_ble_eq_true rfl | exact True.intro | exact Nat.le_of_ble_eq_true rfl | (refine ⟨by (try simp only [List.length_cons, List.length_nil]); omega, Int.le_trans (Int.mul_le_mul_of_nonneg_left (show (TInfo.bytes _ : Int) ≤ 64 from Int.ofNat_le.2 (Nat.le_of_ble_eq_true rfl)) (by omega)) (by (try simp only [List.length_cons, List.length_nil]); omega)⟩)) ?_; conv => whnf)))
    all_goals (rename_i hc; refine leaf0 rfl ?_ rfl; congr 1; simp only [hc, true_and, false_and, decide_false])

theorem sDiv_ok : PCtrOk Try.prog 150 divC where
  enter := enter_ok Try.func150 (by kernel_rfl) rfl
  calls := by
    intro hg rg lr vals k h
    unfold divC at h
    split at h
    case h_2 => exact h.elim
    rename_i a b
    obtain ⟨⟨ha, hb⟩, hk⟩ := h
    refine ⟨_, _, hk, fun A w _ _ => ?_⟩
    refine enter T_ok .nil Try.func150 rfl (K := (· < w.heap.size)) (fun _ h => h) (A := A) (n0 := 0) (b0 := 0) (rows := []) (hp := []) rfl (Nat.zero_le _) (fun k r h => by cases h) rfl (fun k r h => by cases h) rfl rfl (Nat.le_of_ble_eq_true rfl) ?_
    conv => whnf
    repeat (refine V_step T_ok .nil rfl ?_; conv => whnf)
    refine V_loopH (γ := Int × Int) (fun g => (0 ≤ g.1 ∧ g.1 ≤ 9223372036854775807) ∧ (0 ≤ g.2 ∧ g.2 ≤ 9223372036854775807) ∧ Int.gcd g.1 g.2 = Int.gcd a b) (fun g => g.2.toNat)
      (fun g => [(0, .int .i64 g.1), (1, .int .i64 g.2)]) (fun _ => []) (fun _ => []) (a, b) ⟨ha, hb, rfl⟩ ?_ ?_
    · conv => whnf
      refine ⟨?_, by (conv => whnf); repeat (first | exact True.intro | (refine And.intro rfl ?_; conv => whnf)), by (conv => whnf); repeat (first | exact True.intro | (refine And.intro (by first | rfl | (subst_vars; rfl)) ?_; conv => whnf)), rfl, rfl, rfl, rfl, rfl, rfl, rfl, Nat.le_of_ble_eq_true rfl, Nat.le_of_ble_eq_true rfl⟩
      conv => whnf
      repeat (first | exact True.intro | (refine And.intro (by first | rfl | ((conv => whnf); exact congrArg (AVal.int .i64) (by omega)) | ((conv => whnf); exact congrArg (AVal.int .i64) (by simp only [Int.natCast_add, Int.natCast_one]; omega))) ?_; conv => whnf))
    · rintro ⟨x, y⟩ ⟨h1, h2, h5⟩
      conv => whnf
      refine vcCode_sound T_ok .nil _ _ _ _ _ ?_
      conv => whnf
      repeat (refine V_step T_ok .nil rfl ?_; conv => whnf)
      repeat (any_goals (first
        | (refine V_step T_ok .nil rfl ?_; conv => whnf)
        | (refine V_drawA T_ok .nil mixed (by kernel_rfl) ?_; conv => whnf)
        | (refine bcond_split (fun hc => ?_) (fun hc => ?_) <;> (try simp only [decide_eq_true_eq, decide_eq_false_iff_not, Bool.not_eq_true', Bool.not_eq_false', Bool.and_eq_true, Bool.or_eq_true, Bool.and_eq_false_imp, Bool.or_eq_false_iff, ne_eq, Decidable.not_not] at hc) <;> conv => whnf)
        | (intro ysK hysK; have hysl := congrArg List.length hysK; (try simp only [List.length_set, List.length_append, List.length_cons, List.length_nil] at hysl); conv => whnf)
        | (refine And.intro (by first | exact True.intro | (with_reducible assumption) | omega | (simp only [Rng]; omega) | exact Nat.le_of_ble_eq_true rfl | exact True.intro | exact Nat.le_of_ble_eq_true rfl | (refine ⟨by (try simp only [List.length_cons, List.length_nil]); omega, Int.le_trans (Int.mul_le_mul_of_nonneg_left (show (TInfo.bytes _ : Int) ≤ 64 from Int.ofNat_le.2 (Nat.le_of_ble_eq_true rfl)) (by omega)) (by (try simp only [List.length_cons, List.length_nil]); omega)⟩)) ?_; conv => whnf)))
      · simp only at h1 h2 h5 hc
        have e1 := Int.emod_nonneg x (by omega : y ≠ 0)
        have e2 := Int.emod_lt_of_pos x (by omega : 0 < y)
        have e3 : x.tmod y = x % y := Int.tmod_eq_emod_of_nonneg h1.1
        refine ⟨(y, x.tmod y), ⟨h2, by simp only; omega, by rw [← h5]; exact gcd_step x y⟩, by simp only; omega, ?_⟩
        conv => whnf
        refine ⟨?_, by (conv => whnf); repeat (first | exact True.intro | (refine And.intro rfl ?_; conv => whnf)), by (conv => whnf); repeat (first | exact True.intro | (refine And.intro (by first | rfl | (subst_vars; rfl)) ?_; conv => whnf)), rfl, rfl, rfl, rfl, rfl, rfl, rfl, Nat.le_of_ble_eq_true rfl, Nat.le_of_ble_eq_true rfl⟩
        conv => whnf
        repeat (first | exact True.intro | (refine And.intro (by first | rfl | ((conv => whnf); exact congrArg (AVal.int .i64) (by omega)) | ((conv => whnf); exact congrArg (AVal.int .i64) (by simp only [Int.natCast_add, Int.natCast_one]; omega))) ?_; conv => whnf))
      · simp only at h1 h2 h5 hc
        have hc : y = 0 := by omega
        refine leaf0 rfl ?_ rfl
        rw [← h5, hc, Int.gcd_zero_right]
        congr 1
        simp only
        omega

abbrev GS1 := GOk.cons sIn_ok (GOk.cons sDiv_ok .nil)
theorem sOf_ok : PCtrOk Try.prog 126 angleC where
  enter := enter_ok Try.func126 (by kernel_rfl) rfl
  calls := by
    intro hg rg lr vals k h
    unfold angleC at h
    split at h
    case h_2 => exact h.elim
    rename_i n d
    obtain ⟨⟨hd, hn⟩, hk⟩ := h
    refine ⟨_, _, hk, fun A w _ _ => ?_⟩
    refine enter T_ok GS1 Try.func126 rfl (K := (· < w.heap.size)) (fun _ h => h) (A := A) (n0 := 0) (b0 := 0) (rows := []) (hp := []) rfl (Nat.zero_le _) (fun k r h => by cases h) rfl (fun k r h => by cases h) rfl rfl (Nat.le_of_ble_eq_true rfl) ?_
    conv => whnf
    repeat (refine V_step T_ok GS1 rfl ?_; conv => whnf)
    have t1 := Int.tmod_lt_of_pos n hd.1
    have t2 := Int.lt_tmod_of_pos n hd.1
    have t4 := Int.emod_nonneg n (by omega : d ≠ 0)
    have t5 := Int.emod_lt_of_pos n hd.1
    have t6 : (0 : Int) < (Int.gcd (n % d) d : Nat) := Int.ofNat_lt.2 (Int.gcd_pos_of_ne_zero_right _ (by omega))
    have e3 : (n.tmod d + d).tmod d = n % d := tmod_pos n d hd.1
    have q1 : (n % d).tdiv (Int.gcd (n % d) d : Nat) = (ofQ n d).1 := by rw [Int.gcd_comm]; exact Int.tdiv_eq_ediv_of_nonneg t4
    have q2 : d.tdiv (Int.gcd (n % d) d : Nat) = (ofQ n d).2 := by rw [Int.gcd_comm]; exact Int.tdiv_eq_ediv_of_nonneg (by omega)
    have r1 : 0 ≤ (ofQ n d).1 := Int.ediv_nonneg t4 (by omega)
    have r2 : (ofQ n d).1 ≤ n % d := Int.ediv_le_self _ t4
    have r3 : 0 ≤ (ofQ n d).2 := Int.ediv_nonneg (by omega) (by omega)
    have r4 : (ofQ n d).2 ≤ d := Int.ediv_le_self _ (by omega)
    repeat (any_goals (first
      | (refine V_step T_ok GS1 rfl ?_; conv => whnf)
      | (refine V_drawA T_ok GS1 mixed (by kernel_rfl) ?_; conv => whnf)
      | (refine bcond_split (fun hc => ?_) (fun hc => ?_) <;> (try simp only [decide_eq_true_eq, decide_eq_false_iff_not, Bool.not_eq_true', Bool.not_eq_false', Bool.and_eq_true, Bool.or_eq_true, Bool.and_eq_false_imp, Bool.or_eq_false_iff, ne_eq, Decidable.not_not] at hc) <;> conv => whnf)
      | (intro ysK hysK; have hysl := congrArg List.length hysK; (try simp only [List.length_set, List.length_append, List.length_cons, List.length_nil] at hysl); conv => whnf)
      | (refine And.intro (by first | (first | omega | (simp only [Rng, e3, q1, q2, ne_eq]; omega)) | exact True.intro | exact Nat.le_of_ble_eq_true rfl | (refine ⟨by (try simp only [List.length_cons, List.length_nil]); omega, Int.le_trans (Int.mul_le_mul_of_nonneg_left (show (TInfo.bytes _ : Int) ≤ 64 from Int.ofNat_le.2 (Nat.le_of_ble_eq_true rfl)) (by omega)) (by (try simp only [List.length_cons, List.length_nil]); omega)⟩)) ?_; conv => whnf)))
    all_goals refine leaf0 rfl ?_ rfl
    all_goals simp only [e3, q1, q2]

theorem sIs_ok : PCtrOk Try.prog 128 isAngleC where
  enter := enter_ok Try.func128 (by kernel_rfl) rfl
  calls := by
    intro hg rg lr vals k h
    unfold isAngleC at h
    split at h
    case h_2 => exact h.elim
    rename_i n d
    obtain ⟨_, hk⟩ := h
    refine ⟨_, _, hk, fun A w _ _ => ?_⟩
    refine enter T_ok GS1 Try.func128 rfl (K := (· < w.heap.size)) (fun _ h => h) (A := A) (n0 := 0) (b0 := 0) (rows := []) (hp := []) rfl (Nat.zero_le _) (fun k r h => by cases h) rfl (fun k r h => by cases h) rfl rfl (Nat.le_of_ble_eq_true rfl) ?_
    conv => whnf
    repeat (refine V_step T_ok GS1 rfl ?_; conv => whnf)
    repeat (any_goals (first
      | (refine V_step T_ok GS1 rfl ?_; conv => whnf)
      | (refine V_drawA T_ok GS1 mixed (by kernel_rfl) ?_; conv => whnf)
      | (refine bcond_split (fun hc => ?_) (fun hc => ?_) <;> (try simp only [decide_eq_true_eq, decide_eq_false_iff_not, Bool.not_eq_true', Bool.not_eq_false', Bool.and_eq_true, Bool.or_eq_true, Bool.and_eq_false_imp, Bool.or_eq_false_iff, ne_eq, Decidable.not_not] at hc) <;> conv => whnf)
      | (intro ysK hysK; have hysl := congrArg List.length hysK; (try simp only [List.length_set, List.length_append, List.length_cons, List.length_nil] at hysl); conv => whnf)
      | (refine And.intro (by first | exact True.intro | (with_reducible assumption) | omega | (simp only [Rng]; omega) | exact Nat.le_of_ble_eq_true rfl | exact True.intro | exact Nat.le_of_ble_eq_true rfl | (refine ⟨by (try simp only [List.length_cons, List.length_nil]); omega, Int.le_trans (Int.mul_le_mul_of_nonneg_left (show (TInfo.bytes _ : Int) ≤ 64 from Int.ofNat_le.2 (Nat.le_of_ble_eq_true rfl)) (by omega)) (by (try simp only [List.length_cons, List.length_nil]); omega)⟩)) ?_; conv => whnf)))
    all_goals refine leaf0 rfl (congrArg AVal.bool ?_) rfl
    all_goals simp [IsA, *, Int.gcd_comm]

def lessC : PCtr := fun _ _ _ vals k => match vals with
  | [.agg [.int .i64 n, .int .i64 d], .agg [.int .i64 m, .int .i64 e]] => (Bd (n, d) ∧ Bd (m, e)) ∧ k [] (.bool (decide (lessA (n, d) (m, e))))
  | _ => False

theorem sLess_ok : PCtrOk Try.prog 83 lessC where
  enter := enter_ok Try.func83 (by kernel_rfl) rfl
  calls := by
    intro hg rg lr vals k h
    unfold lessC at h
    split at h
    case h_2 => exact h.elim
    rename_i n d m e
    obtain ⟨⟨hn, hd⟩, hk⟩ := h
    refine ⟨_, _, hk, fun A w _ _ => ?_⟩
    refine enter T_ok .nil Try.func83 rfl (K := (· < w.heap.size)) (fun _ h => h) (A := A) (n0 := 0) (b0 := 0) (rows := []) (hp := []) rfl (Nat.zero_le _) (fun k r h => by cases h) rfl (fun k r h => by cases h) rfl rfl (Nat.le_of_ble_eq_true rfl) ?_
    conv => whnf
    repeat (refine V_step T_ok .nil rfl ?_; conv => whnf)
    obtain ⟨h1, h2⟩ := hn
    obtain ⟨h3, h4⟩ := hd
    have u1 := mulBd h1.1 h1.2 (by omega) h4.2
    have u2 := mulBd h3.1 h3.2 (by omega) h2.2
    simp only at h1 h2 h3 h4 u1 u2
    repeat (any_goals (first
      | (refine V_step T_ok .nil rfl ?_; conv => whnf)
      | (refine V_drawA T_ok .nil mixed (by kernel_rfl) ?_; conv => whnf)
      | (refine bcond_split (fun hc => ?_) (fun hc => ?_) <;> (try simp only [decide_eq_true_eq, decide_eq_false_iff_not, Bool.not_eq_true', Bool.not_eq_false', Bool.and_eq_true, Bool.or_eq_true, Bool.and_eq_false_imp, Bool.or_eq_false_iff, ne_eq, Decidable.not_not] at hc) <;> conv => whnf)
      | (intro ysK hysK; have hysl := congrArg List.length hysK; (try simp only [List.length_set, List.length_append, List.length_cons, List.length_nil] at hysl); conv => whnf)
      | (refine And.intro (by first | exact True.intro | (with_reducible assumption) | omega | (simp only [Rng]; omega) | exact Nat.le_of_ble_eq_true rfl | exact True.intro | exact Nat.le_of_ble_eq_true rfl | (refine ⟨by (try simp only [List.length_cons, List.length_nil]); omega, Int.le_trans (Int.mul_le_mul_of_nonneg_left (show (TInfo.bytes _ : Int) ≤ 64 from Int.ofNat_le.2 (Nat.le_of_ble_eq_true rfl)) (by omega)) (by (try simp only [List.length_cons, List.length_nil]); omega)⟩)) ?_; conv => whnf)))
    all_goals exact leaf0 rfl rfl rfl

abbrev GS2 := GOk.cons sIs_ok (GOk.cons sLess_ok (GOk.cons sOf_ok GS1))

def sWithinA (x a b : Ang) : Bool := if lessA a b then decide (lessA a x) && decide (lessA x b) else decide (lessA a x) || decide (lessA x b)
def sWithinC : PCtr := fun _ _ _ vals k => match vals with
  | [.agg [.int .i64 p, .int .i64 q], .agg [.int .i64 n, .int .i64 d], .agg [.int .i64 m, .int .i64 e]] => (Bd (p, q) ∧ Bd (n, d) ∧ Bd (m, e)) ∧ k [] (.bool (sWithinA (p, q) (n, d) (m, e)))
  | _ => False

theorem sWithin_ok : PCtrOk Try.prog 104 sWithinC where
  enter := enter_ok Try.func104 (by kernel_rfl) rfl
  calls := by
    intro hg rg lr vals k h
    unfold sWithinC at h
    split at h
    case h_2 => exact h.elim
    rename_i p q n d m e
    obtain ⟨⟨h1, h2, h3⟩, hk⟩ := h
    refine ⟨_, _, hk, fun A w _ _ => ?_⟩
    refine enter T_ok GS2 Try.func104 rfl (K := (· < w.heap.size)) (fun _ h => h) (A := A) (n0 := 0) (b0 := 0) (rows := []) (hp := []) rfl (Nat.zero_le _) (fun k r h => by cases h) rfl (fun k r h => by cases h) rfl rfl (Nat.le_of_ble_eq_true rfl) ?_
    conv => whnf
    repeat (refine V_step T_ok GS2 rfl ?_; conv => whnf)
    repeat (any_goals (first
      | (refine V_step T_ok GS2 rfl ?_; conv => whnf)
      | (refine V_drawA T_ok GS2 mixed (by kernel_rfl) ?_; conv => whnf)
      | (refine bcond_split (fun hc => ?_) (fun hc => ?_) <;> (try simp only [decide_eq_true_eq, decide_eq_false_iff_not, Bool.not_eq_true', Bool.not_eq_false', Bool.and_eq_true, Bool.or_eq_true, Bool.and_eq_false_imp, Bool.or_eq_false_iff, ne_eq, Decidable.not_not] at hc) <;> conv => whnf)
      | (intro ysK hysK; have hysl := congrArg List.length hysK; (try simp only [List.length_set, List.length_append, List.length_cons, List.length_nil] at hysl); conv => whnf)
      | (refine And.intro (by first | (first | exact ⟨h2, h3⟩ | exact ⟨h2, h1⟩ | exact ⟨h1, h3⟩) | exact True.intro | exact Nat.le_of_ble_eq_true rfl | (refine ⟨by (try simp only [List.length_cons, List.length_nil]); omega, Int.le_trans (Int.mul_le_mul_of_nonneg_left (show (TInfo.bytes _ : Int) ≤ 64 from Int.ofNat_le.2 (Nat.le_of_ble_eq_true rfl)) (by omega)) (by (try simp only [List.length_cons, List.length_nil]); omega)⟩)) ?_; conv => whnf)))
    all_goals refine leaf0 rfl (congrArg AVal.bool ?_) rfl
    all_goals simp [sWithinA, *]

/-- The reference's distance. -/
def sDistA (a b : Ang) : Ang := if lessA (ofQ (-(ofQ (b.1 * a.2 - a.1 * b.2) (a.2 * b.2)).1) (ofQ (b.1 * a.2 - a.1 * b.2) (a.2 * b.2)).2) (ofQ (b.1 * a.2 - a.1 * b.2) (a.2 * b.2)) then ofQ (-(ofQ (b.1 * a.2 - a.1 * b.2) (a.2 * b.2)).1) (ofQ (b.1 * a.2 - a.1 * b.2) (a.2 * b.2)).2 else ofQ (b.1 * a.2 - a.1 * b.2) (a.2 * b.2)
def sDistC : PCtr := fun _ _ _ vals k => match vals with
  | [.agg [.int .i64 n, .int .i64 d], .agg [.int .i64 m, .int .i64 e]] => (Sm (n, d) ∧ Sm (m, e)) ∧ k [] (aV (sDistA (n, d) (m, e)))
  | _ => False

theorem sDist_ok : PCtrOk Try.prog 84 sDistC where
  enter := enter_ok Try.func84 (by kernel_rfl) rfl
  calls := by
    intro hg rg lr vals k h
    unfold sDistC at h
    split at h
    case h_2 => exact h.elim
    rename_i n d m e
    obtain ⟨⟨hn, hd⟩, hk⟩ := h
    refine ⟨_, _, hk, fun A w _ _ => ?_⟩
    refine enter T_ok GS2 Try.func84 rfl (K := (· < w.heap.size)) (fun _ h => h) (A := A) (n0 := 0) (b0 := 0) (rows := []) (hp := []) rfl (Nat.zero_le _) (fun k r h => by cases h) rfl (fun k r h => by cases h) rfl rfl (Nat.le_of_ble_eq_true rfl) ?_
    conv => whnf
    repeat (refine V_step T_ok GS2 rfl ?_; conv => whnf)
    obtain ⟨⟨h1, h2⟩, ⟨h3, h4⟩⟩ := hn
    obtain ⟨⟨h5, h6⟩, ⟨h7, h8⟩⟩ := hd
    simp only at h1 h2 h3 h4 h5 h6 h7 h8
    have u1 := mulBd h1 (by omega) (by omega) (by omega : e ≤ 1073741824)
    have u2 := mulBd h5 (by omega) (by omega) (by omega : d ≤ 1073741824)
    have u3 : d * e ≤ 1073741824 := Int.le_trans (Int.mul_le_mul h4 h8 (by omega) (by omega)) (by omega)
    have u4 := mulPos h3 h7
    have b1 := ofQ_bd (m * d - n * e) (d * e) u4
    have b2 := ofQ_bd (-(ofQ (m * d - n * e) (d * e)).1) (ofQ (m * d - n * e) (d * e)).2 b1.2.1
    have c1 : Bd (ofQ (m * d - n * e) (d * e)) := by unfold Bd; omega
    have c2 : Bd (ofQ (-(ofQ (m * d - n * e) (d * e)).1) (ofQ (m * d - n * e) (d * e)).2) := by unfold Bd; omega
    repeat (any_goals (first
      | (refine V_step T_ok GS2 rfl ?_; conv => whnf)
      | (refine V_drawA T_ok GS2 mixed (by kernel_rfl) ?_; conv => whnf)
      | (refine bcond_split (fun hc => ?_) (fun hc => ?_) <;> (try simp only [decide_eq_true_eq, decide_eq_false_iff_not, Bool.not_eq_true', Bool.not_eq_false', Bool.and_eq_true, Bool.or_eq_true, Bool.and_eq_false_imp, Bool.or_eq_false_iff, ne_eq, Decidable.not_not] at hc) <;> conv => whnf)
      | (intro ysK hysK; have hysl := congrArg List.length hysK; (try simp only [List.length_set, List.length_append, List.length_cons, List.length_nil] at hysl); conv => whnf)
      | (refine And.intro (by first | (first | exact True.intro | omega | exact ⟨c2, c1⟩ | (simp only [Rng]; omega)) | exact True.intro | exact Nat.le_of_ble_eq_true rfl | (refine ⟨by (try simp only [List.length_cons, List.length_nil]); omega, Int.le_trans (Int.mul_le_mul_of_nonneg_left (show (TInfo.bytes _ : Int) ≤ 64 from Int.ofNat_le.2 (Nat.le_of_ble_eq_true rfl)) (by omega)) (by (try simp only [List.length_cons, List.length_nil]); omega)⟩)) ?_; conv => whnf)))
    all_goals refine leaf0 rfl ?_ rfl
    · rw [show sDistA (n, d) (m, e) = ofQ (-(ofQ (m * d - n * e) (d * e)).1) (ofQ (m * d - n * e) (d * e)).2 from if_pos hc]
    · rw [show sDistA (n, d) (m, e) = ofQ (m * d - n * e) (d * e) from if_neg hc]

theorem sIsL_ok : PCtrOk Try.prog 89 isLeafC where
  enter := enter_ok Try.func89 (by kernel_rfl) rfl
  calls := by
    intro hg rg lr vals k h
    unfold isLeafC at h
    split at h
    case h_2 => exact h.elim
    rename_i n d m e
    obtain ⟨_, hk⟩ := h
    refine ⟨_, _, hk, fun A w _ _ => ?_⟩
    refine enter T_ok GS2 Try.func89 rfl (K := (· < w.heap.size)) (fun _ h => h) (A := A) (n0 := 0) (b0 := 0) (rows := []) (hp := []) rfl (Nat.zero_le _) (fun k r h => by cases h) rfl (fun k r h => by cases h) rfl rfl (Nat.le_of_ble_eq_true rfl) ?_
    conv => whnf
    repeat (refine V_step T_ok GS2 rfl ?_; conv => whnf)
    repeat (any_goals (first
      | (refine V_step T_ok GS2 rfl ?_; conv => whnf)
      | (refine V_drawA T_ok GS2 mixed (by kernel_rfl) ?_; conv => whnf)
      | (refine bcond_split (fun hc => ?_) (fun hc => ?_) <;> (try simp only [decide_eq_true_eq, decide_eq_false_iff_not, Bool.not_eq_true', Bool.not_eq_false', Bool.and_eq_true, Bool.or_eq_true, Bool.and_eq_false_imp, Bool.or_eq_false_iff, ne_eq, Decidable.not_not] at hc) <;> conv => whnf)
      | (intro ysK hysK; have hysl := congrArg List.length hysK; (try simp only [List.length_set, List.length_append, List.length_cons, List.length_nil] at hysl); conv => whnf)
      | (refine And.intro (by first | (first | exact True.intro | exact ⟨IsA.bd (by assumption), IsA.bd (by assumption)⟩) | exact True.intro | exact Nat.le_of_ble_eq_true rfl | (refine ⟨by (try simp only [List.length_cons, List.length_nil]); omega, Int.le_trans (Int.mul_le_mul_of_nonneg_left (show (TInfo.bytes _ : Int) ≤ 64 from Int.ofNat_le.2 (Nat.le_of_ble_eq_true rfl)) (by omega)) (by (try simp only [List.length_cons, List.length_nil]); omega)⟩)) ?_; conv => whnf)))
    all_goals refine leaf0 rfl (congrArg AVal.bool ?_) rfl
    all_goals simp [IsL, *]

def sLessL (l m : Lf) : Bool := if l.1 = m.1 then decide (lessA l.2 m.2) else decide (lessA l.1 m.1)
def sLessLC : PCtr := fun _ _ _ vals k => match vals with
  | [.agg [.int .i64 n, .int .i64 d, .int .i64 m, .int .i64 e], .agg [.int .i64 n', .int .i64 d', .int .i64 m', .int .i64 e']] =>
    (BdL ((n, d), (m, e)) ∧ BdL ((n', d'), (m', e'))) ∧ k [] (.bool (sLessL ((n, d), (m, e)) ((n', d'), (m', e'))))
  | _ => False
theorem sLessL_ok : PCtrOk Try.prog 106 sLessLC where
  enter := enter_ok Try.func106 (by kernel_rfl) rfl
  calls := by
    intro hg rg lr vals k h
    unfold sLessLC at h
    split at h
    case h_2 => exact h.elim
    rename_i n d m e n' d' m' e'
    obtain ⟨⟨⟨h1, h2⟩, ⟨h3, h4⟩⟩, hk⟩ := h
    refine ⟨_, _, hk, fun A w _ _ => ?_⟩
    refine enter T_ok GS2 Try.func106 rfl (K := (· < w.heap.size)) (fun _ h => h) (A := A) (n0 := 0) (b0 := 0) (rows := []) (hp := []) rfl (Nat.zero_le _) (fun k r h => by cases h) rfl (fun k r h => by cases h) rfl rfl (Nat.le_of_ble_eq_true rfl) ?_
    conv => whnf
    repeat (refine V_step T_ok GS2 rfl ?_; conv => whnf)
    repeat (any_goals (first
      | (refine V_step T_ok GS2 rfl ?_; conv => whnf)
      | (refine V_drawA T_ok GS2 mixed (by kernel_rfl) ?_; conv => whnf)
      | (refine bcond_split (fun hc => ?_) (fun hc => ?_) <;> (try simp only [decide_eq_true_eq, decide_eq_false_iff_not, Bool.not_eq_true', Bool.not_eq_false', Bool.and_eq_true, Bool.or_eq_true, Bool.and_eq_false_imp, Bool.or_eq_false_iff, ne_eq, Decidable.not_not] at hc) <;> conv => whnf)
      | (intro ysK hysK; have hysl := congrArg List.length hysK; (try simp only [List.length_set, List.length_append, List.length_cons, List.length_nil] at hysl); conv => whnf)
      | (refine And.intro (by first | (first | exact True.intro | exact ⟨h1, h3⟩ | exact ⟨h2, h4⟩) | exact True.intro | exact Nat.le_of_ble_eq_true rfl | (refine ⟨by (try simp only [List.length_cons, List.length_nil]); omega, Int.le_trans (Int.mul_le_mul_of_nonneg_left (show (TInfo.bytes _ : Int) ≤ 64 from Int.ofNat_le.2 (Nat.le_of_ble_eq_true rfl)) (by omega)) (by (try simp only [List.length_cons, List.length_nil]); omega)⟩)) ?_; conv => whnf)))
    all_goals refine leaf0 rfl (congrArg AVal.bool ?_) rfl
    all_goals simp only [sLessL, Prod.mk.injEq]
    all_goals (first | (simp [*]; done) | grind)

def sCrossL (l m : Lf) : Bool := if l.1 = m.1 ∨ l.1 = m.2 ∨ l.2 = m.1 ∨ l.2 = m.2 then false else !(sWithinA l.1 m.1 m.2 == sWithinA l.2 m.1 m.2)
def sCrossLC : PCtr := fun _ _ _ vals k => match vals with
  | [.agg [.int .i64 n, .int .i64 d, .int .i64 m, .int .i64 e], .agg [.int .i64 n', .int .i64 d', .int .i64 m', .int .i64 e']] =>
    (BdL ((n, d), (m, e)) ∧ BdL ((n', d'), (m', e'))) ∧ k [] (.bool (sCrossL ((n, d), (m, e)) ((n', d'), (m', e'))))
  | _ => False
theorem sCrossL_ok : PCtrOk Try.prog 119 sCrossLC where
  enter := enter_ok Try.func119 (by kernel_rfl) rfl
  calls := by
    intro hg rg lr vals k h
    unfold sCrossLC at h
    split at h
    case h_2 => exact h.elim
    rename_i n d m e n' d' m' e'
    obtain ⟨⟨⟨h1, h2⟩, ⟨h3, h4⟩⟩, hk⟩ := h
    refine ⟨_, _, hk, fun A w _ _ => ?_⟩
    refine enter T_ok (GOk.cons sWithin_ok GS2) Try.func119 rfl (K := (· < w.heap.size)) (fun _ h => h) (A := A) (n0 := 0) (b0 := 0) (rows := []) (hp := []) rfl (Nat.zero_le _) (fun k r h => by cases h) rfl (fun k r h => by cases h) rfl rfl (Nat.le_of_ble_eq_true rfl) ?_
    conv => whnf
    repeat (refine V_step T_ok (GOk.cons sWithin_ok GS2) rfl ?_; conv => whnf)
    repeat (any_goals (first
      | (refine V_step T_ok (GOk.cons sWithin_ok GS2) rfl ?_; conv => whnf)
      | (refine V_drawA T_ok (GOk.cons sWithin_ok GS2) mixed (by kernel_rfl) ?_; conv => whnf)
      | (refine bcond_split (fun hc => ?_) (fun hc => ?_) <;> (try simp only [decide_eq_true_eq, decide_eq_false_iff_not, Bool.not_eq_true', Bool.not_eq_false', Bool.and_eq_true, Bool.or_eq_true, Bool.and_eq_false_imp, Bool.or_eq_false_iff, ne_eq, Decidable.not_not] at hc) <;> conv => whnf)
      | (intro ysK hysK; have hysl := congrArg List.length hysK; (try simp only [List.length_set, List.length_append, List.length_cons, List.length_nil] at hysl); conv => whnf)
      | (refine And.intro (by first | (first | exact True.intro | exact ⟨h1, h3, h4⟩ | exact ⟨h2, h3, h4⟩) | exact True.intro | exact Nat.le_of_ble_eq_true rfl | (refine ⟨by (try simp only [List.length_cons, List.length_nil]); omega, Int.le_trans (Int.mul_le_mul_of_nonneg_left (show (TInfo.bytes _ : Int) ≤ 64 from Int.ofNat_le.2 (Nat.le_of_ble_eq_true rfl)) (by omega)) (by (try simp only [List.length_cons, List.length_nil]); omega)⟩)) ?_; conv => whnf)))
    all_goals refine leaf0 rfl (congrArg AVal.bool ?_) rfl
    all_goals simp only [sCrossL, Prod.mk.injEq]
    all_goals (first | (simp [*]; done) | grind)

end Go.Proofs.Ytlplngafncobkaa.Fw
