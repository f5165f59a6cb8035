/- Plain laws on angles as pairs of whole numbers. No program. -/
import Derived.KernelRfl
import Derived.Test.YtllagpbbbdekiabGE
import Derived.Test.YtllagpbbbdekiabFwT
namespace Go.Proofs.Ytllagpbbbdekiab.Fw
set_option linter.unusedVariables false
abbrev Ang := Int × Int
theorem tmod_pos (n d : Int) (hd : 0 < d) : (n.tmod d + d).tmod d = n % d := by
  have h1 := Int.tmod_lt_of_pos n hd
  have h2 : -d < n.tmod d := by
    have := Int.lt_tmod_of_pos n hd
    omega
  have h3 : n.tmod d = n % d ∨ n.tmod d = n % d - d := by
    rw [Int.tmod_eq_emod]
    split
    · left; omega
    · right
      have : (d.natAbs : Int) = d := by omega
      omega
  rcases h3 with h | h
  · rw [h]
    have := Int.emod_nonneg n (by omega : d ≠ 0)
    have := Int.emod_lt_of_pos n hd
    rw [Int.tmod_eq_emod_of_nonneg (by omega), Int.add_emod_right, Int.emod_emod_of_dvd _ (Int.dvd_refl d)]
  · rw [h]
    have h4 := Int.emod_nonneg n (by omega : d ≠ 0)
    have h5 := Int.emod_lt_of_pos n hd
    rw [show n % d - d + d = n % d by omega, Int.tmod_eq_emod_of_nonneg h4, Int.emod_emod_of_dvd _ (Int.dvd_refl d)]
theorem gcd_step (a b : Int) : Int.gcd b (a.tmod b) = Int.gcd a b := by
  rw [Int.gcd_comm a b]
  have : a.tmod b = a - b * a.tdiv b := by have := Int.mul_tdiv_add_tmod a b; omega
  rw [this, Int.gcd_sub_mul_left_right]
def ofQ (n d : Int) : Ang := ((n % d) / (Int.gcd d (n % d) : Int), d / (Int.gcd d (n % d) : Int))
def IsA (a : Ang) : Prop := (1 ≤ a.2 ∧ a.2 ≤ 8191) ∧ (0 ≤ a.1 ∧ a.1 ≤ a.2 - 1) ∧ ((Int.gcd a.2 a.1 : Nat) : Int) = 1
instance (a : Ang) : Decidable (IsA a) := by unfold IsA; infer_instance
def Bd (a : Ang) : Prop := (0 ≤ a.1 ∧ a.1 ≤ 1073741824) ∧ (1 ≤ a.2 ∧ a.2 ≤ 1073741824)
theorem IsA.bd {a : Ang} (h : IsA a) : Bd a := by
  obtain ⟨⟨h1, h2⟩, ⟨h3, h4⟩, _⟩ := h
  refine ⟨⟨h3, by omega⟩, h1, by omega⟩
theorem mulBd {x y : Int} (h1 : 0 ≤ x) (h2 : x ≤ 1073741824) (h3 : 0 ≤ y) (h4 : y ≤ 1073741824) : 0 ≤ x * y ∧ x * y ≤ 1152921504606846976 :=
  ⟨Int.mul_nonneg h1 h3, Int.le_trans (Int.mul_le_mul h2 h4 h3 (by omega)) (by omega)⟩
theorem ofQ_bd (n d : Int) (hd : 1 ≤ d) : (0 ≤ (ofQ n d).1 ∧ (ofQ n d).1 ≤ (ofQ n d).2 - 1) ∧ (1 ≤ (ofQ n d).2 ∧ (ofQ n d).2 ≤ d) := by
  have t4 := Int.emod_nonneg n (by omega : d ≠ 0)
  have t5 := Int.emod_lt_of_pos n (by omega : 0 < d)
  have t6 : (0 : Int) < (Int.gcd d (n % d) : Nat) := Int.ofNat_lt.2 (Int.gcd_pos_of_ne_zero_left _ (by omega))
  have d1 : ((Int.gcd d (n % d) : Nat) : Int) ∣ d := Int.gcd_dvd_left ..
  have d2 : ((Int.gcd d (n % d) : Nat) : Int) ∣ (n % d) := Int.gcd_dvd_right ..
  unfold ofQ
  simp only
  generalize hg : ((Int.gcd d (n % d) : Nat) : Int) = g at *
  obtain ⟨x, hx⟩ := d1
  obtain ⟨y, hy⟩ := d2
  have e1 : d / g = x := by rw [hx]; exact Int.mul_ediv_cancel_left _ (by omega)
  have e2 : (n % d) / g = y := by rw [hy]; exact Int.mul_ediv_cancel_left _ (by omega)
  rw [e1, e2]
  have hx0 : 1 ≤ x := by
    rcases Int.lt_or_le 0 x with h | h
    · omega
    · have := Int.mul_nonpos_of_nonneg_of_nonpos (a := g) (b := x) (by omega) h
      omega
  have hy0 : 0 ≤ y := by
    rcases Int.lt_or_le y 0 with h | h
    · have := Int.mul_neg_of_pos_of_neg (a := g) (b := y) (by omega) h
      omega
    · exact h
  have hyx : y < x := by
    rcases Int.lt_or_le y x with h | h
    · exact h
    · have := Int.mul_le_mul_of_nonneg_left h (by omega : 0 ≤ g)
      omega
  have hxd : x ≤ d := by
    have := Int.mul_le_mul_of_nonneg_right (by omega : 1 ≤ g) (by omega : 0 ≤ x)
    omega
  omega
def minusA (a b : Ang) : Ang := ofQ (a.1 * b.2 - b.1 * a.2) (a.2 * b.2)
def doubleA (a : Ang) : Ang := ofQ (2 * a.1) a.2
def lessA (a b : Ang) : Prop := a.1 * b.2 < b.1 * a.2
instance (a b : Ang) : Decidable (lessA a b) := by unfold lessA; infer_instance
def cmpI (x y : Int) : Int := if x < y then -1 else if y < x then 1 else 0
def cmpA (a b : Ang) : Int := cmpI (a.1 * b.2) (b.1 * a.2)
def distA (a b : Ang) : Ang := if cmpA (minusA a b) (minusA b a) < 0 then minusA a b else minusA b a
abbrev Lf := Ang × Ang
def sizeL (l : Lf) : Ang := distA l.1 l.2
def IsL (l : Lf) : Prop := IsA l.1 ∧ IsA l.2 ∧ lessA l.1 l.2
instance (l : Lf) : Decidable (IsL l) := by unfold IsL; infer_instance
end Go.Proofs.Ytllagpbbbdekiab.Fw
namespace Go.Proofs.Ytllagpbbbdekiab.Fw
open Go Go.RowKit
set_option linter.unusedVariables false
set_option linter.unusedSimpArgs false
set_option maxRecDepth 100000
set_option maxHeartbeats 2000000
theorem mixed : Try.prog.follows .mixedOrders = true := by kernel_rfl
theorem enter_ok {f : FuncId} {fn : Func} (hf : Try.prog.funcs[f]? = some fn) (hn : (fn.name == "runtime.NumGoroutine") = false) (hb : fn.body.isNone = false) (args : Array Value) (w : World) : (callFunc f args).run Try.prog w = .ok (.enter f args) w := by
  simp only [callFunc, Sem.run_bind, run_program, Result.andThen_ok, hf, hn, hb, Bool.false_eq_true, if_false]
  rfl
def divC : PCtr := fun _ _ _ vals k => match vals with
  | [.int .i64 a, .int .i64 b] => ((0 ≤ a ∧ a ≤ 9223372036854775807) ∧ (0 ≤ b ∧ b ≤ 9223372036854775807)) ∧ k [] (.int .i64 (Int.gcd a b : Nat))
  | _ => False
theorem div_ok : PCtrOk Try.prog 77 divC where
  enter := enter_ok Try.func77 (by kernel_rfl) rfl
  calls := by
    intro hg rg lr vals k h
    unfold divC at h
    split at h
    case h_2 => exact h.elim
    rename_i a b
    obtain ⟨⟨ha, hb⟩, hk⟩ := h
    refine ⟨_, _, hk, fun A w _ _ => ?_⟩
    refine enter T_ok .nil Try.func77 rfl (K := (· < w.heap.size)) (fun _ h => h) (A := A) (n0 := 0) (b0 := 0) (rows := []) (hp := []) rfl (Nat.zero_le _) (fun k r h => by cases h) rfl (fun k r h => by cases h) rfl rfl (Nat.le_of_ble_eq_true rfl) ?_
    conv => whnf
    repeat (refine V_step T_ok .nil rfl ?_; conv => whnf)
    refine V_loopH (γ := Int × Int) (fun g => (0 ≤ g.1 ∧ g.1 ≤ 9223372036854775807) ∧ (0 ≤ g.2 ∧ g.2 ≤ 9223372036854775807) ∧ Int.gcd g.1 g.2 = Int.gcd a b) (fun g => g.2.toNat)
      (fun g => [(0, .int .i64 g.1), (1, .int .i64 g.2)]) (fun _ => []) (fun _ => []) (a, b) ⟨ha, hb, rfl⟩ ?_ ?_
    · conv => whnf
      refine ⟨?_, by (conv => whnf); repeat (first | exact True.intro | (refine And.intro rfl ?_; conv => whnf)), by (conv => whnf); repeat (first | exact True.intro | (refine And.intro (by first | rfl | (subst_vars; rfl)) ?_; conv => whnf)), rfl, rfl, rfl, rfl, rfl, rfl, rfl, Nat.le_of_ble_eq_true rfl, Nat.le_of_ble_eq_true rfl⟩
      conv => whnf
      repeat (first | exact True.intro | (refine And.intro (by first | rfl | ((conv => whnf); exact congrArg (AVal.int .i64) (by omega)) | ((conv => whnf); exact congrArg (AVal.int .i64) (by simp only [Int.natCast_add, Int.natCast_one]; omega)) | ((conv => whnf); exact congrArg (AVal.irow _) (by first | omega | assumption | (simp only; omega)))) ?_; conv => whnf))
    · rintro ⟨x, y⟩ ⟨h1, h2, h5⟩
      conv => whnf
      refine vcCode_sound T_ok .nil _ _ _ _ _ ?_
      conv => whnf
      repeat (refine V_step T_ok .nil rfl ?_; conv => whnf)
      repeat (any_goals (first
        | (refine V_step T_ok .nil rfl ?_; conv => whnf)
        | (refine V_drawA T_ok .nil mixed (by kernel_rfl) ?_; conv => whnf)
        | (refine bcond_split (fun hc => ?_) (fun hc => ?_) <;> (try simp only [decide_eq_true_eq, decide_eq_false_iff_not, Bool.not_eq_true', Bool.not_eq_false', Bool.and_eq_true, Bool.or_eq_true, Bool.and_eq_false_imp, Bool.or_eq_false_iff, ne_eq, Decidable.not_not] at hc) <;> conv => whnf)
        | (intro ysK hysK; have hysl := congrArg List.length hysK; (try simp only [List.length_set, List.length_append, List.length_cons, List.length_nil, List.length_take, List.length_drop, List.length_replicate] at hysl); conv => whnf)
        | (refine And.intro (by first | exact True.intro | (with_reducible assumption) | omega | (simp only [Rng]; omega) | exact Nat.le_of_ble_eq_true rfl | exact True.intro | exact ⟨rfl, True.intro, fun _ _ => rfl⟩ | exact Nat.le_of_ble_eq_true rfl | (refine ⟨by (try simp only [List.length_cons, List.length_nil]); omega, Int.le_trans (Int.mul_le_mul_of_nonneg_left (show (TInfo.bytes _ : Int) ≤ 64 from Int.ofNat_le.2 (Nat.le_of_ble_eq_true rfl)) (by omega)) (by (try simp only [List.length_cons, List.length_nil]); omega)⟩)) ?_; conv => whnf)))
      · rename_i hc
        simp only at h1 h2 h5
        have e1 := Int.emod_nonneg x hc
        have e2 := Int.emod_lt_of_pos x (by omega : 0 < y)
        have e3 : x.tmod y = x % y := Int.tmod_eq_emod_of_nonneg h1.1
        refine ⟨(y, x.tmod y), ⟨h2, by simp only; omega, by rw [← h5]; exact gcd_step x y⟩, by simp only; omega, ?_⟩
        conv => whnf
        refine ⟨?_, by (conv => whnf); repeat (first | exact True.intro | (refine And.intro rfl ?_; conv => whnf)), by (conv => whnf); repeat (first | exact True.intro | (refine And.intro (by first | rfl | (subst_vars; rfl)) ?_; conv => whnf)), rfl, rfl, rfl, rfl, rfl, rfl, rfl, Nat.le_of_ble_eq_true rfl, Nat.le_of_ble_eq_true rfl⟩
        conv => whnf
        repeat (first | exact True.intro | (refine And.intro (by first | rfl | ((conv => whnf); exact congrArg (AVal.int .i64) (by omega)) | ((conv => whnf); exact congrArg (AVal.int .i64) (by simp only [Int.natCast_add, Int.natCast_one]; omega)) | ((conv => whnf); exact congrArg (AVal.irow _) (by first | omega | assumption | (simp only; omega)))) ?_; conv => whnf))
      · rename_i hc
        simp only at h1 h5 hc
        refine leaf0 rfl ?_ rfl
        rw [← h5, hc, Int.gcd_zero_right]
        congr 1
        simp only
        omega
def withinC : PCtr := fun _ _ _ vals k => match vals with
  | [.int .i64 n, .int .i64 lo, .int .i64 hi] => True ∧ k [] (.bool (decide (lo ≤ n ∧ n ≤ hi)))
  | _ => False
theorem within_ok : PCtrOk Try.prog 49 withinC where
  enter := enter_ok Try.func49 (by kernel_rfl) rfl
  calls := by
    intro hg rg lr vals k h
    unfold withinC at h
    split at h
    case h_2 => exact h.elim
    rename_i n lo hi
    obtain ⟨_, hk⟩ := h
    refine ⟨_, _, hk, fun A w _ _ => ?_⟩
    refine enter T_ok .nil Try.func49 rfl (K := (· < w.heap.size)) (fun _ h => h) (A := A) (n0 := 0) (b0 := 0) (rows := []) (hp := []) rfl (Nat.zero_le _) (fun k r h => by cases h) rfl (fun k r h => by cases h) rfl rfl (Nat.le_of_ble_eq_true rfl) ?_
    conv => whnf
    repeat (refine V_step T_ok .nil rfl ?_; conv => whnf)
    repeat (any_goals (first
      | (refine V_step T_ok .nil rfl ?_; conv => whnf)
      | (refine V_drawA T_ok .nil mixed (by kernel_rfl) ?_; conv => whnf)
      | (refine bcond_split (fun hc => ?_) (fun hc => ?_) <;> (try simp only [decide_eq_true_eq, decide_eq_false_iff_not, Bool.not_eq_true', Bool.not_eq_false', Bool.and_eq_true, Bool.or_eq_true, Bool.and_eq_false_imp, Bool.or_eq_false_iff, ne_eq, Decidable.not_not] at hc) <;> conv => whnf)
      | (intro ysK hysK; have hysl := congrArg List.length hysK; (try simp only [List.length_set, List.length_append, List.length_cons, List.length_nil, List.length_take, List.length_drop, List.length_replicate] at hysl); conv => whnf)
      | (refine And.intro (by first | exact True.intro | (with_reducible assumption) | omega | (simp only [Rng]; omega) | exact Nat.le_of_ble_eq_true rfl | exact True.intro | exact ⟨rfl, True.intro, fun _ _ => rfl⟩ | exact Nat.le_of_ble_eq_true rfl | (refine ⟨by (try simp only [List.length_cons, List.length_nil]); omega, Int.le_trans (Int.mul_le_mul_of_nonneg_left (show (TInfo.bytes _ : Int) ≤ 64 from Int.ofNat_le.2 (Nat.le_of_ble_eq_true rfl)) (by omega)) (by (try simp only [List.length_cons, List.length_nil]); omega)⟩)) ?_; conv => whnf)))
    all_goals (rename_i hc; refine leaf0 rfl ?_ rfl; congr 1; simp only [hc, true_and, false_and, decide_false])
def angleC : PCtr := fun _ _ _ vals k => match vals with
  | [.int .i64 n, .int .i64 d] => ((0 < d ∧ d ≤ 4611686018427387904) ∧ (-4611686018427387904 ≤ n ∧ n ≤ 4611686018427387904)) ∧ k [] (.agg [.int .i64 (ofQ n d).1, .int .i64 (ofQ n d).2])
  | _ => False
theorem angle_ok : PCtrOk Try.prog 78 angleC where
  enter := enter_ok Try.func78 (by kernel_rfl) rfl
  calls := by
    intro hg rg lr vals k h
    unfold angleC at h
    split at h
    case h_2 => exact h.elim
    rename_i n d
    obtain ⟨⟨hd, hn⟩, hk⟩ := h
    refine ⟨_, _, hk, fun A w _ _ => ?_⟩
    refine enter T_ok (GOk.cons div_ok .nil) Try.func78 rfl (K := (· < w.heap.size)) (fun _ h => h) (A := A) (n0 := 0) (b0 := 0) (rows := []) (hp := []) rfl (Nat.zero_le _) (fun k r h => by cases h) rfl (fun k r h => by cases h) rfl rfl (Nat.le_of_ble_eq_true rfl) ?_
    conv => whnf
    repeat (refine V_step T_ok (GOk.cons div_ok .nil) rfl ?_; conv => whnf)
    have t1 := Int.tmod_lt_of_pos n hd.1
    have t2 := Int.lt_tmod_of_pos n hd.1
    have t3 := tmod_pos n d hd.1
    have t4 := Int.emod_nonneg n (by omega : d ≠ 0)
    have t5 := Int.emod_lt_of_pos n hd.1
    have t6 : (0 : Int) < (Int.gcd d (n % d) : Nat) := Int.ofNat_lt.2 (Int.gcd_pos_of_ne_zero_left _ (by omega))
    have e3 : (n.tmod d + d).tmod d = n % d := t3
    have q1 : (n % d).tdiv (Int.gcd d (n % d) : Nat) = (ofQ n d).1 := Int.tdiv_eq_ediv_of_nonneg t4
    have q2 : d.tdiv (Int.gcd d (n % d) : Nat) = (ofQ n d).2 := Int.tdiv_eq_ediv_of_nonneg (by omega)
    have r1 : 0 ≤ (ofQ n d).1 := Int.ediv_nonneg t4 (by omega)
    have r2 : (ofQ n d).1 ≤ n % d := Int.ediv_le_self _ t4
    have r3 : 0 ≤ (ofQ n d).2 := Int.ediv_nonneg (by omega) (by omega)
    have r4 : (ofQ n d).2 ≤ d := Int.ediv_le_self _ (by omega)
    repeat (any_goals (first
      | (refine V_step T_ok (GOk.cons div_ok .nil) rfl ?_; conv => whnf)
      | (refine V_drawA T_ok (GOk.cons div_ok .nil) mixed (by kernel_rfl) ?_; conv => whnf)
      | (refine bcond_split (fun hc => ?_) (fun hc => ?_) <;> (try simp only [decide_eq_true_eq, decide_eq_false_iff_not, Bool.not_eq_true', Bool.not_eq_false', Bool.and_eq_true, Bool.or_eq_true, Bool.and_eq_false_imp, Bool.or_eq_false_iff, ne_eq, Decidable.not_not] at hc) <;> conv => whnf)
      | (intro ysK hysK; have hysl := congrArg List.length hysK; (try simp only [List.length_set, List.length_append, List.length_cons, List.length_nil, List.length_take, List.length_drop, List.length_replicate] at hysl); conv => whnf)
      | (refine And.intro (by first | (first | omega | (simp only [Rng, e3, q1, q2, ne_eq]; omega)) | exact True.intro | exact ⟨rfl, True.intro, fun _ _ => rfl⟩ | exact Nat.le_of_ble_eq_true rfl | (refine ⟨by (try simp only [List.length_cons, List.length_nil]); omega, Int.le_trans (Int.mul_le_mul_of_nonneg_left (show (TInfo.bytes _ : Int) ≤ 64 from Int.ofNat_le.2 (Nat.le_of_ble_eq_true rfl)) (by omega)) (by (try simp only [List.length_cons, List.length_nil]); omega)⟩)) ?_; conv => whnf)))
    all_goals refine leaf0 rfl ?_ rfl
    all_goals simp only [e3, q1, q2]
def isAngleC : PCtr := fun _ _ _ vals k => match vals with
  | [.agg [.int .i64 n, .int .i64 d]] => True ∧ k [] (.bool (decide (IsA (n, d))))
  | _ => False
abbrev G1 := GOk.cons within_ok (GOk.cons angle_ok (GOk.cons div_ok .nil))
theorem isAngle_ok : PCtrOk Try.prog 56 isAngleC where
  enter := enter_ok Try.func56 (by kernel_rfl) rfl
  calls := by
    intro hg rg lr vals k h
    unfold isAngleC at h
    split at h
    case h_2 => exact h.elim
    rename_i n d
    obtain ⟨_, hk⟩ := h
    refine ⟨_, _, hk, fun A w _ _ => ?_⟩
    refine enter T_ok G1 Try.func56 rfl (K := (· < w.heap.size)) (fun _ h => h) (A := A) (n0 := 0) (b0 := 0) (rows := []) (hp := []) rfl (Nat.zero_le _) (fun k r h => by cases h) rfl (fun k r h => by cases h) rfl rfl (Nat.le_of_ble_eq_true rfl) ?_
    conv => whnf
    repeat (refine V_step T_ok G1 rfl ?_; conv => whnf)
    repeat (any_goals (first
      | (refine V_step T_ok G1 rfl ?_; conv => whnf)
      | (refine V_drawA T_ok G1 mixed (by kernel_rfl) ?_; conv => whnf)
      | (refine bcond_split (fun hc => ?_) (fun hc => ?_) <;> (try simp only [decide_eq_true_eq, decide_eq_false_iff_not, Bool.not_eq_true', Bool.not_eq_false', Bool.and_eq_true, Bool.or_eq_true, Bool.and_eq_false_imp, Bool.or_eq_false_iff, ne_eq, Decidable.not_not] at hc) <;> conv => whnf)
      | (intro ysK hysK; have hysl := congrArg List.length hysK; (try simp only [List.length_set, List.length_append, List.length_cons, List.length_nil, List.length_take, List.length_drop, List.length_replicate] at hysl); conv => whnf)
      | (refine And.intro (by first | exact True.intro | (with_reducible assumption) | omega | (simp only [Rng]; omega) | exact Nat.le_of_ble_eq_true rfl | exact True.intro | exact ⟨rfl, True.intro, fun _ _ => rfl⟩ | exact Nat.le_of_ble_eq_true rfl | (refine ⟨by (try simp only [List.length_cons, List.length_nil]); omega, Int.le_trans (Int.mul_le_mul_of_nonneg_left (show (TInfo.bytes _ : Int) ≤ 64 from Int.ofNat_le.2 (Nat.le_of_ble_eq_true rfl)) (by omega)) (by (try simp only [List.length_cons, List.length_nil]); omega)⟩)) ?_; conv => whnf)))
    all_goals refine leaf0 rfl (congrArg AVal.bool ?_) rfl
    all_goals simp [IsA, *]
abbrev aV (a : Ang) : AVal := .agg [.int .i64 a.1, .int .i64 a.2]
def doubleC : PCtr := fun _ _ _ vals k => match vals with
  | [.agg [.int .i64 n, .int .i64 d]] => Bd (n, d) ∧ k [] (aV (doubleA (n, d)))
  | _ => False
theorem double_ok : PCtrOk Try.prog 59 doubleC where
  enter := enter_ok Try.func59 (by kernel_rfl) rfl
  calls := by
    intro hg rg lr vals k h
    unfold doubleC at h
    split at h
    case h_2 => exact h.elim
    rename_i n d
    obtain ⟨hn, hk⟩ := h
    refine ⟨_, _, hk, fun A w _ _ => ?_⟩
    refine enter T_ok G1 Try.func59 rfl (K := (· < w.heap.size)) (fun _ h => h) (A := A) (n0 := 0) (b0 := 0) (rows := []) (hp := []) rfl (Nat.zero_le _) (fun k r h => by cases h) rfl (fun k r h => by cases h) rfl rfl (Nat.le_of_ble_eq_true rfl) ?_
    conv => whnf
    repeat (refine V_step T_ok G1 rfl ?_; conv => whnf)
    obtain ⟨h1, h2⟩ := hn
    simp only at h1 h2
    repeat (any_goals (first
      | (refine V_step T_ok G1 rfl ?_; conv => whnf)
      | (refine V_drawA T_ok G1 mixed (by kernel_rfl) ?_; conv => whnf)
      | (refine bcond_split (fun hc => ?_) (fun hc => ?_) <;> (try simp only [decide_eq_true_eq, decide_eq_false_iff_not, Bool.not_eq_true', Bool.not_eq_false', Bool.and_eq_true, Bool.or_eq_true, Bool.and_eq_false_imp, Bool.or_eq_false_iff, ne_eq, Decidable.not_not] at hc) <;> conv => whnf)
      | (intro ysK hysK; have hysl := congrArg List.length hysK; (try simp only [List.length_set, List.length_append, List.length_cons, List.length_nil, List.length_take, List.length_drop, List.length_replicate] at hysl); conv => whnf)
      | (refine And.intro (by first | exact True.intro | (with_reducible assumption) | omega | (simp only [Rng]; omega) | exact Nat.le_of_ble_eq_true rfl | exact True.intro | exact ⟨rfl, True.intro, fun _ _ => rfl⟩ | exact Nat.le_of_ble_eq_true rfl | (refine ⟨by (try simp only [List.length_cons, List.length_nil]); omega, Int.le_trans (Int.mul_le_mul_of_nonneg_left (show (TInfo.bytes _ : Int) ≤ 64 from Int.ofNat_le.2 (Nat.le_of_ble_eq_true rfl)) (by omega)) (by (try simp only [List.length_cons, List.length_nil]); omega)⟩)) ?_; conv => whnf)))
    all_goals exact leaf0 rfl rfl rfl
end Go.Proofs.Ytllagpbbbdekiab.Fw
namespace Go.Proofs.Ytllagpbbbdekiab.Fw
open Go Go.RowKit
set_option linter.unusedVariables false
set_option linter.unusedSimpArgs false
set_option maxRecDepth 100000
set_option maxHeartbeats 2000000
def Sm (a : Ang) : Prop := (0 ≤ a.1 ∧ a.1 ≤ 32768) ∧ (1 ≤ a.2 ∧ a.2 ≤ 32768)
theorem Sm.bd {a : Ang} (h : Sm a) : Bd a := by unfold Sm at h; unfold Bd; omega
def SmL (l : Lf) : Prop := Sm l.1 ∧ Sm l.2
end Go.Proofs.Ytllagpbbbdekiab.Fw
namespace Go.Proofs.Ytllagpbbbdekiab.Fw
open Go Go.RowKit
set_option linter.unusedVariables false
set_option linter.unusedSimpArgs false
set_option maxRecDepth 100000
set_option maxHeartbeats 2000000
end Go.Proofs.Ytllagpbbbdekiab.Fw
namespace Go.Proofs.Ytllagpbbbdekiab.Fw
open Go Go.RowKit
set_option linter.unusedVariables false
set_option linter.unusedSimpArgs false
set_option maxRecDepth 100000
set_option maxHeartbeats 2000000
abbrev aT : TyC := .pair (.int .i64) (.int .i64)
def allAN (a : Ang) : Bool := !decide (IsA a)
def allA1C : PCtr := fun hg _ _ vals k => match vals with
  | [.agg [.int .i64 n, .int .i64 d], .loc j 0] => boxF (hg j) 56 (k [] (.bool (allAN (n, d))))
  | _ => False
theorem allA1_ok : PCtrOk Try.prog 80 allA1C where
  enter := enter_ok Try.func80 (by kernel_rfl) rfl
  calls := by
    intro hg rg lr vals k h
    unfold allA1C at h
    split at h
    case h_2 => exact h.elim
    rename_i n d j
    obtain ⟨hj, hk⟩ := boxF_inv h
    refine ⟨_, _, hk, fun A w hB hR => ?_⟩
    refine enter T_ok (GOk.cons isAngle_ok .nil) Try.func80 rfl (K := (· < w.heap.size)) (fun _ h => h) (A := A.pick [j] []) (vals := [.agg [.int .i64 n, .int .i64 d], .loc 0 0]) (n0 := 0) (b0 := 1) (rows := []) (hp := [some [.fn 56 [] []]]) rfl (Nat.zero_le _) (one_box (hB j _ hj)) rfl no_row rfl rfl (Nat.le_of_ble_eq_true rfl) ?_
    conv => whnf
    repeat (refine V_step T_ok (GOk.cons isAngle_ok .nil) rfl ?_; conv => whnf)
    repeat (any_goals (first
      | (refine V_step T_ok (GOk.cons isAngle_ok .nil) rfl ?_; conv => whnf)
      | (refine V_drawA T_ok (GOk.cons isAngle_ok .nil) mixed (by kernel_rfl) ?_; conv => whnf)
      | (refine bcond_split (fun hc => ?_) (fun hc => ?_) <;> (try simp only [decide_eq_true_eq, decide_eq_false_iff_not, Bool.not_eq_true', Bool.not_eq_false', Bool.and_eq_true, Bool.or_eq_true, Bool.and_eq_false_imp, Bool.or_eq_false_iff, ne_eq, Decidable.not_not] at hc) <;> conv => whnf)
      | (intro ysK hysK; have hysl := congrArg List.length hysK; (try simp only [List.length_set, List.length_append, List.length_cons, List.length_nil, List.length_take, List.length_drop, List.length_replicate] at hysl); conv => whnf)
      | (refine And.intro (by first | exact True.intro | (with_reducible assumption) | omega | (simp only [Rng]; omega) | exact Nat.le_of_ble_eq_true rfl | exact True.intro | exact ⟨rfl, True.intro, fun _ _ => rfl⟩ | exact Nat.le_of_ble_eq_true rfl | (refine ⟨by (try simp only [List.length_cons, List.length_nil]); omega, Int.le_trans (Int.mul_le_mul_of_nonneg_left (show (TInfo.bytes _ : Int) ≤ 64 from Int.ofNat_le.2 (Nat.le_of_ble_eq_true rfl)) (by omega)) (by (try simp only [List.length_cons, List.length_nil]); omega)⟩)) ?_; conv => whnf)))
    all_goals exact leaf0 rfl rfl rfl
def allAxC : PCtr := fun hg rg _ vals k => match vals with
  | [.row i, .fn 80 [] [.loc j 0]] => rowC aT (rg i) fun xs => boxF (hg j) 56 (k [] (.int .i64 (idxP allAN xs)))
  | _ => False
theorem allAx_ok : PCtrOk Try.prog 81 allAxC where
  enter := enter_ok Try.func81 (by kernel_rfl) rfl
  calls := by
    intro hg rg lr vals k h
    unfold allAxC at h
    split at h
    case h_2 => exact h.elim
    rename_i i j
    obtain ⟨e, own, xs, hi, h⟩ : ∃ e own, ∃ (xs : List Ang), _ := rowC_inv h
    obtain ⟨hj, hk⟩ := boxF_inv h
    refine ⟨_, _, hk, fun A w hB hR => ?_⟩
    refine enter T_ok (GOk.cons allA1_ok .nil) Try.func81 rfl (K := (· < w.heap.size)) (fun _ h => h) (A := A.pick [j] [i]) (vals := [.row 0, .fn 80 [] [.loc 0 0]]) (n0 := 0) (b0 := 1) (rows := [some ⟨aT, e, false, xs⟩]) (hp := [some [.fn 56 [] []]]) rfl (Nat.zero_le _) (one_box (hB j _ hj)) rfl (one_row (hR i _ hi)) rfl rfl (Nat.le_of_ble_eq_true rfl) ?_
    conv => whnf
    repeat (refine V_step T_ok (GOk.cons allA1_ok .nil) rfl ?_; conv => whnf)
    have hcap' : (@List.length (TyC.α aT) xs : Int) ≤ 9223372036854775807 := by
      have h1 := (hR i _ hi).len
      have h2 := (hR i _ hi).cap
      have h3 := (hR i _ hi).max
      simp only at h1
      have : maxLen = 9223372036854775807 := rfl
      omega
    have hcap : (xs.length : Int) ≤ 9223372036854775807 := hcap'
    refine V_loopH (γ := Nat) (fun n => n ≤ xs.length ∧ ∀ j, j < n → allAN (xs.getD j aT.dflt) = false) (fun n => xs.length - n)
      (fun n => [(8, .int .i64 n)]) (fun _ => []) (fun _ => []) 0 ⟨Nat.zero_le _, fun j h => absurd h (Nat.not_lt_zero _)⟩ ?_ ?_
    · conv => whnf
      refine ⟨?_, by (conv => whnf); repeat (first | exact True.intro | (refine And.intro rfl ?_; conv => whnf)), by (conv => whnf); repeat (first | exact True.intro | (refine And.intro (by first | rfl | (subst_vars; rfl)) ?_; conv => whnf)), rfl, rfl, rfl, rfl, rfl, rfl, rfl, Nat.le_of_ble_eq_true rfl, Nat.le_of_ble_eq_true rfl⟩
      conv => whnf
      repeat (first | exact True.intro | (refine And.intro (by first | rfl | ((conv => whnf); exact congrArg (AVal.int .i64) (by omega)) | ((conv => whnf); exact congrArg (AVal.int .i64) (by simp only [Int.natCast_add, Int.natCast_one]; omega)) | ((conv => whnf); exact congrArg (AVal.irow _) (by first | omega | assumption | (simp only; omega)))) ?_; conv => whnf))
    · rintro n ⟨h1, h2⟩
      conv => whnf
      refine vcCode_sound T_ok (GOk.cons allA1_ok .nil) _ _ _ _ _ ?_
      conv => whnf
      repeat (refine V_step T_ok (GOk.cons allA1_ok .nil) rfl ?_; conv => whnf)
      repeat (any_goals (first
        | (refine V_step T_ok (GOk.cons allA1_ok .nil) rfl ?_; conv => whnf)
        | (refine V_drawA T_ok (GOk.cons allA1_ok .nil) mixed (by kernel_rfl) ?_; conv => whnf)
        | (refine bcond_split (fun hc => ?_) (fun hc => ?_) <;> (try simp only [decide_eq_true_eq, decide_eq_false_iff_not, Bool.not_eq_true', Bool.not_eq_false', Bool.and_eq_true, Bool.or_eq_true, Bool.and_eq_false_imp, Bool.or_eq_false_iff, ne_eq, Decidable.not_not] at hc) <;> conv => whnf)
        | (intro ysK hysK; have hysl := congrArg List.length hysK; (try simp only [List.length_set, List.length_append, List.length_cons, List.length_nil, List.length_take, List.length_drop, List.length_replicate] at hysl); conv => whnf)
        | (refine And.intro (by first | (first | exact True.intro | omega | (simp only [Rng]; omega)) | exact True.intro | exact ⟨rfl, True.intro, fun _ _ => rfl⟩ | exact Nat.le_of_ble_eq_true rfl | (refine ⟨by (try simp only [List.length_cons, List.length_nil]); omega, Int.le_trans (Int.mul_le_mul_of_nonneg_left (show (TInfo.bytes _ : Int) ≤ 64 from Int.ofNat_le.2 (Nat.le_of_ble_eq_true rfl)) (by omega)) (by (try simp only [List.length_cons, List.length_nil]); omega)⟩)) ?_; conv => whnf)))
      · rename_i hc0
        have hl : (n : Int) < (xs.length : Nat) := hc0
        exact leaf0 rfl (congrArg (AVal.int .i64) (idxP_found allAN xs n aT.dflt (by omega) h2 hc).symm) rfl
      · rename_i hc0
        have hl : (n : Int) < (xs.length : Nat) := hc0
        refine ⟨n + 1, ⟨by omega, fun j hj => ?_⟩, by omega, ?_⟩
        · rcases Nat.lt_or_ge j n with h | h
          · exact h2 j h
          · obtain rfl : j = n := by omega
            exact hc
        · conv => whnf
          refine ⟨?_, by (conv => whnf); repeat (first | exact True.intro | (refine And.intro rfl ?_; conv => whnf)), by (conv => whnf); repeat (first | exact True.intro | (refine And.intro (by first | rfl | (subst_vars; rfl)) ?_; conv => whnf)), rfl, rfl, rfl, rfl, rfl, rfl, rfl, Nat.le_of_ble_eq_true rfl, Nat.le_of_ble_eq_true rfl⟩
          conv => whnf
          repeat (first | exact True.intro | (refine And.intro (by first | rfl | ((conv => whnf); exact congrArg (AVal.int .i64) (by omega)) | ((conv => whnf); exact congrArg (AVal.int .i64) (by simp only [Int.natCast_add, Int.natCast_one]; omega)) | ((conv => whnf); exact congrArg (AVal.irow _) (by first | omega | assumption | (simp only; omega)))) ?_; conv => whnf))
      · have hl : ¬ (n : Int) < (xs.length : Nat) := hc
        exact leaf0 rfl (congrArg (AVal.int .i64) (idxP_none allAN xs aT.dflt (fun j hj => h2 j (by omega))).symm) rfl
def allAcC : PCtr := fun hg rg _ vals k => match vals with
  | [.row i, .fn 80 [] [.loc j 0]] => rowC aT (rg i) fun xs => boxF (hg j) 56 (k [] (.bool (xs.any allAN)))
  | _ => False
theorem allAc_ok : PCtrOk Try.prog 79 allAcC where
  enter := enter_ok Try.func79 (by kernel_rfl) rfl
  calls := by
    intro hg rg lr vals k h
    unfold allAcC at h
    split at h
    case h_2 => exact h.elim
    rename_i i j
    obtain ⟨e, own, xs, hi, h⟩ : ∃ e own, ∃ (xs : List Ang), _ := rowC_inv h
    obtain ⟨hj, hk⟩ := boxF_inv h
    refine ⟨_, _, hk, fun A w hB hR => ?_⟩
    refine enter T_ok (GOk.cons allAx_ok .nil) Try.func79 rfl (K := (· < w.heap.size)) (fun _ h => h) (A := A.pick [j] [i]) (vals := [.row 0, .fn 80 [] [.loc 0 0]]) (n0 := 0) (b0 := 1) (rows := [some ⟨aT, e, false, xs⟩]) (hp := [some [.fn 56 [] []]]) rfl (Nat.zero_le _) (one_box (hB j _ hj)) rfl (one_row (hR i _ hi)) rfl rfl (Nat.le_of_ble_eq_true rfl) ?_
    conv => whnf
    repeat (refine V_step T_ok (GOk.cons allAx_ok .nil) rfl ?_; conv => whnf)
    all_goals exact leaf0 rfl (congrArg AVal.bool (idxP_any allAN xs)) rfl
def allAY (a : Ang) : Bool := decide (IsA a)
theorem allA_any (xs : List Ang) : (!xs.any allAN) = xs.all allAY := by
  induction xs with
  | nil => rfl
  | cons x l ih => simp only [List.any_cons, List.all_cons, ← ih, allAN, allAY, Bool.not_or, Bool.not_not]
def allAC : PCtr := fun hg rg _ vals k => match vals with
  | [.row i, .fn f [] []] => rowC aT (rg i) fun xs => isF f 56 (k [] (.bool (xs.all allAY)))
  | _ => False
theorem allA_ok : PCtrOk Try.prog 71 allAC where
  enter := enter_ok Try.func71 (by kernel_rfl) rfl
  calls := by
    intro hg rg lr vals k h
    unfold allAC at h
    split at h
    case h_2 => exact h.elim
    rename_i i f
    obtain ⟨e, own, xs, hi, h⟩ : ∃ e own, ∃ (xs : List Ang), _ := rowC_inv h
    obtain ⟨rfl, hk⟩ := isF_inv h
    refine ⟨_, _, hk, fun A w hB hR => ?_⟩
    refine enter T_ok (GOk.cons allAc_ok .nil) Try.func71 rfl (K := (· < w.heap.size)) (fun _ h => h) (A := A.pick [] [i]) (vals := [.row 0, .fn 56 [] []]) (n0 := 0) (b0 := 0) (rows := [some ⟨aT, e, false, xs⟩]) (hp := []) rfl (Nat.zero_le _) no_box rfl (one_row (hR i _ hi)) rfl rfl (Nat.le_of_ble_eq_true rfl) ?_
    conv => whnf
    repeat (refine V_step T_ok (GOk.cons allAc_ok .nil) rfl ?_; conv => whnf)
    all_goals exact leaf0 rfl (congrArg AVal.bool (allA_any xs)) rfl
end Go.Proofs.Ytllagpbbbdekiab.Fw
namespace Go.Proofs.Ytllagpbbbdekiab.Fw
open Go Go.RowKit
set_option linter.unusedVariables false
set_option linter.unusedSimpArgs false
set_option maxRecDepth 100000
set_option maxHeartbeats 2000000
abbrev iT : TyC := .int .i64
def BdL (l : Lf) : Prop := Bd l.1 ∧ Bd l.2
theorem SmL.bd {l : Lf} (h : SmL l) : BdL l := ⟨h.1.bd, h.2.bd⟩
end Go.Proofs.Ytllagpbbbdekiab.Fw
namespace Go.Proofs.Ytllagpbbbdekiab.Fw
open Go Go.RowKit
set_option linter.unusedVariables false
set_option linter.unusedSimpArgs false
set_option maxRecDepth 100000
set_option maxHeartbeats 2000000
theorem sIn_ok : PCtrOk Try.prog 68 withinC where
  enter := enter_ok Try.func68 (by kernel_rfl) rfl
  calls := by
    intro hg rg lr vals k h
    unfold withinC at h
    split at h
    case h_2 => exact h.elim
    rename_i n lo hi
    obtain ⟨_, hk⟩ := h
    refine ⟨_, _, hk, fun A w _ _ => ?_⟩
    refine enter T_ok .nil Try.func68 rfl (K := (· < w.heap.size)) (fun _ h => h) (A := A) (n0 := 0) (b0 := 0) (rows := []) (hp := []) rfl (Nat.zero_le _) (fun k r h => by cases h) rfl (fun k r h => by cases h) rfl rfl (Nat.le_of_ble_eq_true rfl) ?_
    conv => whnf
    repeat (refine V_step T_ok .nil rfl ?_; conv => whnf)
    repeat (any_goals (first
      | (refine V_step T_ok .nil rfl ?_; conv => whnf)
      | (refine V_drawA T_ok .nil mixed (by kernel_rfl) ?_; conv => whnf)
      | (refine bcond_split (fun hc => ?_) (fun hc => ?_) <;> (try simp only [decide_eq_true_eq, decide_eq_false_iff_not, Bool.not_eq_true', Bool.not_eq_false', Bool.and_eq_true, Bool.or_eq_true, Bool.and_eq_false_imp, Bool.or_eq_false_iff, ne_eq, Decidable.not_not] at hc) <;> conv => whnf)
      | (intro ysK hysK; have hysl := congrArg List.length hysK; (try simp only [List.length_set, List.length_append, List.length_cons, List.length_nil, List.length_take, List.length_drop, List.length_replicate] at hysl); conv => whnf)
      | (refine And.intro (by first | exact True.intro | (with_reducible assumption) | omega | (simp only [Rng]; omega) | exact Nat.le_of_ble_eq_true rfl | exact True.intro | exact ⟨rfl, True.intro, fun _ _ => rfl⟩ | exact Nat.le_of_ble_eq_true rfl | (refine ⟨by (try simp only [List.length_cons, List.length_nil]); omega, Int.le_trans (Int.mul_le_mul_of_nonneg_left (show (TInfo.bytes _ : Int) ≤ 64 from Int.ofNat_le.2 (Nat.le_of_ble_eq_true rfl)) (by omega)) (by (try simp only [List.length_cons, List.length_nil]); omega)⟩)) ?_; conv => whnf)))
    all_goals (rename_i hc; refine leaf0 rfl ?_ rfl; congr 1; simp only [hc, true_and, false_and, decide_false])
theorem sDiv_ok : PCtrOk Try.prog 72 divC where
  enter := enter_ok Try.func72 (by kernel_rfl) rfl
  calls := by
    intro hg rg lr vals k h
    unfold divC at h
    split at h
    case h_2 => exact h.elim
    rename_i a b
    obtain ⟨⟨ha, hb⟩, hk⟩ := h
    refine ⟨_, _, hk, fun A w _ _ => ?_⟩
    refine enter T_ok .nil Try.func72 rfl (K := (· < w.heap.size)) (fun _ h => h) (A := A) (n0 := 0) (b0 := 0) (rows := []) (hp := []) rfl (Nat.zero_le _) (fun k r h => by cases h) rfl (fun k r h => by cases h) rfl rfl (Nat.le_of_ble_eq_true rfl) ?_
    conv => whnf
    repeat (refine V_step T_ok .nil rfl ?_; conv => whnf)
    refine V_loopH (γ := Int × Int) (fun g => (0 ≤ g.1 ∧ g.1 ≤ 9223372036854775807) ∧ (0 ≤ g.2 ∧ g.2 ≤ 9223372036854775807) ∧ Int.gcd g.1 g.2 = Int.gcd a b) (fun g => g.2.toNat)
      (fun g => [(0, .int .i64 g.1), (1, .int .i64 g.2)]) (fun _ => []) (fun _ => []) (a, b) ⟨ha, hb, rfl⟩ ?_ ?_
    · conv => whnf
      refine ⟨?_, by (conv => whnf); repeat (first | exact True.intro | (refine And.intro rfl ?_; conv => whnf)), by (conv => whnf); repeat (first | exact True.intro | (refine And.intro (by first | rfl | (subst_vars; rfl)) ?_; conv => whnf)), rfl, rfl, rfl, rfl, rfl, rfl, rfl, Nat.le_of_ble_eq_true rfl, Nat.le_of_ble_eq_true rfl⟩
      conv => whnf
      repeat (first | exact True.intro | (refine And.intro (by first | rfl | ((conv => whnf); exact congrArg (AVal.int .i64) (by omega)) | ((conv => whnf); exact congrArg (AVal.int .i64) (by simp only [Int.natCast_add, Int.natCast_one]; omega)) | ((conv => whnf); exact congrArg (AVal.irow _) (by first | omega | assumption | (simp only; omega)))) ?_; conv => whnf))
    · rintro ⟨x, y⟩ ⟨h1, h2, h5⟩
      conv => whnf
      refine vcCode_sound T_ok .nil _ _ _ _ _ ?_
      conv => whnf
      repeat (refine V_step T_ok .nil rfl ?_; conv => whnf)
      repeat (any_goals (first
        | (refine V_step T_ok .nil rfl ?_; conv => whnf)
        | (refine V_drawA T_ok .nil mixed (by kernel_rfl) ?_; conv => whnf)
        | (refine bcond_split (fun hc => ?_) (fun hc => ?_) <;> (try simp only [decide_eq_true_eq, decide_eq_false_iff_not, Bool.not_eq_true', Bool.not_eq_false', Bool.and_eq_true, Bool.or_eq_true, Bool.and_eq_false_imp, Bool.or_eq_false_iff, ne_eq, Decidable.not_not] at hc) <;> conv => whnf)
        | (intro ysK hysK; have hysl := congrArg List.length hysK; (try simp only [List.length_set, List.length_append, List.length_cons, List.length_nil, List.length_take, List.length_drop, List.length_replicate] at hysl); conv => whnf)
        | (refine And.intro (by first | exact True.intro | (with_reducible assumption) | omega | (simp only [Rng]; omega) | exact Nat.le_of_ble_eq_true rfl | exact True.intro | exact ⟨rfl, True.intro, fun _ _ => rfl⟩ | exact Nat.le_of_ble_eq_true rfl | (refine ⟨by (try simp only [List.length_cons, List.length_nil]); omega, Int.le_trans (Int.mul_le_mul_of_nonneg_left (show (TInfo.bytes _ : Int) ≤ 64 from Int.ofNat_le.2 (Nat.le_of_ble_eq_true rfl)) (by omega)) (by (try simp only [List.length_cons, List.length_nil]); omega)⟩)) ?_; conv => whnf)))
      · simp only at h1 h2 h5 hc
        have e1 := Int.emod_nonneg x (by omega : y ≠ 0)
        have e2 := Int.emod_lt_of_pos x (by omega : 0 < y)
        have e3 : x.tmod y = x % y := Int.tmod_eq_emod_of_nonneg h1.1
        refine ⟨(y, x.tmod y), ⟨h2, by simp only; omega, by rw [← h5]; exact gcd_step x y⟩, by simp only; omega, ?_⟩
        conv => whnf
        refine ⟨?_, by (conv => whnf); repeat (first | exact True.intro | (refine And.intro rfl ?_; conv => whnf)), by (conv => whnf); repeat (first | exact True.intro | (refine And.intro (by first | rfl | (subst_vars; rfl)) ?_; conv => whnf)), rfl, rfl, rfl, rfl, rfl, rfl, rfl, Nat.le_of_ble_eq_true rfl, Nat.le_of_ble_eq_true rfl⟩
        conv => whnf
        repeat (first | exact True.intro | (refine And.intro (by first | rfl | ((conv => whnf); exact congrArg (AVal.int .i64) (by omega)) | ((conv => whnf); exact congrArg (AVal.int .i64) (by simp only [Int.natCast_add, Int.natCast_one]; omega)) | ((conv => whnf); exact congrArg (AVal.irow _) (by first | omega | assumption | (simp only; omega)))) ?_; conv => whnf))
      · simp only at h1 h2 h5 hc
        have hc : y = 0 := by omega
        refine leaf0 rfl ?_ rfl
        rw [← h5, hc, Int.gcd_zero_right]
        congr 1
        simp only
        omega
abbrev GS1 := GOk.cons sIn_ok (GOk.cons sDiv_ok .nil)
theorem sOf_ok : PCtrOk Try.prog 55 angleC where
  enter := enter_ok Try.func55 (by kernel_rfl) rfl
  calls := by
    intro hg rg lr vals k h
    unfold angleC at h
    split at h
    case h_2 => exact h.elim
    rename_i n d
    obtain ⟨⟨hd, hn⟩, hk⟩ := h
    refine ⟨_, _, hk, fun A w _ _ => ?_⟩
    refine enter T_ok GS1 Try.func55 rfl (K := (· < w.heap.size)) (fun _ h => h) (A := A) (n0 := 0) (b0 := 0) (rows := []) (hp := []) rfl (Nat.zero_le _) (fun k r h => by cases h) rfl (fun k r h => by cases h) rfl rfl (Nat.le_of_ble_eq_true rfl) ?_
    conv => whnf
    repeat (refine V_step T_ok GS1 rfl ?_; conv => whnf)
    have t1 := Int.tmod_lt_of_pos n hd.1
    have t2 := Int.lt_tmod_of_pos n hd.1
    have t4 := Int.emod_nonneg n (by omega : d ≠ 0)
    have t5 := Int.emod_lt_of_pos n hd.1
    have t6 : (0 : Int) < (Int.gcd (n % d) d : Nat) := Int.ofNat_lt.2 (Int.gcd_pos_of_ne_zero_right _ (by omega))
    have e3 : (n.tmod d + d).tmod d = n % d := tmod_pos n d hd.1
    have q1 : (n % d).tdiv (Int.gcd (n % d) d : Nat) = (ofQ n d).1 := by rw [Int.gcd_comm]; exact Int.tdiv_eq_ediv_of_nonneg t4
    have q2 : d.tdiv (Int.gcd (n % d) d : Nat) = (ofQ n d).2 := by rw [Int.gcd_comm]; exact Int.tdiv_eq_ediv_of_nonneg (by omega)
    have r1 : 0 ≤ (ofQ n d).1 := Int.ediv_nonneg t4 (by omega)
    have r2 : (ofQ n d).1 ≤ n % d := Int.ediv_le_self _ t4
    have r3 : 0 ≤ (ofQ n d).2 := Int.ediv_nonneg (by omega) (by omega)
    have r4 : (ofQ n d).2 ≤ d := Int.ediv_le_self _ (by omega)
    repeat (any_goals (first
      | (refine V_step T_ok GS1 rfl ?_; conv => whnf)
      | (refine V_drawA T_ok GS1 mixed (by kernel_rfl) ?_; conv => whnf)
      | (refine bcond_split (fun hc => ?_) (fun hc => ?_) <;> (try simp only [decide_eq_true_eq, decide_eq_false_iff_not, Bool.not_eq_true', Bool.not_eq_false', Bool.and_eq_true, Bool.or_eq_true, Bool.and_eq_false_imp, Bool.or_eq_false_iff, ne_eq, Decidable.not_not] at hc) <;> conv => whnf)
      | (intro ysK hysK; have hysl := congrArg List.length hysK; (try simp only [List.length_set, List.length_append, List.length_cons, List.length_nil, List.length_take, List.length_drop, List.length_replicate] at hysl); conv => whnf)
      | (refine And.intro (by first | (first | omega | (simp only [Rng, e3, q1, q2, ne_eq]; omega)) | exact True.intro | exact ⟨rfl, True.intro, fun _ _ => rfl⟩ | exact Nat.le_of_ble_eq_true rfl | (refine ⟨by (try simp only [List.length_cons, List.length_nil]); omega, Int.le_trans (Int.mul_le_mul_of_nonneg_left (show (TInfo.bytes _ : Int) ≤ 64 from Int.ofNat_le.2 (Nat.le_of_ble_eq_true rfl)) (by omega)) (by (try simp only [List.length_cons, List.length_nil]); omega)⟩)) ?_; conv => whnf)))
    all_goals refine leaf0 rfl ?_ rfl
    all_goals simp only [e3, q1, q2]
theorem sIs_ok : PCtrOk Try.prog 48 isAngleC where
  enter := enter_ok Try.func48 (by kernel_rfl) rfl
  calls := by
    intro hg rg lr vals k h
    unfold isAngleC at h
    split at h
    case h_2 => exact h.elim
    rename_i n d
    obtain ⟨_, hk⟩ := h
    refine ⟨_, _, hk, fun A w _ _ => ?_⟩
    refine enter T_ok GS1 Try.func48 rfl (K := (· < w.heap.size)) (fun _ h => h) (A := A) (n0 := 0) (b0 := 0) (rows := []) (hp := []) rfl (Nat.zero_le _) (fun k r h => by cases h) rfl (fun k r h => by cases h) rfl rfl (Nat.le_of_ble_eq_true rfl) ?_
    conv => whnf
    repeat (refine V_step T_ok GS1 rfl ?_; conv => whnf)
    repeat (any_goals (first
      | (refine V_step T_ok GS1 rfl ?_; conv => whnf)
      | (refine V_drawA T_ok GS1 mixed (by kernel_rfl) ?_; conv => whnf)
      | (refine bcond_split (fun hc => ?_) (fun hc => ?_) <;> (try simp only [decide_eq_true_eq, decide_eq_false_iff_not, Bool.not_eq_true', Bool.not_eq_false', Bool.and_eq_true, Bool.or_eq_true, Bool.and_eq_false_imp, Bool.or_eq_false_iff, ne_eq, Decidable.not_not] at hc) <;> conv => whnf)
      | (intro ysK hysK; have hysl := congrArg List.length hysK; (try simp only [List.length_set, List.length_append, List.length_cons, List.length_nil, List.length_take, List.length_drop, List.length_replicate] at hysl); conv => whnf)
      | (refine And.intro (by first | exact True.intro | (with_reducible assumption) | omega | (simp only [Rng]; omega) | exact Nat.le_of_ble_eq_true rfl | exact True.intro | exact ⟨rfl, True.intro, fun _ _ => rfl⟩ | exact Nat.le_of_ble_eq_true rfl | (refine ⟨by (try simp only [List.length_cons, List.length_nil]); omega, Int.le_trans (Int.mul_le_mul_of_nonneg_left (show (TInfo.bytes _ : Int) ≤ 64 from Int.ofNat_le.2 (Nat.le_of_ble_eq_true rfl)) (by omega)) (by (try simp only [List.length_cons, List.length_nil]); omega)⟩)) ?_; conv => whnf)))
    all_goals refine leaf0 rfl (congrArg AVal.bool ?_) rfl
    all_goals simp [IsA, *, Int.gcd_comm]
end Go.Proofs.Ytllagpbbbdekiab.Fw
namespace Go.Proofs.Ytllagpbbbdekiab.Fw
open Go Go.RowKit
set_option linter.unusedVariables false
set_option linter.unusedSimpArgs false
set_option maxRecDepth 100000
set_option maxHeartbeats 2000000
end Go.Proofs.Ytllagpbbbdekiab.Fw
namespace Go.Proofs.Ytllagpbbbdekiab.Fw
open Go Go.RowKit
set_option linter.unusedVariables false
set_option linter.unusedSimpArgs false
set_option maxRecDepth 100000
set_option maxHeartbeats 2000000
end Go.Proofs.Ytllagpbbbdekiab.Fw
namespace Go.Proofs.Ytllagpbbbdekiab.Fw
set_option linter.unusedVariables false
set_option linter.unusedSimpArgs false
theorem dvd_cop {a b c : Int} (h : a ∣ b * c) (g : Int.gcd a b = 1) : a ∣ c := by
  rw [← Int.natAbs_dvd_natAbs] at h ⊢
  rw [Int.natAbs_mul] at h
  exact Nat.Coprime.dvd_of_dvd_mul_left g h
theorem emod_mul_right (a b t : Int) (h : 0 < t) : (a * t) % (b * t) = a % b * t := by
  rw [Int.mul_comm a t, Int.mul_comm b t, Int.mul_emod_mul_of_pos _ _ h, Int.mul_comm]
theorem frac_eq {a b : Ang} (ha : 1 ≤ a.2) (hb : 1 ≤ b.2) (ga : Int.gcd a.2 a.1 = 1) (gb : Int.gcd b.2 b.1 = 1) (h : a.1 * b.2 = b.1 * a.2) : a = b := by
  have h1 : a.2 ∣ b.2 := by
    have : a.2 ∣ a.1 * b.2 := ⟨b.1, by rw [h, Int.mul_comm]⟩
    exact dvd_cop this ga
  have h2 : b.2 ∣ a.2 := by
    have : b.2 ∣ b.1 * a.2 := ⟨a.1, by rw [← h, Int.mul_comm]⟩
    exact dvd_cop this gb
  have h3 : a.2 = b.2 := Int.dvd_antisymm (by omega) (by omega) h1 h2
  rw [h3] at h
  have h4 : a.1 = b.1 := Int.eq_of_mul_eq_mul_right (by omega) h
  exact Prod.ext h4 h3
theorem ofQ_gcd (n d : Int) (hd : 1 ≤ d) : Int.gcd (ofQ n d).2 (ofQ n d).1 = 1 := by
  have t6 : 0 < Int.gcd d (n % d) := Int.gcd_pos_of_ne_zero_left _ (by omega)
  exact Int.gcd_ediv_gcd_ediv_gcd t6
theorem ofQ_cross (n d : Int) (hd : 1 ≤ d) : (ofQ n d).1 * d = (n % d) * (ofQ n d).2 := by
  have t6 : (0 : Int) < (Int.gcd d (n % d) : Nat) := Int.ofNat_lt.2 (Int.gcd_pos_of_ne_zero_left _ (by omega))
  have d1 : ((Int.gcd d (n % d) : Nat) : Int) ∣ d := Int.gcd_dvd_left ..
  have d2 : ((Int.gcd d (n % d) : Nat) : Int) ∣ (n % d) := Int.gcd_dvd_right ..
  unfold ofQ
  simp only
  generalize ((Int.gcd d (n % d) : Nat) : Int) = g at *
  obtain ⟨x, hx⟩ := d1
  obtain ⟨y, hy⟩ := d2
  rw [hy]
  have e1 : d / g = x := by rw [hx]; exact Int.mul_ediv_cancel_left _ (by omega)
  have e2 : g * y / g = y := Int.mul_ediv_cancel_left _ (by omega)
  rw [e1, e2, hx]
  rw [Int.mul_left_comm, Int.mul_comm g y, Int.mul_assoc, Int.mul_comm g (y * x), Int.mul_assoc, Int.mul_comm x g]
end Go.Proofs.Ytllagpbbbdekiab.Fw
namespace Go.Proofs.Ytllagpbbbdekiab.Fw
set_option linter.unusedVariables false
set_option linter.unusedSimpArgs false
end Go.Proofs.Ytllagpbbbdekiab.Fw
