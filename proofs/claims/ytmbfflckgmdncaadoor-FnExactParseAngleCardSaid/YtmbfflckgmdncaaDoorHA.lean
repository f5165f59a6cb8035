/- Plain laws on angles as pairs of whole numbers. No program. -/
import Derived.KernelRfl
import Derived.Test.YtmbfflckgmdncaaDoorGE
import Derived.Test.YtmbfflckgmdncaaDoorFwT
namespace Go.Proofs.YtmbfflckgmdncaaDoor.Fw
set_option linter.unusedVariables false

abbrev Ang := Int × Int

theorem tmod_pos (n d : Int) (hd : 0 < d) : (n.tmod d + d).tmod d = n % d := by
  have h1 := Int.tmod_lt_of_pos n hd
  have h2 : -d < n.tmod d := by
    have := Int.lt_tmod_of_pos n hd
    omega
  have h3 : n.tmod d = n % d ∨ n.tmod d = n % d - d := by
    rw [Int.tmod_eq_emod]
    split
    · left; omega
    · right
      have : (d.natAbs : Int) = d := by omega
      omega
  rcases h3 with h | h
  · rw [h]
    have := Int.emod_nonneg n (by omega : d ≠ 0)
    have := Int.emod_lt_of_pos n hd
    rw [Int.tmod_eq_emod_of_nonneg (by omega), Int.add_emod_right, Int.emod_emod_of_dvd _ (Int.dvd_refl d)]
  · rw [h]
    have h4 := Int.emod_nonneg n (by omega : d ≠ 0)
    have h5 := Int.emod_lt_of_pos n hd
    rw [show n % d - d + d = n % d by omega, Int.tmod_eq_emod_of_nonneg h4, Int.emod_emod_of_dvd _ (Int.dvd_refl d)]

theorem gcd_step (a b : Int) : Int.gcd b (a.tmod b) = Int.gcd a b := by
  rw [Int.gcd_comm a b]
  have : a.tmod b = a - b * a.tdiv b := by have := Int.mul_tdiv_add_tmod a b; omega
  rw [this, Int.gcd_sub_mul_left_right]

/-- The angle of a fraction, whole turns left out. -/
def ofQ (n d : Int) : Ang := ((n % d) / (Int.gcd d (n % d) : Int), d / (Int.gcd d (n % d) : Int))

def IsA (a : Ang) : Prop := (1 ≤ a.2 ∧ a.2 ≤ 8191) ∧ (0 ≤ a.1 ∧ a.1 ≤ a.2 - 1) ∧ ((Int.gcd a.2 a.1 : Nat) : Int) = 1
instance (a : Ang) : Decidable (IsA a) := by unfold IsA; infer_instance

/-- A fraction whose parts can be multiplied. -/
def Bd (a : Ang) : Prop := (0 ≤ a.1 ∧ a.1 ≤ 1073741824) ∧ (1 ≤ a.2 ∧ a.2 ≤ 1073741824)

theorem IsA.bd {a : Ang} (h : IsA a) : Bd a := by
  obtain ⟨⟨h1, h2⟩, ⟨h3, h4⟩, _⟩ := h
  refine ⟨⟨h3, by omega⟩, h1, by omega⟩

theorem mulBd {x y : Int} (h1 : 0 ≤ x) (h2 : x ≤ 1073741824) (h3 : 0 ≤ y) (h4 : y ≤ 1073741824) : 0 ≤ x * y ∧ x * y ≤ 1152921504606846976 :=
  ⟨Int.mul_nonneg h1 h3, Int.le_trans (Int.mul_le_mul h2 h4 h3 (by omega)) (by omega)⟩
theorem mulPos {x y : Int} (h1 : 1 ≤ x) (h3 : 1 ≤ y) : 1 ≤ x * y := by have := Int.mul_pos (a := x) (b := y) (by omega) (by omega); omega

theorem ofQ_bd (n d : Int) (hd : 1 ≤ d) : (0 ≤ (ofQ n d).1 ∧ (ofQ n d).1 ≤ (ofQ n d).2 - 1) ∧ (1 ≤ (ofQ n d).2 ∧ (ofQ n d).2 ≤ d) := by
  have t4 := Int.emod_nonneg n (by omega : d ≠ 0)
  have t5 := Int.emod_lt_of_pos n (by omega : 0 < d)
  have t6 : (0 : Int) < (Int.gcd d (n % d) : Nat) := Int.ofNat_lt.2 (Int.gcd_pos_of_ne_zero_left _ (by omega))
  have d1 : ((Int.gcd d (n % d) : Nat) : Int) ∣ d := Int.gcd_dvd_left ..
  have d2 : ((Int.gcd d (n % d) : Nat) : Int) ∣ (n % d) := Int.gcd_dvd_right ..
  unfold ofQ
  simp only
  generalize hg : ((Int.gcd d (n % d) : Nat) : Int) = g at *
  obtain ⟨x, hx⟩ := d1
  obtain ⟨y, hy⟩ := d2
  have e1 : d / g = x := by rw [hx]; exact Int.mul_ediv_cancel_left _ (by omega)
  have e2 : (n % d) / g = y := by rw [hy]; exact Int.mul_ediv_cancel_left _ (by omega)
  rw [e1, e2]
  have hx0 : 1 ≤ x := by
    rcases Int.lt_or_le 0 x with h | h
    · omega
    · have := Int.mul_nonpos_of_nonneg_of_nonpos (a := g) (b := x) (by omega) h
      omega
  have hy0 : 0 ≤ y := by
    rcases Int.lt_or_le y 0 with h | h
    · have := Int.mul_neg_of_pos_of_neg (a := g) (b := y) (by omega) h
      omega
    · exact h
  have hyx : y < x := by
    rcases Int.lt_or_le y x with h | h
    · exact h
    · have := Int.mul_le_mul_of_nonneg_left h (by omega : 0 ≤ g)
      omega
  have hxd : x ≤ d := by
    have := Int.mul_le_mul_of_nonneg_right (by omega : 1 ≤ g) (by omega : 0 ≤ x)
    omega
  omega

def minusA (a b : Ang) : Ang := ofQ (a.1 * b.2 - b.1 * a.2) (a.2 * b.2)
def plusA (a b : Ang) : Ang := ofQ (a.1 * b.2 + b.1 * a.2) (a.2 * b.2)
def doubleA (a : Ang) : Ang := ofQ (2 * a.1) a.2
def lessA (a b : Ang) : Prop := a.1 * b.2 < b.1 * a.2
instance (a b : Ang) : Decidable (lessA a b) := by unfold lessA; infer_instance
/-- The sign of a comparison. -/
def cmpI (x y : Int) : Int := if x < y then -1 else if y < x then 1 else 0
def cmpA (a b : Ang) : Int := cmpI (a.1 * b.2) (b.1 * a.2)
def distA (a b : Ang) : Ang := if cmpA (minusA a b) (minusA b a) < 0 then minusA a b else minusA b a
def orderA (a b c : Ang) : Int := if a = b ∨ b = c ∨ a = c then 0 else if cmpA (minusA b a) (minusA c a) < 0 then 1 else -1
abbrev Lf := Ang × Ang
def sizeL (l : Lf) : Ang := distA l.1 l.2
def IsL (l : Lf) : Prop := IsA l.1 ∧ IsA l.2 ∧ lessA l.1 l.2
instance (l : Lf) : Decidable (IsL l) := by unfold IsL; infer_instance
def crossL (l m : Lf) : Bool := decide (orderA l.1 m.1 l.2 * orderA l.1 m.2 l.2 = -1)
def cmpL (l m : Lf) : Int := if cmpA l.1 m.1 = 0 then cmpA l.2 m.2 else cmpA l.1 m.1

theorem cmpI_rng (x y : Int) : -1 ≤ cmpI x y ∧ cmpI x y ≤ 1 := by unfold cmpI; (repeat' split) <;> omega
theorem orderA_rng (a b c : Ang) : -1 ≤ orderA a b c ∧ orderA a b c ≤ 1 := by unfold orderA; (repeat' split) <;> omega

end Go.Proofs.YtmbfflckgmdncaaDoor.Fw

/- Contracts: divisors, angles. -/
namespace Go.Proofs.YtmbfflckgmdncaaDoor.Fw
open Go Go.RowKit
set_option linter.unusedVariables false
set_option linter.unusedSimpArgs false
set_option maxRecDepth 100000
set_option maxHeartbeats 2000000

theorem mixed : Tryd.prog.follows .mixedOrders = true := by kernel_rfl

theorem enter_ok {f : FuncId} {fn : Func} (hf : Tryd.prog.funcs[f]? = some fn) (hn : (fn.name == "runtime.NumGoroutine") = false) (hb : fn.body.isNone = false) (args : Array Value) (w : World) : (callFunc f args).run Tryd.prog w = .ok (.enter f args) w := by
  simp only [callFunc, Sem.run_bind, run_program, Result.andThen_ok, hf, hn, hb, Bool.false_eq_true, if_false]
  rfl

def divC : PCtr := fun _ _ _ vals k => match vals with
  | [.int .i64 a, .int .i64 b] => ((0 ≤ a ∧ a ≤ 9223372036854775807) ∧ (0 ≤ b ∧ b ≤ 9223372036854775807)) ∧ k [] (.int .i64 (Int.gcd a b : Nat))
  | _ => False

theorem div_ok : PCtrOk Tryd.prog 29 divC where
  enter := enter_ok Tryd.func29 (by kernel_rfl) rfl
  calls := by
    intro hg rg lr vals k h
    unfold divC at h
    split at h
    case h_2 => exact h.elim
    rename_i a b
    obtain ⟨⟨ha, hb⟩, hk⟩ := h
    refine ⟨_, _, hk, fun A w _ _ => ?_⟩
    refine enter T_ok .nil Tryd.func29 rfl (K := (· < w.heap.size)) (fun _ h => h) (A := A) (n0 := 0) (b0 := 0) (rows := []) (hp := []) rfl (Nat.zero_le _) (fun k r h => by cases h) rfl (fun k r h => by cases h) rfl rfl (Nat.le_of_ble_eq_true rfl) ?_
    conv => whnf
    repeat (refine V_step T_ok .nil rfl ?_; conv => whnf)
    refine V_loopH (γ := Int × Int) (fun g => (0 ≤ g.1 ∧ g.1 ≤ 9223372036854775807) ∧ (0 ≤ g.2 ∧ g.2 ≤ 9223372036854775807) ∧ Int.gcd g.1 g.2 = Int.gcd a b) (fun g => g.2.toNat)
      (fun g => [(0, .int .i64 g.1), (1, .int .i64 g.2)]) (fun _ => []) (fun _ => []) (a, b) ⟨ha, hb, rfl⟩ ?_ ?_
    · conv => whnf
      refine ⟨?_, by (conv => whnf); repeat (first | exact True.intro | (refine And.intro rfl ?_; conv => whnf)), by (conv => whnf); repeat (first | exact True.intro | (refine And.intro (by first | rfl | (subst_vars; rfl)) ?_; conv => whnf)), rfl, rfl, rfl, rfl, rfl, rfl, rfl, Nat.le_of_ble_eq_true rfl, Nat.le_of_ble_eq_true rfl⟩
      conv => whnf
      repeat (first | exact True.intro | (refine And.intro (by first | rfl | ((conv => whnf); exact congrArg (AVal.int .i64) (by omega)) | ((conv => whnf); exact congrArg (AVal.int .i64) (by simp only [Int.natCast_add, Int.natCast_one]; omega)) | ((conv => whnf); exact congrArg (AVal.irow _) (by first | omega | assumption | (simp only; omega)))) ?_; conv => whnf))
    · rintro ⟨x, y⟩ ⟨h1, h2, h5⟩
      conv => whnf
      refine vcCode_sound T_ok .nil _ _ _ _ _ ?_
      conv => whnf
      repeat (refine V_step T_ok .nil rfl ?_; conv => whnf)
      repeat (any_goals (first
        | (refine V_step T_ok .nil rfl ?_; conv => whnf)
        | (refine V_drawA T_ok .nil mixed (by kernel_rfl) ?_; conv => whnf)
        | (refine bcond_split (fun hc => ?_) (fun hc => ?_) <;> (try simp only [decide_eq_true_eq, decide_eq_false_iff_not, Bool.not_eq_true', Bool.not_eq_false', Bool.and_eq_true, Bool.or_eq_true, Bool.and_eq_false_imp, Bool.or_eq_false_iff, ne_eq, Decidable.not_not] at hc) <;> conv => whnf)
        | (intro ysK hysK; have hysl := congrArg List.length hysK; (try simp only [List.length_set, List.length_append, List.length_cons, List.length_nil, List.length_take, List.length_drop, List.length_replicate] at hysl); conv => whnf)
        | (refine And.intro (by first | exact True.intro | (with_reducible assumption) | omega | (simp only [Rng]; omega) | exact Nat.le_of_ble_eq_true rfl | exact True.intro | exact ⟨rfl, True.intro, fun _ _ => rfl⟩ | exact Nat.le_of_ble_eq_true rfl | (refine ⟨by (try simp only [List.length_cons, List.length_nil]); omega, Int.le_trans (Int.mul_le_mul_of_nonneg_left (show (TInfo.bytes _ : Int) ≤ 64 from Int.ofNat_le.2 (Nat.le_of_ble_eq_true rfl)) (by omega)) (by (try simp only [List.length_cons, List.length_nil]); omega)⟩)) ?_; conv => whnf)))
      · rename_i hc
        simp only at h1 h2 h5
        have e1 := Int.emod_nonneg x hc
        have e2 := Int.emod_lt_of_pos x (by omega : 0 < y)
        have e3 : x.tmod y = x % y := Int.tmod_eq_emod_of_nonneg h1.1
        refine ⟨(y, x.tmod y), ⟨h2, by simp only; omega, by rw [← h5]; exact gcd_step x y⟩, by simp only; omega, ?_⟩
        conv => whnf
        refine ⟨?_, by (conv => whnf); repeat (first | exact True.intro | (refine And.intro rfl ?_; conv => whnf)), by (conv => whnf); repeat (first | exact True.intro | (refine And.intro (by first | rfl | (subst_vars; rfl)) ?_; conv => whnf)), rfl, rfl, rfl, rfl, rfl, rfl, rfl, Nat.le_of_ble_eq_true rfl, Nat.le_of_ble_eq_true rfl⟩
        conv => whnf
        repeat (first | exact True.intro | (refine And.intro (by first | rfl | ((conv => whnf); exact congrArg (AVal.int .i64) (by omega)) | ((conv => whnf); exact congrArg (AVal.int .i64) (by simp only [Int.natCast_add, Int.natCast_one]; omega)) | ((conv => whnf); exact congrArg (AVal.irow _) (by first | omega | assumption | (simp only; omega)))) ?_; conv => whnf))
      · rename_i hc
        simp only at h1 h5 hc
        refine leaf0 rfl ?_ rfl
        rw [← h5, hc, Int.gcd_zero_right]
        congr 1
        simp only
        omega

def withinC : PCtr := fun _ _ _ vals k => match vals with
  | [.int .i64 n, .int .i64 lo, .int .i64 hi] => True ∧ k [] (.bool (decide (lo ≤ n ∧ n ≤ hi)))
  | _ => False

theorem within_ok : PCtrOk Tryd.prog 28 withinC where
  enter := enter_ok Tryd.func28 (by kernel_rfl) rfl
  calls := by
    intro hg rg lr vals k h
    unfold withinC at h
    split at h
    case h_2 => exact h.elim
    rename_i n lo hi
    obtain ⟨_, hk⟩ := h
    refine ⟨_, _, hk, fun A w _ _ => ?_⟩
    refine enter T_ok .nil Tryd.func28 rfl (K := (· < w.heap.size)) (fun _ h => h) (A := A) (n0 := 0) (b0 := 0) (rows := []) (hp := []) rfl (Nat.zero_le _) (fun k r h => by cases h) rfl (fun k r h => by cases h) rfl rfl (Nat.le_of_ble_eq_true rfl) ?_
    conv => whnf
    repeat (refine V_step T_ok .nil rfl ?_; conv => whnf)
    repeat (any_goals (first
      | (refine V_step T_ok .nil rfl ?_; conv => whnf)
      | (refine V_drawA T_ok .nil mixed (by kernel_rfl) ?_; conv => whnf)
      | (refine bcond_split (fun hc => ?_) (fun hc => ?_) <;> (try simp only [decide_eq_true_eq, decide_eq_false_iff_not, Bool.not_eq_true', Bool.not_eq_false', Bool.and_eq_true, Bool.or_eq_true, Bool.and_eq_false_imp, Bool.or_eq_false_iff, ne_eq, Decidable.not_not] at hc) <;> conv => whnf)
      | (intro ysK hysK; have hysl := congrArg List.length hysK; (try simp only [List.length_set, List.length_append, List.length_cons, List.length_nil, List.length_take, List.length_drop, List.length_replicate] at hysl); conv => whnf)
      | (refine And.intro (by first | exact True.intro | (with_reducible assumption) | omega | (simp only [Rng]; omega) | exact Nat.le_of_ble_eq_true rfl | exact True.intro | exact ⟨rfl, True.intro, fun _ _ => rfl⟩ | exact Nat.le_of_ble_eq_true rfl | (refine ⟨by (try simp only [List.length_cons, List.length_nil]); omega, Int.le_trans (Int.mul_le_mul_of_nonneg_left (show (TInfo.bytes _ : Int) ≤ 64 from Int.ofNat_le.2 (Nat.le_of_ble_eq_true rfl)) (by omega)) (by (try simp only [List.length_cons, List.length_nil]); omega)⟩)) ?_; conv => whnf)))
    all_goals (rename_i hc; refine leaf0 rfl ?_ rfl; congr 1; simp only [hc, true_and, false_and, decide_false])

def angleC : PCtr := fun _ _ _ vals k => match vals with
  | [.int .i64 n, .int .i64 d] => ((0 < d ∧ d ≤ 4611686018427387904) ∧ (-4611686018427387904 ≤ n ∧ n ≤ 4611686018427387904)) ∧ k [] (.agg [.int .i64 (ofQ n d).1, .int .i64 (ofQ n d).2])
  | _ => False

def isAngleC : PCtr := fun _ _ _ vals k => match vals with
  | [.agg [.int .i64 n, .int .i64 d]] => True ∧ k [] (.bool (decide (IsA (n, d))))
  | _ => False

abbrev G1 := GOk.cons within_ok ((GOk.cons div_ok .nil))

theorem isAngle_ok : PCtrOk Tryd.prog 18 isAngleC where
  enter := enter_ok Tryd.func18 (by kernel_rfl) rfl
  calls := by
    intro hg rg lr vals k h
    unfold isAngleC at h
    split at h
    case h_2 => exact h.elim
    rename_i n d
    obtain ⟨_, hk⟩ := h
    refine ⟨_, _, hk, fun A w _ _ => ?_⟩
    refine enter T_ok G1 Tryd.func18 rfl (K := (· < w.heap.size)) (fun _ h => h) (A := A) (n0 := 0) (b0 := 0) (rows := []) (hp := []) rfl (Nat.zero_le _) (fun k r h => by cases h) rfl (fun k r h => by cases h) rfl rfl (Nat.le_of_ble_eq_true rfl) ?_
    conv => whnf
    repeat (refine V_step T_ok G1 rfl ?_; conv => whnf)
    repeat (any_goals (first
      | (refine V_step T_ok G1 rfl ?_; conv => whnf)
      | (refine V_drawA T_ok G1 mixed (by kernel_rfl) ?_; conv => whnf)
      | (refine bcond_split (fun hc => ?_) (fun hc => ?_) <;> (try simp only [decide_eq_true_eq, decide_eq_false_iff_not, Bool.not_eq_true', Bool.not_eq_false', Bool.and_eq_true, Bool.or_eq_true, Bool.and_eq_false_imp, Bool.or_eq_false_iff, ne_eq, Decidable.not_not] at hc) <;> conv => whnf)
      | (intro ysK hysK; have hysl := congrArg List.length hysK; (try simp only [List.length_set, List.length_append, List.length_cons, List.length_nil, List.length_take, List.length_drop, List.length_replicate] at hysl); conv => whnf)
      | (refine And.intro (by first | exact True.intro | (with_reducible assumption) | omega | (simp only [Rng]; omega) | exact Nat.le_of_ble_eq_true rfl | exact True.intro | exact ⟨rfl, True.intro, fun _ _ => rfl⟩ | exact Nat.le_of_ble_eq_true rfl | (refine ⟨by (try simp only [List.length_cons, List.length_nil]); omega, Int.le_trans (Int.mul_le_mul_of_nonneg_left (show (TInfo.bytes _ : Int) ≤ 64 from Int.ofNat_le.2 (Nat.le_of_ble_eq_true rfl)) (by omega)) (by (try simp only [List.length_cons, List.length_nil]); omega)⟩)) ?_; conv => whnf)))
    all_goals refine leaf0 rfl (congrArg AVal.bool ?_) rfl
    all_goals simp [IsA, *]

abbrev aV (a : Ang) : AVal := .agg [.int .i64 a.1, .int .i64 a.2]
abbrev aC (a : Ang) : List AVal := [.int .i64 a.1, .int .i64 a.2]
abbrev lV (l : Lf) : AVal := .agg [.int .i64 l.1.1, .int .i64 l.1.2, .int .i64 l.2.1, .int .i64 l.2.2]

def minusC : PCtr := fun _ _ _ vals k => match vals with
  | [.agg [.int .i64 n, .int .i64 d], .agg [.int .i64 m, .int .i64 e]] => (Bd (n, d) ∧ Bd (m, e)) ∧ k [] (aV (minusA (n, d) (m, e)))
  | _ => False

def doubleC : PCtr := fun _ _ _ vals k => match vals with
  | [.agg [.int .i64 n, .int .i64 d]] => Bd (n, d) ∧ k [] (aV (doubleA (n, d)))
  | _ => False

def isNaNC : PCtr := fun _ _ _ vals k => match vals with
  | [.int .i64 n] => True ∧ k [] (.bool false)
  | _ => False

def cmpIC : PCtr := fun _ _ _ vals k => match vals with
  | [.int .i64 n, .int .i64 m] => True ∧ k [] (.int .i64 (cmpI n m))
  | _ => False

def cmpAC : PCtr := fun _ _ _ vals k => match vals with
  | [.agg [.int .i64 n, .int .i64 d], .agg [.int .i64 m, .int .i64 e]] => (Bd (n, d) ∧ Bd (m, e)) ∧ k [] (.int .i64 (cmpA (n, d) (m, e)))
  | _ => False

end Go.Proofs.YtmbfflckgmdncaaDoor.Fw

/- Contracts: leaves. -/
namespace Go.Proofs.YtmbfflckgmdncaaDoor.Fw
open Go Go.RowKit
set_option linter.unusedVariables false
set_option linter.unusedSimpArgs false
set_option maxRecDepth 100000
set_option maxHeartbeats 2000000

abbrev G2 := GOk.cons isAngle_ok (((G1)))

theorem Bd.minus {a b : Ang} (h : Bd a) (h' : Bd b) (h2 : a.2 * b.2 ≤ 1073741824) : Bd (minusA a b) := by
  have := ofQ_bd (a.1 * b.2 - b.1 * a.2) (a.2 * b.2) (mulPos h.2.1 h'.2.1)
  unfold Bd minusA
  omega

theorem cmpI_neg (x y : Int) : cmpI x y < 0 ↔ x < y := by unfold cmpI; (repeat' split) <;> omega
theorem cmpI_pos (x y : Int) : 0 < cmpI x y ↔ y < x := by unfold cmpI; (repeat' split) <;> omega
theorem cmpI_zero (x y : Int) : cmpI x y = 0 ↔ x = y := by unfold cmpI; (repeat' split) <;> omega
theorem cmpA_neg (a b : Ang) : cmpA a b < 0 ↔ lessA a b := cmpI_neg _ _

/-- A small fraction: differences of such can be compared. -/
def Sm (a : Ang) : Prop := (0 ≤ a.1 ∧ a.1 ≤ 32768) ∧ (1 ≤ a.2 ∧ a.2 ≤ 32768)
theorem IsA.sm {a : Ang} (h : IsA a) : Sm a := by
  obtain ⟨⟨h1, h2⟩, ⟨h3, h4⟩, _⟩ := h
  refine ⟨⟨h3, by omega⟩, h1, by omega⟩
theorem Sm.bd {a : Ang} (h : Sm a) : Bd a := by unfold Sm at h; unfold Bd; omega
theorem Sm.minus {a b : Ang} (h : Sm a) (h' : Sm b) : Bd (minusA a b) :=
  h.bd.minus h'.bd (Int.le_trans (Int.mul_le_mul h.2.2 h'.2.2 (by have := h'.2.1; omega) (by omega)) (by omega))

def distC : PCtr := fun _ _ _ vals k => match vals with
  | [.agg [.int .i64 n, .int .i64 d], .agg [.int .i64 m, .int .i64 e]] => (Sm (n, d) ∧ Sm (m, e)) ∧ k [] (aV (distA (n, d) (m, e)))
  | _ => False

def orderC : PCtr := fun _ _ _ vals k => match vals with
  | [.agg [.int .i64 n, .int .i64 d], .agg [.int .i64 m, .int .i64 e], .agg [.int .i64 p, .int .i64 q]] => (Sm (n, d) ∧ Sm (m, e) ∧ Sm (p, q)) ∧ k [] (.int .i64 (orderA (n, d) (m, e) (p, q)))
  | _ => False

def SmL (l : Lf) : Prop := Sm l.1 ∧ Sm l.2
theorem IsL.sm {l : Lf} (h : IsL l) : SmL l := ⟨h.1.sm, h.2.1.sm⟩

def sizeC : PCtr := fun _ _ _ vals k => match vals with
  | [.agg [.int .i64 n, .int .i64 d, .int .i64 m, .int .i64 e]] => SmL ((n, d), (m, e)) ∧ k [] (aV (sizeL ((n, d), (m, e))))
  | _ => False

def isLeafC : PCtr := fun _ _ _ vals k => match vals with
  | [.agg [.int .i64 n, .int .i64 d, .int .i64 m, .int .i64 e]] => True ∧ k [] (.bool (decide (IsL ((n, d), (m, e)))))
  | _ => False

end Go.Proofs.YtmbfflckgmdncaaDoor.Fw

/- Contracts: leaves crossing. -/
namespace Go.Proofs.YtmbfflckgmdncaaDoor.Fw
open Go Go.RowKit
set_option linter.unusedVariables false
set_option linter.unusedSimpArgs false
set_option maxRecDepth 100000
set_option maxHeartbeats 2000000

def crossC : PCtr := fun _ _ _ vals k => match vals with
  | [.agg [.int .i64 n, .int .i64 d, .int .i64 m, .int .i64 e], .agg [.int .i64 n', .int .i64 d', .int .i64 m', .int .i64 e']] =>
    (SmL ((n, d), (m, e)) ∧ SmL ((n', d'), (m', e'))) ∧ k [] (.bool (crossL ((n, d), (m, e)) ((n', d'), (m', e'))))
  | _ => False

end Go.Proofs.YtmbfflckgmdncaaDoor.Fw

/- Contracts: all angles of a list. -/
namespace Go.Proofs.YtmbfflckgmdncaaDoor.Fw
open Go Go.RowKit
set_option linter.unusedVariables false
set_option linter.unusedSimpArgs false
set_option maxRecDepth 100000
set_option maxHeartbeats 2000000

abbrev aT : TyC := .pair (.int .i64) (.int .i64)
abbrev lT : TyC := .pair aT aT

/-- The opposite, as a Bool. -/
def allAN (a : Ang) : Bool := !decide (IsA a)
def allA1C : PCtr := fun hg _ _ vals k => match vals with
  | [.agg [.int .i64 n, .int .i64 d], .loc j 0] => boxF (hg j) 18 (k [] (.bool (allAN (n, d))))
  | _ => False

theorem allA1_ok : PCtrOk Tryd.prog 31 allA1C where
  enter := enter_ok Tryd.func31 (by kernel_rfl) rfl
  calls := by
    intro hg rg lr vals k h
    unfold allA1C at h
    split at h
    case h_2 => exact h.elim
    rename_i n d j
    obtain ⟨hj, hk⟩ := boxF_inv h
    refine ⟨_, _, hk, fun A w hB hR => ?_⟩
    refine enter T_ok (GOk.cons isAngle_ok .nil) Tryd.func31 rfl (K := (· < w.heap.size)) (fun _ h => h) (A := A.pick [j] []) (vals := [.agg [.int .i64 n, .int .i64 d], .loc 0 0]) (n0 := 0) (b0 := 1) (rows := []) (hp := [some [.fn 18 [] []]]) rfl (Nat.zero_le _) (one_box (hB j _ hj)) rfl no_row rfl rfl (Nat.le_of_ble_eq_true rfl) ?_
    conv => whnf
    repeat (refine V_step T_ok (GOk.cons isAngle_ok .nil) rfl ?_; conv => whnf)
    repeat (any_goals (first
      | (refine V_step T_ok (GOk.cons isAngle_ok .nil) rfl ?_; conv => whnf)
      | (refine V_drawA T_ok (GOk.cons isAngle_ok .nil) mixed (by kernel_rfl) ?_; conv => whnf)
      | (refine bcond_split (fun hc => ?_) (fun hc => ?_) <;> (try simp only [decide_eq_true_eq, decide_eq_false_iff_not, Bool.not_eq_true', Bool.not_eq_false', Bool.and_eq_true, Bool.or_eq_true, Bool.and_eq_false_imp, Bool.or_eq_false_iff, ne_eq, Decidable.not_not] at hc) <;> conv => whnf)
      | (intro ysK hysK; have hysl := congrArg List.length hysK; (try simp only [List.length_set, List.length_append, List.length_cons, List.length_nil, List.length_take, List.length_drop, List.length_replicate] at hysl); conv => whnf)
      | (refine And.intro (by first | exact True.intro | (with_reducible assumption) | omega | (simp only [Rng]; omega) | exact Nat.le_of_ble_eq_true rfl | exact True.intro | exact ⟨rfl, True.intro, fun _ _ => rfl⟩ | exact Nat.le_of_ble_eq_true rfl | (refine ⟨by (try simp only [List.length_cons, List.length_nil]); omega, Int.le_trans (Int.mul_le_mul_of_nonneg_left (show (TInfo.bytes _ : Int) ≤ 64 from Int.ofNat_le.2 (Nat.le_of_ble_eq_true rfl)) (by omega)) (by (try simp only [List.length_cons, List.length_nil]); omega)⟩)) ?_; conv => whnf)))
    all_goals exact leaf0 rfl rfl rfl

def allAxC : PCtr := fun hg rg _ vals k => match vals with
  | [.row i, .fn 31 [] [.loc j 0]] => rowC aT (rg i) fun xs => boxF (hg j) 18 (k [] (.int .i64 (idxP allAN xs)))
  | _ => False

theorem allAx_ok : PCtrOk Tryd.prog 36 allAxC where
  enter := enter_ok Tryd.func36 (by kernel_rfl) rfl
  calls := by
    intro hg rg lr vals k h
    unfold allAxC at h
    split at h
    case h_2 => exact h.elim
    rename_i i j
    obtain ⟨e, own, xs, hi, h⟩ : ∃ e own, ∃ (xs : List Ang), _ := rowC_inv h
    obtain ⟨hj, hk⟩ := boxF_inv h
    refine ⟨_, _, hk, fun A w hB hR => ?_⟩
    refine enter T_ok (GOk.cons allA1_ok .nil) Tryd.func36 rfl (K := (· < w.heap.size)) (fun _ h => h) (A := A.pick [j] [i]) (vals := [.row 0, .fn 31 [] [.loc 0 0]]) (n0 := 0) (b0 := 1) (rows := [some ⟨aT, e, false, xs⟩]) (hp := [some [.fn 18 [] []]]) rfl (Nat.zero_le _) (one_box (hB j _ hj)) rfl (one_row (hR i _ hi)) rfl rfl (Nat.le_of_ble_eq_true rfl) ?_
    conv => whnf
    repeat (refine V_step T_ok (GOk.cons allA1_ok .nil) rfl ?_; conv => whnf)
    have hcap' : (@List.length (TyC.α aT) xs : Int) ≤ 9223372036854775807 := by
      have h1 := (hR i _ hi).len
      have h2 := (hR i _ hi).cap
      have h3 := (hR i _ hi).max
      simp only at h1
      have : maxLen = 9223372036854775807 := rfl
      omega
    have hcap : (xs.length : Int) ≤ 9223372036854775807 := hcap'
    refine V_loopH (γ := Nat) (fun n => n ≤ xs.length ∧ ∀ j, j < n → allAN (xs.getD j aT.dflt) = false) (fun n => xs.length - n)
      (fun n => [(8, .int .i64 n)]) (fun _ => []) (fun _ => []) 0 ⟨Nat.zero_le _, fun j h => absurd h (Nat.not_lt_zero _)⟩ ?_ ?_
    · conv => whnf
      refine ⟨?_, by (conv => whnf); repeat (first | exact True.intro | (refine And.intro rfl ?_; conv => whnf)), by (conv => whnf); repeat (first | exact True.intro | (refine And.intro (by first | rfl | (subst_vars; rfl)) ?_; conv => whnf)), rfl, rfl, rfl, rfl, rfl, rfl, rfl, Nat.le_of_ble_eq_true rfl, Nat.le_of_ble_eq_true rfl⟩
      conv => whnf
      repeat (first | exact True.intro | (refine And.intro (by first | rfl | ((conv => whnf); exact congrArg (AVal.int .i64) (by omega)) | ((conv => whnf); exact congrArg (AVal.int .i64) (by simp only [Int.natCast_add, Int.natCast_one]; omega)) | ((conv => whnf); exact congrArg (AVal.irow _) (by first | omega | assumption | (simp only; omega)))) ?_; conv => whnf))
    · rintro n ⟨h1, h2⟩
      conv => whnf
      refine vcCode_sound T_ok (GOk.cons allA1_ok .nil) _ _ _ _ _ ?_
      conv => whnf
      repeat (refine V_step T_ok (GOk.cons allA1_ok .nil) rfl ?_; conv => whnf)
      repeat (any_goals (first
        | (refine V_step T_ok (GOk.cons allA1_ok .nil) rfl ?_; conv => whnf)
        | (refine V_drawA T_ok (GOk.cons allA1_ok .nil) mixed (by kernel_rfl) ?_; conv => whnf)
        | (refine bcond_split (fun hc => ?_) (fun hc => ?_) <;> (try simp only [decide_eq_true_eq, decide_eq_false_iff_not, Bool.not_eq_true', Bool.not_eq_false', Bool.and_eq_true, Bool.or_eq_true, Bool.and_eq_false_imp, Bool.or_eq_false_iff, ne_eq, Decidable.not_not] at hc) <;> conv => whnf)
        | (intro ysK hysK; have hysl := congrArg List.length hysK; (try simp only [List.length_set, List.length_append, List.length_cons, List.length_nil, List.length_take, List.length_drop, List.length_replicate] at hysl); conv => whnf)
        | (refine And.intro (by first | (first | exact True.intro | omega | (simp only [Rng]; omega)) | exact True.intro | exact ⟨rfl, True.intro, fun _ _ => rfl⟩ | exact Nat.le_of_ble_eq_true rfl | (refine ⟨by (try simp only [List.length_cons, List.length_nil]); omega, Int.le_trans (Int.mul_le_mul_of_nonneg_left (show (TInfo.bytes _ : Int) ≤ 64 from Int.ofNat_le.2 (Nat.le_of_ble_eq_true rfl)) (by omega)) (by (try simp only [List.length_cons, List.length_nil]); omega)⟩)) ?_; conv => whnf)))
      · rename_i hc0
        have hl : (n : Int) < (xs.length : Nat) := hc0
        exact leaf0 rfl (congrArg (AVal.int .i64) (idxP_found allAN xs n aT.dflt (by omega) h2 hc).symm) rfl
      · rename_i hc0
        have hl : (n : Int) < (xs.length : Nat) := hc0
        refine ⟨n + 1, ⟨by omega, fun j hj => ?_⟩, by omega, ?_⟩
        · rcases Nat.lt_or_ge j n with h | h
          · exact h2 j h
          · obtain rfl : j = n := by omega
            exact hc
        · conv => whnf
          refine ⟨?_, by (conv => whnf); repeat (first | exact True.intro | (refine And.intro rfl ?_; conv => whnf)), by (conv => whnf); repeat (first | exact True.intro | (refine And.intro (by first | rfl | (subst_vars; rfl)) ?_; conv => whnf)), rfl, rfl, rfl, rfl, rfl, rfl, rfl, Nat.le_of_ble_eq_true rfl, Nat.le_of_ble_eq_true rfl⟩
          conv => whnf
          repeat (first | exact True.intro | (refine And.intro (by first | rfl | ((conv => whnf); exact congrArg (AVal.int .i64) (by omega)) | ((conv => whnf); exact congrArg (AVal.int .i64) (by simp only [Int.natCast_add, Int.natCast_one]; omega)) | ((conv => whnf); exact congrArg (AVal.irow _) (by first | omega | assumption | (simp only; omega)))) ?_; conv => whnf))
      · have hl : ¬ (n : Int) < (xs.length : Nat) := hc
        exact leaf0 rfl (congrArg (AVal.int .i64) (idxP_none allAN xs aT.dflt (fun j hj => h2 j (by omega))).symm) rfl

def allAcC : PCtr := fun hg rg _ vals k => match vals with
  | [.row i, .fn 31 [] [.loc j 0]] => rowC aT (rg i) fun xs => boxF (hg j) 18 (k [] (.bool (xs.any allAN)))
  | _ => False

theorem allAc_ok : PCtrOk Tryd.prog 30 allAcC where
  enter := enter_ok Tryd.func30 (by kernel_rfl) rfl
  calls := by
    intro hg rg lr vals k h
    unfold allAcC at h
    split at h
    case h_2 => exact h.elim
    rename_i i j
    obtain ⟨e, own, xs, hi, h⟩ : ∃ e own, ∃ (xs : List Ang), _ := rowC_inv h
    obtain ⟨hj, hk⟩ := boxF_inv h
    refine ⟨_, _, hk, fun A w hB hR => ?_⟩
    refine enter T_ok (GOk.cons allAx_ok .nil) Tryd.func30 rfl (K := (· < w.heap.size)) (fun _ h => h) (A := A.pick [j] [i]) (vals := [.row 0, .fn 31 [] [.loc 0 0]]) (n0 := 0) (b0 := 1) (rows := [some ⟨aT, e, false, xs⟩]) (hp := [some [.fn 18 [] []]]) rfl (Nat.zero_le _) (one_box (hB j _ hj)) rfl (one_row (hR i _ hi)) rfl rfl (Nat.le_of_ble_eq_true rfl) ?_
    conv => whnf
    repeat (refine V_step T_ok (GOk.cons allAx_ok .nil) rfl ?_; conv => whnf)
    all_goals exact leaf0 rfl (congrArg AVal.bool (idxP_any allAN xs)) rfl

def allAY (a : Ang) : Bool := decide (IsA a)
theorem allA_any (xs : List Ang) : (!xs.any allAN) = xs.all allAY := by
  induction xs with
  | nil => rfl
  | cons x l ih => simp only [List.any_cons, List.all_cons, ← ih, allAN, allAY, Bool.not_or, Bool.not_not]
def allAC : PCtr := fun hg rg _ vals k => match vals with
  | [.row i, .fn f [] []] => rowC aT (rg i) fun xs => isF f 18 (k [] (.bool (xs.all allAY)))
  | _ => False

theorem allA_ok : PCtrOk Tryd.prog 22 allAC where
  enter := enter_ok Tryd.func22 (by kernel_rfl) rfl
  calls := by
    intro hg rg lr vals k h
    unfold allAC at h
    split at h
    case h_2 => exact h.elim
    rename_i i f
    obtain ⟨e, own, xs, hi, h⟩ : ∃ e own, ∃ (xs : List Ang), _ := rowC_inv h
    obtain ⟨rfl, hk⟩ := isF_inv h
    refine ⟨_, _, hk, fun A w hB hR => ?_⟩
    refine enter T_ok (GOk.cons allAc_ok .nil) Tryd.func22 rfl (K := (· < w.heap.size)) (fun _ h => h) (A := A.pick [] [i]) (vals := [.row 0, .fn 18 [] []]) (n0 := 0) (b0 := 0) (rows := [some ⟨aT, e, false, xs⟩]) (hp := []) rfl (Nat.zero_le _) no_box rfl (one_row (hR i _ hi)) rfl rfl (Nat.le_of_ble_eq_true rfl) ?_
    conv => whnf
    repeat (refine V_step T_ok (GOk.cons allAc_ok .nil) rfl ?_; conv => whnf)
    all_goals exact leaf0 rfl (congrArg AVal.bool (allA_any xs)) rfl


/-- The opposite, as a Bool. -/
def allLN (a : Lf) : Bool := !decide (IsL a)
def allLY (a : Lf) : Bool := decide (IsL a)
theorem allL_any (xs : List Lf) : (!xs.any allLN) = xs.all allLY := by
  induction xs with
  | nil => rfl
  | cons x l ih => simp only [List.any_cons, List.all_cons, ← ih, allLN, allLY, Bool.not_or, Bool.not_not]
end Go.Proofs.YtmbfflckgmdncaaDoor.Fw

/- Contracts: laminations. -/
namespace Go.Proofs.YtmbfflckgmdncaaDoor.Fw
open Go Go.RowKit
set_option linter.unusedVariables false
set_option linter.unusedSimpArgs false
set_option maxRecDepth 100000
set_option maxHeartbeats 2000000

def orI : List Int → Int
  | [] => 0
  | x :: l => if x = 0 then orI l else x
theorem orI_found : ∀ (l : List Int) (n : Nat), n < l.length → (∀ j, j < n → l.getD j 0 = 0) → l.getD n 0 ≠ 0 → orI l = l.getD n 0
  | [], n, h, _, _ => by simp at h
  | x :: l, 0, h, _, h' => by simp at h'; simp [orI, h']
  | x :: l, n + 1, h, h1, h2 => by
    have h0 : x = 0 := by have := h1 0 (by omega); simpa using this
    have ih := orI_found l n (by simpa using h) (fun j hj => by have := h1 (j + 1) (by omega); simpa using this) (by simpa using h2)
    simp [orI, h0, ih]
theorem orI_none : ∀ (l : List Int), (∀ j, j < l.length → l.getD j 0 = 0) → orI l = 0
  | [], h => rfl
  | x :: l, h => by
    have h0 : x = 0 := by have := h 0 (by simp); simpa using this
    have ih := orI_none l (fun j hj => by have := h (j + 1) (by simpa using hj); simpa using this)
    simp [orI, h0, ih]

abbrev iT : TyC := .int .i64
def orC : PCtr := fun _ rg _ vals k => match vals with
  | [.row i] => rowC iT (rg i) fun xs => True ∧ k [] (.int .i64 (orI xs))
  | _ => False

def BdL (l : Lf) : Prop := Bd l.1 ∧ Bd l.2
theorem SmL.bd {l : Lf} (h : SmL l) : BdL l := ⟨h.1.bd, h.2.bd⟩

def cmpLC : PCtr := fun _ _ _ vals k => match vals with
  | [.agg [.int .i64 n, .int .i64 d, .int .i64 m, .int .i64 e], .agg [.int .i64 n', .int .i64 d', .int .i64 m', .int .i64 e']] =>
    (BdL ((n, d), (m, e)) ∧ BdL ((n', d'), (m', e'))) ∧ k [] (.int .i64 (cmpL ((n, d), (m, e)) ((n', d'), (m', e'))))
  | _ => False

/-- What is asked of the leaf with a number. -/
def okAt (xs : List Lf) (i : Nat) : Bool := !((decide (0 < i) && decide (0 ≤ cmpL (xs.getD (i - 1) lT.dflt) (xs.getD i lT.dflt))) || (xs.take i).any (crossL (xs.getD i lT.dflt)))
def lamL (xs : List Lf) : Bool := decide (xs.length ≤ 200) && (xs.all allLY && (List.range xs.length).all (okAt xs))

theorem lam_bad {xs : List Lf} {n : Nat} (h : n < xs.length) (hb : okAt xs n = false) : lamL xs = false := by
  have : (List.range xs.length).all (okAt xs) = false := by
    rw [List.all_eq_false]
    exact ⟨n, List.mem_range.2 h, by rw [hb]; simp⟩
  rw [lamL, this, Bool.and_false, Bool.and_false]

def lamC : PCtr := fun _ rg _ vals k => match vals with
  | [.row i] => rowC lT (rg i) fun xs => True ∧ k [] (.bool (lamL xs))
  | _ => False

abbrev G5 := (GOk.nil : GOk Tryd.prog [])
end Go.Proofs.YtmbfflckgmdncaaDoor.Fw

/- Contracts of the reference: angles and leaves. -/
namespace Go.Proofs.YtmbfflckgmdncaaDoor.Fw
open Go Go.RowKit
set_option linter.unusedVariables false
set_option linter.unusedSimpArgs false
set_option maxRecDepth 100000
set_option maxHeartbeats 2000000

theorem sIn_ok : PCtrOk Tryd.prog 19 withinC where
  enter := enter_ok Tryd.func19 (by kernel_rfl) rfl
  calls := by
    intro hg rg lr vals k h
    unfold withinC at h
    split at h
    case h_2 => exact h.elim
    rename_i n lo hi
    obtain ⟨_, hk⟩ := h
    refine ⟨_, _, hk, fun A w _ _ => ?_⟩
    refine enter T_ok .nil Tryd.func19 rfl (K := (· < w.heap.size)) (fun _ h => h) (A := A) (n0 := 0) (b0 := 0) (rows := []) (hp := []) rfl (Nat.zero_le _) (fun k r h => by cases h) rfl (fun k r h => by cases h) rfl rfl (Nat.le_of_ble_eq_true rfl) ?_
    conv => whnf
    repeat (refine V_step T_ok .nil rfl ?_; conv => whnf)
    repeat (any_goals (first
      | (refine V_step T_ok .nil rfl ?_; conv => whnf)
      | (refine V_drawA T_ok .nil mixed (by kernel_rfl) ?_; conv => whnf)
      | (refine bcond_split (fun hc => ?_) (fun hc => ?_) <;> (try simp only [decide_eq_true_eq, decide_eq_false_iff_not, Bool.not_eq_true', Bool.not_eq_false', Bool.and_eq_true, Bool.or_eq_true, Bool.and_eq_false_imp, Bool.or_eq_false_iff, ne_eq, Decidable.not_not] at hc) <;> conv => whnf)
      | (intro ysK hysK; have hysl := congrArg List.length hysK; (try simp only [List.length_set, List.length_append, List.length_cons, List.length_nil, List.length_take, List.length_drop, List.length_replicate] at hysl); conv => whnf)
      | (refine And.intro (by first | exact True.intro | (with_reducible assumption) | omega | (simp only [Rng]; omega) | exact Nat.le_of_ble_eq_true rfl | exact True.intro | exact ⟨rfl, True.intro, fun _ _ => rfl⟩ | exact Nat.le_of_ble_eq_true rfl | (refine ⟨by (try simp only [List.length_cons, List.length_nil]); omega, Int.le_trans (Int.mul_le_mul_of_nonneg_left (show (TInfo.bytes _ : Int) ≤ 64 from Int.ofNat_le.2 (Nat.le_of_ble_eq_true rfl)) (by omega)) (by (try simp only [List.length_cons, List.length_nil]); omega)⟩)) ?_; conv => whnf)))
    all_goals (rename_i hc; refine leaf0 rfl ?_ rfl; congr 1; simp only [hc, true_and, false_and, decide_false])

theorem sDiv_ok : PCtrOk Tryd.prog 20 divC where
  enter := enter_ok Tryd.func20 (by kernel_rfl) rfl
  calls := by
    intro hg rg lr vals k h
    unfold divC at h
    split at h
    case h_2 => exact h.elim
    rename_i a b
    obtain ⟨⟨ha, hb⟩, hk⟩ := h
    refine ⟨_, _, hk, fun A w _ _ => ?_⟩
    refine enter T_ok .nil Tryd.func20 rfl (K := (· < w.heap.size)) (fun _ h => h) (A := A) (n0 := 0) (b0 := 0) (rows := []) (hp := []) rfl (Nat.zero_le _) (fun k r h => by cases h) rfl (fun k r h => by cases h) rfl rfl (Nat.le_of_ble_eq_true rfl) ?_
    conv => whnf
    repeat (refine V_step T_ok .nil rfl ?_; conv => whnf)
    refine V_loopH (γ := Int × Int) (fun g => (0 ≤ g.1 ∧ g.1 ≤ 9223372036854775807) ∧ (0 ≤ g.2 ∧ g.2 ≤ 9223372036854775807) ∧ Int.gcd g.1 g.2 = Int.gcd a b) (fun g => g.2.toNat)
      (fun g => [(0, .int .i64 g.1), (1, .int .i64 g.2)]) (fun _ => []) (fun _ => []) (a, b) ⟨ha, hb, rfl⟩ ?_ ?_
    · conv => whnf
      refine ⟨?_, by (conv => whnf); repeat (first | exact True.intro | (refine And.intro rfl ?_; conv => whnf)), by (conv => whnf); repeat (first | exact True.intro | (refine And.intro (by first | rfl | (subst_vars; rfl)) ?_; conv => whnf)), rfl, rfl, rfl, rfl, rfl, rfl, rfl, Nat.le_of_ble_eq_true rfl, Nat.le_of_ble_eq_true rfl⟩
      conv => whnf
      repeat (first | exact True.intro | (refine And.intro (by first | rfl | ((conv => whnf); exact congrArg (AVal.int .i64) (by omega)) | ((conv => whnf); exact congrArg (AVal.int .i64) (by simp only [Int.natCast_add, Int.natCast_one]; omega)) | ((conv => whnf); exact congrArg (AVal.irow _) (by first | omega | assumption | (simp only; omega)))) ?_; conv => whnf))
    · rintro ⟨x, y⟩ ⟨h1, h2, h5⟩
      conv => whnf
      refine vcCode_sound T_ok .nil _ _ _ _ _ ?_
      conv => whnf
      repeat (refine V_step T_ok .nil rfl ?_; conv => whnf)
      repeat (any_goals (first
        | (refine V_step T_ok .nil rfl ?_; conv => whnf)
        | (refine V_drawA T_ok .nil mixed (by kernel_rfl) ?_; conv => whnf)
        | (refine bcond_split (fun hc => ?_) (fun hc => ?_) <;> (try simp only [decide_eq_true_eq, decide_eq_false_iff_not, Bool.not_eq_true', Bool.not_eq_false', Bool.and_eq_true, Bool.or_eq_true, Bool.and_eq_false_imp, Bool.or_eq_false_iff, ne_eq, Decidable.not_not] at hc) <;> conv => whnf)
        | (intro ysK hysK; have hysl := congrArg List.length hysK; (try simp only [List.length_set, List.length_append, List.length_cons, List.length_nil, List.length_take, List.length_drop, List.length_replicate] at hysl); conv => whnf)
        | (refine And.intro (by first | exact True.intro | (with_reducible assumption) | omega | (simp only [Rng]; omega) | exact Nat.le_of_ble_eq_true rfl | exact True.intro | exact ⟨rfl, True.intro, fun _ _ => rfl⟩ | exact Nat.le_of_ble_eq_true rfl | (refine ⟨by (try simp only [List.length_cons, List.length_nil]); omega, Int.le_trans (Int.mul_le_mul_of_nonneg_left (show (TInfo.bytes _ : Int) ≤ 64 from Int.ofNat_le.2 (Nat.le_of_ble_eq_true rfl)) (by omega)) (by (try simp only [List.length_cons, List.length_nil]); omega)⟩)) ?_; conv => whnf)))
      · simp only at h1 h2 h5 hc
        have e1 := Int.emod_nonneg x (by omega : y ≠ 0)
        have e2 := Int.emod_lt_of_pos x (by omega : 0 < y)
        have e3 : x.tmod y = x % y := Int.tmod_eq_emod_of_nonneg h1.1
        refine ⟨(y, x.tmod y), ⟨h2, by simp only; omega, by rw [← h5]; exact gcd_step x y⟩, by simp only; omega, ?_⟩
        conv => whnf
        refine ⟨?_, by (conv => whnf); repeat (first | exact True.intro | (refine And.intro rfl ?_; conv => whnf)), by (conv => whnf); repeat (first | exact True.intro | (refine And.intro (by first | rfl | (subst_vars; rfl)) ?_; conv => whnf)), rfl, rfl, rfl, rfl, rfl, rfl, rfl, Nat.le_of_ble_eq_true rfl, Nat.le_of_ble_eq_true rfl⟩
        conv => whnf
        repeat (first | exact True.intro | (refine And.intro (by first | rfl | ((conv => whnf); exact congrArg (AVal.int .i64) (by omega)) | ((conv => whnf); exact congrArg (AVal.int .i64) (by simp only [Int.natCast_add, Int.natCast_one]; omega)) | ((conv => whnf); exact congrArg (AVal.irow _) (by first | omega | assumption | (simp only; omega)))) ?_; conv => whnf))
      · simp only at h1 h2 h5 hc
        have hc : y = 0 := by omega
        refine leaf0 rfl ?_ rfl
        rw [← h5, hc, Int.gcd_zero_right]
        congr 1
        simp only
        omega

abbrev GS1 := GOk.cons sIn_ok (GOk.cons sDiv_ok .nil)
theorem sIs_ok : PCtrOk Tryd.prog 11 isAngleC where
  enter := enter_ok Tryd.func11 (by kernel_rfl) rfl
  calls := by
    intro hg rg lr vals k h
    unfold isAngleC at h
    split at h
    case h_2 => exact h.elim
    rename_i n d
    obtain ⟨_, hk⟩ := h
    refine ⟨_, _, hk, fun A w _ _ => ?_⟩
    refine enter T_ok GS1 Tryd.func11 rfl (K := (· < w.heap.size)) (fun _ h => h) (A := A) (n0 := 0) (b0 := 0) (rows := []) (hp := []) rfl (Nat.zero_le _) (fun k r h => by cases h) rfl (fun k r h => by cases h) rfl rfl (Nat.le_of_ble_eq_true rfl) ?_
    conv => whnf
    repeat (refine V_step T_ok GS1 rfl ?_; conv => whnf)
    repeat (any_goals (first
      | (refine V_step T_ok GS1 rfl ?_; conv => whnf)
      | (refine V_drawA T_ok GS1 mixed (by kernel_rfl) ?_; conv => whnf)
      | (refine bcond_split (fun hc => ?_) (fun hc => ?_) <;> (try simp only [decide_eq_true_eq, decide_eq_false_iff_not, Bool.not_eq_true', Bool.not_eq_false', Bool.and_eq_true, Bool.or_eq_true, Bool.and_eq_false_imp, Bool.or_eq_false_iff, ne_eq, Decidable.not_not] at hc) <;> conv => whnf)
      | (intro ysK hysK; have hysl := congrArg List.length hysK; (try simp only [List.length_set, List.length_append, List.length_cons, List.length_nil, List.length_take, List.length_drop, List.length_replicate] at hysl); conv => whnf)
      | (refine And.intro (by first | exact True.intro | (with_reducible assumption) | omega | (simp only [Rng]; omega) | exact Nat.le_of_ble_eq_true rfl | exact True.intro | exact ⟨rfl, True.intro, fun _ _ => rfl⟩ | exact Nat.le_of_ble_eq_true rfl | (refine ⟨by (try simp only [List.length_cons, List.length_nil]); omega, Int.le_trans (Int.mul_le_mul_of_nonneg_left (show (TInfo.bytes _ : Int) ≤ 64 from Int.ofNat_le.2 (Nat.le_of_ble_eq_true rfl)) (by omega)) (by (try simp only [List.length_cons, List.length_nil]); omega)⟩)) ?_; conv => whnf)))
    all_goals refine leaf0 rfl (congrArg AVal.bool ?_) rfl
    all_goals simp [IsA, *, Int.gcd_comm]

def lessC : PCtr := fun _ _ _ vals k => match vals with
  | [.agg [.int .i64 n, .int .i64 d], .agg [.int .i64 m, .int .i64 e]] => (Bd (n, d) ∧ Bd (m, e)) ∧ k [] (.bool (decide (lessA (n, d) (m, e))))
  | _ => False

abbrev GS2 := GOk.cons sIs_ok ((GS1))

def sWithinA (x a b : Ang) : Bool := if lessA a b then decide (lessA a x) && decide (lessA x b) else decide (lessA a x) || decide (lessA x b)
def sWithinC : PCtr := fun _ _ _ vals k => match vals with
  | [.agg [.int .i64 p, .int .i64 q], .agg [.int .i64 n, .int .i64 d], .agg [.int .i64 m, .int .i64 e]] => (Bd (p, q) ∧ Bd (n, d) ∧ Bd (m, e)) ∧ k [] (.bool (sWithinA (p, q) (n, d) (m, e)))
  | _ => False

/-- The reference's distance. -/
def sDistA (a b : Ang) : Ang := if lessA (ofQ (-(ofQ (b.1 * a.2 - a.1 * b.2) (a.2 * b.2)).1) (ofQ (b.1 * a.2 - a.1 * b.2) (a.2 * b.2)).2) (ofQ (b.1 * a.2 - a.1 * b.2) (a.2 * b.2)) then ofQ (-(ofQ (b.1 * a.2 - a.1 * b.2) (a.2 * b.2)).1) (ofQ (b.1 * a.2 - a.1 * b.2) (a.2 * b.2)).2 else ofQ (b.1 * a.2 - a.1 * b.2) (a.2 * b.2)
def sDistC : PCtr := fun _ _ _ vals k => match vals with
  | [.agg [.int .i64 n, .int .i64 d], .agg [.int .i64 m, .int .i64 e]] => (Sm (n, d) ∧ Sm (m, e)) ∧ k [] (aV (sDistA (n, d) (m, e)))
  | _ => False

def sLessL (l m : Lf) : Bool := if l.1 = m.1 then decide (lessA l.2 m.2) else decide (lessA l.1 m.1)
def sLessLC : PCtr := fun _ _ _ vals k => match vals with
  | [.agg [.int .i64 n, .int .i64 d, .int .i64 m, .int .i64 e], .agg [.int .i64 n', .int .i64 d', .int .i64 m', .int .i64 e']] =>
    (BdL ((n, d), (m, e)) ∧ BdL ((n', d'), (m', e'))) ∧ k [] (.bool (sLessL ((n, d), (m, e)) ((n', d'), (m', e'))))
  | _ => False
def sCrossL (l m : Lf) : Bool := if l.1 = m.1 ∨ l.1 = m.2 ∨ l.2 = m.1 ∨ l.2 = m.2 then false else !(sWithinA l.1 m.1 m.2 == sWithinA l.2 m.1 m.2)
def sCrossLC : PCtr := fun _ _ _ vals k => match vals with
  | [.agg [.int .i64 n, .int .i64 d, .int .i64 m, .int .i64 e], .agg [.int .i64 n', .int .i64 d', .int .i64 m', .int .i64 e']] =>
    (BdL ((n, d), (m, e)) ∧ BdL ((n', d'), (m', e'))) ∧ k [] (.bool (sCrossL ((n, d), (m, e)) ((n', d'), (m', e'))))
  | _ => False
end Go.Proofs.YtmbfflckgmdncaaDoor.Fw

/- Contracts: laminations of the reference, the longest leaf. -/
namespace Go.Proofs.YtmbfflckgmdncaaDoor.Fw
open Go Go.RowKit
set_option linter.unusedVariables false
set_option linter.unusedSimpArgs false
set_option maxRecDepth 100000
set_option maxHeartbeats 2000000

abbrev lC (l : Lf) : List AVal := [.int .i64 l.1.1, .int .i64 l.1.2, .int .i64 l.2.1, .int .i64 l.2.2]
def dL : Lf := ((0, 0), (0, 0))
theorem SmL.size_bd {l : Lf} (h : SmL l) : Bd (sizeL l) := by
  unfold sizeL distA
  split
  · exact h.1.minus h.2
  · exact h.2.minus h.1
theorem foldl_take {α β : Type} (f : β → α → β) (b : β) (xs : List α) (n : Nat) (d : α) (h : n < xs.length) : (xs.take (n + 1)).foldl f b = f ((xs.take n).foldl f b) (xs.getD n d) := by
  rw [List.take_add_one, List.foldl_append, List.getD_eq_getElem?_getD, List.getElem?_eq_getElem h]
  rfl

def longerI (b l : Lf) : Lf := if 0 < cmpA (sizeL l) (sizeL b) then l else b
def longestR (xs : List Lf) : AVal := if lamL xs = true then (if xs = [] then .tup [lV dL, .int .i64 5] else .tup [lV (xs.foldl longerI (xs.getD 0 dL)), .int .i64 0]) else .tup [lV dL, .int .i64 1]
theorem longestR_bad {xs : List Lf} (h : lamL xs = false) : longestR xs = .tup [lV dL, .int .i64 1] := by simp [longestR, h]
theorem longestR_nil {xs : List Lf} (h : lamL xs = true) (hx : xs = []) : longestR xs = .tup [lV dL, .int .i64 5] := by rw [longestR, if_pos h, if_pos hx]
theorem longestR_good {xs : List Lf} (h : lamL xs = true) (hx : xs ≠ []) : longestR xs = .tup [lV (xs.foldl longerI (xs.getD 0 dL)), .int .i64 0] := by rw [longestR, if_pos h, if_neg hx]
def longestC : PCtr := fun _ rg _ vals k => match vals with
  | [.row i] => rowC lT (rg i) fun xs => True ∧ k [] (longestR xs)
  | _ => False

theorem lam_all {xs : List Lf} (h : lamL xs = true) : ∀ x ∈ xs, IsL x := fun x hx => by
  simp only [lamL, Bool.and_eq_true] at h
  have := List.all_eq_true.1 h.2.1 x hx
  simpa [allLY] using this

abbrev G7 := (GOk.nil : GOk Tryd.prog [])
/-- What the reference asks of the leaf with a number. -/
def sOkAt (xs : List Lf) (i : Nat) : Bool := (decide (IsL (xs.getD i dL)) && (!decide (0 < i) || sLessL (xs.getD (i - 1) dL) (xs.getD i dL))) && !(xs.take i).any (sCrossL (xs.getD i dL))
def sLamL (xs : List Lf) : Bool := decide (xs.length ≤ 200) && (List.range xs.length).all (sOkAt xs)
theorem sLam_bad {xs : List Lf} {n : Nat} (h : n < xs.length) (hb : sOkAt xs n = false) : sLamL xs = false := by
  have : (List.range xs.length).all (sOkAt xs) = false := by
    rw [List.all_eq_false]
    exact ⟨n, List.mem_range.2 h, by rw [hb]; simp⟩
  rw [sLamL, this, Bool.and_false]
theorem sOkAt_isL {xs : List Lf} {n : Nat} (h : sOkAt xs n = true) : IsL (xs.getD n dL) := by
  simp only [sOkAt, Bool.and_eq_true, decide_eq_true_eq] at h
  exact h.1.1
theorem any_take_mem {xs : List Lf} {p : Lf → Bool} {n m : Nat} (h : m < n) (hn : n ≤ xs.length) (hp : p (xs.getD m dL) = true) : (xs.take n).any p = true := by
  rw [List.any_eq_true]
  refine ⟨_, ?_, hp⟩
  rw [List.getD_eq_getElem?_getD, List.getElem?_eq_getElem (by omega)]
  exact List.mem_take_iff_getElem.2 ⟨m, by omega, rfl⟩
theorem any_take_false {xs : List Lf} {p : Lf → Bool} {n : Nat} (hn : n ≤ xs.length) (h : ∀ m, m < n → p (xs.getD m dL) = false) : (xs.take n).any p = false := by
  rw [List.any_eq_false]
  intro x hx
  obtain ⟨m, hm, rfl⟩ := List.mem_take_iff_getElem.1 hx
  have := h m (by omega)
  rw [List.getD_eq_getElem?_getD, List.getElem?_eq_getElem (by omega)] at this
  rw [show xs[m] = (some xs[m]).getD dL from rfl, this]; simp

def sLamC : PCtr := fun _ rg _ vals k => match vals with
  | [.row i] => rowC lT (rg i) fun xs => True ∧ k [] (.bool (sLamL xs))
  | _ => False

abbrev G8 := (GOk.nil : GOk Tryd.prog [])
end Go.Proofs.YtmbfflckgmdncaaDoor.Fw

/- Contracts: the reference's longest leaf, the law's own functions. -/
namespace Go.Proofs.YtmbfflckgmdncaaDoor.Fw
open Go Go.RowKit
set_option linter.unusedVariables false
set_option linter.unusedSimpArgs false
set_option maxRecDepth 100000
set_option maxHeartbeats 2000000

def dvC : PCtr := fun _ _ _ vals k => match vals with
  | [.agg [.int .i64 n, .int .i64 d]] => True ∧ k [] (aV (n, d))
  | _ => False
theorem toAngle_ok : PCtrOk Tryd.prog 6 dvC where
  enter := enter_ok Tryd.func6 (by kernel_rfl) rfl
  calls := by
    intro hg rg lr vals k h
    unfold dvC at h
    split at h
    case h_2 => exact h.elim
    rename_i n d
    obtain ⟨_, hk⟩ := h
    refine ⟨_, _, hk, fun A w _ _ => ?_⟩
    refine enter T_ok .nil Tryd.func6 rfl (K := (· < w.heap.size)) (fun _ h => h) (A := A) (n0 := 0) (b0 := 0) (rows := []) (hp := []) rfl (Nat.zero_le _) (fun k r h => by cases h) rfl (fun k r h => by cases h) rfl rfl (Nat.le_of_ble_eq_true rfl) ?_
    conv => whnf
    repeat (refine V_step T_ok .nil rfl ?_; conv => whnf)
    all_goals exact leaf0 rfl rfl rfl
def dlC : PCtr := fun _ _ _ vals k => match vals with
  | [.agg [.int .i64 n, .int .i64 d, .int .i64 m, .int .i64 e]] => True ∧ k [] (lV ((n, d), (m, e)))
  | _ => False
def eqAC : PCtr := fun _ _ _ vals k => match vals with
  | [.agg [.int .i64 n, .int .i64 d], .agg [.int .i64 m, .int .i64 e]] => True ∧ k [] (.bool (decide (((n, d) : Ang) = (m, e))))
  | _ => False
theorem eqAngle_ok : PCtrOk Tryd.prog 10 eqAC where
  enter := enter_ok Tryd.func10 (by kernel_rfl) rfl
  calls := by
    intro hg rg lr vals k h
    unfold eqAC at h
    split at h
    case h_2 => exact h.elim
    rename_i n d m e
    obtain ⟨_, hk⟩ := h
    refine ⟨_, _, hk, fun A w _ _ => ?_⟩
    refine enter T_ok .nil Tryd.func10 rfl (K := (· < w.heap.size)) (fun _ h => h) (A := A) (n0 := 0) (b0 := 0) (rows := []) (hp := []) rfl (Nat.zero_le _) (fun k r h => by cases h) rfl (fun k r h => by cases h) rfl rfl (Nat.le_of_ble_eq_true rfl) ?_
    conv => whnf
    repeat (refine V_step T_ok .nil rfl ?_; conv => whnf)
    repeat (any_goals (first
      | (refine V_step T_ok .nil rfl ?_; conv => whnf)
      | (refine V_drawA T_ok .nil mixed (by kernel_rfl) ?_; conv => whnf)
      | (refine bcond_split (fun hc => ?_) (fun hc => ?_) <;> (try simp only [decide_eq_true_eq, decide_eq_false_iff_not, Bool.not_eq_true', Bool.not_eq_false', Bool.and_eq_true, Bool.or_eq_true, Bool.and_eq_false_imp, Bool.or_eq_false_iff, ne_eq, Decidable.not_not] at hc) <;> conv => whnf)
      | (intro ysK hysK; have hysl := congrArg List.length hysK; (try simp only [List.length_set, List.length_append, List.length_cons, List.length_nil, List.length_take, List.length_drop, List.length_replicate] at hysl); conv => whnf)
      | (refine And.intro (by first | exact True.intro | (with_reducible assumption) | omega | (simp only [Rng]; omega) | exact Nat.le_of_ble_eq_true rfl | exact True.intro | exact ⟨rfl, True.intro, fun _ _ => rfl⟩ | exact Nat.le_of_ble_eq_true rfl | (refine ⟨by (try simp only [List.length_cons, List.length_nil]); omega, Int.le_trans (Int.mul_le_mul_of_nonneg_left (show (TInfo.bytes _ : Int) ≤ 64 from Int.ofNat_le.2 (Nat.le_of_ble_eq_true rfl)) (by omega)) (by (try simp only [List.length_cons, List.length_nil]); omega)⟩)) ?_; conv => whnf)))
    all_goals refine leaf0 rfl (congrArg AVal.bool ?_) rfl
    all_goals simp [*]
def eqLC : PCtr := fun _ _ _ vals k => match vals with
  | [.agg [.int .i64 n, .int .i64 d, .int .i64 m, .int .i64 e], .agg [.int .i64 n', .int .i64 d', .int .i64 m', .int .i64 e']] => True ∧ k [] (.bool (decide ((((n, d), (m, e)) : Lf) = ((n', d'), (m', e')))))
  | _ => False
def szC : PCtr := fun _ rg _ vals k => match vals with
  | [.row i, .int .i64 l] => rowC lT (rg i) fun xs => (0 ≤ l ∧ l ≤ 1048576) ∧ k [] (.int .i64 (if l - (xs.length : Int) < 0 then -1 else l - xs.length))
  | _ => False
def eqLs (xs ys : List Lf) : Bool := decide (xs = ys)
def eqLsC : PCtr := fun _ rg _ vals k => match vals with
  | [.row i, .row j] => rowC lT (rg i) fun xs => rowC lT (rg j) fun ys => True ∧ k [] (.bool (eqLs xs ys))
  | _ => False
def longerS (b l : Lf) : Lf := if lessA (sDistA b.1 b.2) (sDistA l.1 l.2) then l else b
def longestSR (xs : List Lf) : AVal := if sLamL xs = true then (if xs = [] then .tup [lV dL, .int .i64 5] else .tup [lV ((xs.drop 1).foldl longerS (xs.getD 0 dL)), .int .i64 0]) else .tup [lV dL, .int .i64 1]
theorem longestSR_bad {xs : List Lf} (h : sLamL xs = false) : longestSR xs = .tup [lV dL, .int .i64 1] := by simp [longestSR, h]
theorem longestSR_nil {xs : List Lf} (h : sLamL xs = true) (hx : xs = []) : longestSR xs = .tup [lV dL, .int .i64 5] := by rw [longestSR, if_pos h, if_pos hx]
theorem longestSR_good {xs : List Lf} (h : sLamL xs = true) (hx : xs ≠ []) : longestSR xs = .tup [lV ((xs.drop 1).foldl longerS (xs.getD 0 dL)), .int .i64 0] := by rw [longestSR, if_pos h, if_neg hx]
theorem sLam_all {xs : List Lf} (h : sLamL xs = true) : ∀ j, j < xs.length → IsL (xs.getD j dL) := fun j hj => by
  simp only [sLamL, Bool.and_eq_true] at h
  exact sOkAt_isL (List.all_eq_true.1 h.2 j (List.mem_range.2 hj))
theorem sDist_bd {a b : Ang} (h : Sm a) (h' : Sm b) : Bd (sDistA a b) := by
  have u4 := mulPos h.2.1 h'.2.1
  have u3 : a.2 * b.2 ≤ 1073741824 := Int.le_trans (Int.mul_le_mul h.2.2 h'.2.2 (by have := h'.2.1; omega) (by omega)) (by omega)
  have b1 := ofQ_bd (b.1 * a.2 - a.1 * b.2) (a.2 * b.2) u4
  have b2 := ofQ_bd (-(ofQ (b.1 * a.2 - a.1 * b.2) (a.2 * b.2)).1) (ofQ (b.1 * a.2 - a.1 * b.2) (a.2 * b.2)).2 b1.2.1
  unfold sDistA
  split <;> (unfold Bd; omega)
def longestSC : PCtr := fun _ rg _ vals k => match vals with
  | [.row i] => rowC lT (rg i) fun xs => True ∧ k [] (longestSR xs)
  | _ => False
abbrev G9 := (GOk.nil : GOk Tryd.prog [])
end Go.Proofs.YtmbfflckgmdncaaDoor.Fw

/- Plain laws: order of angles, leaves that cross, laminations, the longest leaf. No program. -/
namespace Go.Proofs.YtmbfflckgmdncaaDoor.Fw
set_option linter.unusedVariables false
set_option linter.unusedSimpArgs false

theorem dvd_cop {a b c : Int} (h : a ∣ b * c) (g : Int.gcd a b = 1) : a ∣ c := by
  rw [← Int.natAbs_dvd_natAbs] at h ⊢
  rw [Int.natAbs_mul] at h
  exact Nat.Coprime.dvd_of_dvd_mul_left g h

theorem emod_mul_right (a b t : Int) (h : 0 < t) : (a * t) % (b * t) = a % b * t := by
  rw [Int.mul_comm a t, Int.mul_comm b t, Int.mul_emod_mul_of_pos _ _ h, Int.mul_comm]

/-- Reduced fractions that are equal are the same. -/
theorem frac_eq {a b : Ang} (ha : 1 ≤ a.2) (hb : 1 ≤ b.2) (ga : Int.gcd a.2 a.1 = 1) (gb : Int.gcd b.2 b.1 = 1) (h : a.1 * b.2 = b.1 * a.2) : a = b := by
  have h1 : a.2 ∣ b.2 := by
    have : a.2 ∣ a.1 * b.2 := ⟨b.1, by rw [h, Int.mul_comm]⟩
    exact dvd_cop this ga
  have h2 : b.2 ∣ a.2 := by
    have : b.2 ∣ b.1 * a.2 := ⟨a.1, by rw [← h, Int.mul_comm]⟩
    exact dvd_cop this gb
  have h3 : a.2 = b.2 := Int.dvd_antisymm (by omega) (by omega) h1 h2
  rw [h3] at h
  have h4 : a.1 = b.1 := Int.eq_of_mul_eq_mul_right (by omega) h
  exact Prod.ext h4 h3

theorem ofQ_gcd (n d : Int) (hd : 1 ≤ d) : Int.gcd (ofQ n d).2 (ofQ n d).1 = 1 := by
  have t6 : 0 < Int.gcd d (n % d) := Int.gcd_pos_of_ne_zero_left _ (by omega)
  exact Int.gcd_ediv_gcd_ediv_gcd t6

theorem ofQ_cross (n d : Int) (hd : 1 ≤ d) : (ofQ n d).1 * d = (n % d) * (ofQ n d).2 := by
  have t6 : (0 : Int) < (Int.gcd d (n % d) : Nat) := Int.ofNat_lt.2 (Int.gcd_pos_of_ne_zero_left _ (by omega))
  have d1 : ((Int.gcd d (n % d) : Nat) : Int) ∣ d := Int.gcd_dvd_left ..
  have d2 : ((Int.gcd d (n % d) : Nat) : Int) ∣ (n % d) := Int.gcd_dvd_right ..
  unfold ofQ
  simp only
  generalize ((Int.gcd d (n % d) : Nat) : Int) = g at *
  obtain ⟨x, hx⟩ := d1
  obtain ⟨y, hy⟩ := d2
  rw [hy]
  have e1 : d / g = x := by rw [hx]; exact Int.mul_ediv_cancel_left _ (by omega)
  have e2 : g * y / g = y := Int.mul_ediv_cancel_left _ (by omega)
  rw [e1, e2, hx]
  rw [Int.mul_left_comm, Int.mul_comm g y, Int.mul_assoc, Int.mul_comm g (y * x), Int.mul_assoc, Int.mul_comm x g]

/-- The same fraction, reduced or not. -/
theorem cmp_ofQ (n d m e : Int) (hd : 1 ≤ d) (he : 1 ≤ e) : lessA (ofQ n d) (ofQ m e) ↔ (n % d) * e < (m % e) * d := by
  have c1 := ofQ_cross n d hd
  have c2 := ofQ_cross m e he
  have b1 := (ofQ_bd n d hd).2.1
  have b2 := (ofQ_bd m e he).2.1
  unfold lessA
  generalize ofQ n d = a at *
  generalize ofQ m e = b at *
  obtain ⟨p, q⟩ := a
  obtain ⟨r, s⟩ := b
  simp only at *
  -- p/q = N/d, r/s = M/e
  generalize n % d = N at *
  generalize m % e = M at *
  have key : (p * s) * (d * e) - (r * q) * (d * e) = (N * e - M * d) * (q * s) := by
    have k1 : (p * s) * (d * e) = (p * d) * (s * e) := by ac_rfl
    have k2 : (r * q) * (d * e) = (r * e) * (q * d) := by ac_rfl
    rw [k1, k2, c1, c2, Int.sub_mul]
    congr 1 <;> ac_rfl
  have pde : 0 < d * e := Int.mul_pos (by omega) (by omega)
  have pqs : 0 < q * s := Int.mul_pos (by omega) (by omega)
  constructor
  · intro h
    have h1 : (p * s) * (d * e) < (r * q) * (d * e) := Int.mul_lt_mul_of_pos_right h pde
    have h2 : (N * e - M * d) * (q * s) < 0 := by omega
    rcases Int.lt_or_le (N * e) (M * d) with h3 | h3
    · exact h3
    · have := Int.mul_nonneg (show 0 ≤ N * e - M * d by omega) (by omega : 0 ≤ q * s)
      omega
  · intro h
    have h2 : (N * e - M * d) * (q * s) < 0 := Int.mul_neg_of_neg_of_pos (by omega) pqs
    rcases Int.lt_or_le (p * s) (r * q) with h3 | h3
    · exact h3
    · have := Int.mul_le_mul_of_nonneg_right h3 (by omega : 0 ≤ d * e)
      omega

theorem cmpA_less (a b : Ang) : cmpA a b < 0 ↔ lessA a b := cmpA_neg a b
theorem cmpA_more (a b : Ang) : 0 < cmpA a b ↔ lessA b a := cmpI_pos _ _

/-- Forward distances of reduced fractions in [0, 1): as numbers over a common denominator. -/
theorem order_less {a b c : Ang} (ha : IsA a) (hb : IsA b) (hc : IsA c) :
    lessA (minusA b a) (minusA c a) ↔ (b.1 * a.2 * c.2 - a.1 * b.2 * c.2) % (a.2 * b.2 * c.2) < (c.1 * a.2 * b.2 - a.1 * b.2 * c.2) % (a.2 * b.2 * c.2) := by
  obtain ⟨⟨a1, a2⟩, ⟨a3, a4⟩, _⟩ := ha
  obtain ⟨⟨b1, b2⟩, ⟨b3, b4⟩, _⟩ := hb
  obtain ⟨⟨c1, c2⟩, ⟨c3, c4⟩, _⟩ := hc
  have p1 := mulPos b1 a1
  have p2 := mulPos c1 a1
  unfold minusA
  rw [cmp_ofQ _ _ _ _ p1 p2]
  obtain ⟨x, u⟩ := a
  obtain ⟨y, v⟩ := b
  obtain ⟨z, t⟩ := c
  simp only at *
  have e1 : (y * u * t - x * v * t) % (u * v * t) = (y * u - x * v) % (v * u) * t := by
    rw [← Int.sub_mul, Int.mul_comm u v, emod_mul_right _ _ _ (by omega : 0 < t)]
  have e2 : (z * u * v - x * v * t) % (u * v * t) = (z * u - x * t) % (t * u) * v := by
    rw [show x * v * t = x * t * v by ac_rfl, ← Int.sub_mul, show u * v * t = t * u * v by ac_rfl, emod_mul_right _ _ _ (by omega : 0 < v)]
  rw [e1, e2]
  generalize (y * u - x * v) % (v * u) = X
  generalize (z * u - x * t) % (t * u) = Y
  rw [show X * (t * u) = X * t * u by ac_rfl, show Y * (v * u) = Y * v * u by ac_rfl]
  constructor
  · intro h
    exact Int.lt_of_mul_lt_mul_right h (by omega)
  · intro h
    exact Int.mul_lt_mul_of_pos_right h (by omega)


/-- The three angles as numbers below a common one. -/
theorem common {a b c : Ang} (ha : IsA a) (hb : IsA b) (hc : IsA c) : ∃ A B C M : Int, (0 ≤ A ∧ A < M) ∧ (0 ≤ B ∧ B < M) ∧ (0 ≤ C ∧ C < M) ∧
    (lessA a b ↔ A < B) ∧ (lessA b a ↔ B < A) ∧ (lessA b c ↔ B < C) ∧ (lessA c b ↔ C < B) ∧ (lessA a c ↔ A < C) ∧ (lessA c a ↔ C < A) ∧ (a = b ↔ A = B) ∧ (b = c ↔ B = C) ∧ (a = c ↔ A = C) ∧
    (lessA (minusA b a) (minusA c a) ↔ (B - A) % M < (C - A) % M) := by
  have hord := order_less ha hb hc
  have fab := @frac_eq a b ha.1.1 hb.1.1 (by have := ha.2.2; omega) (by have := hb.2.2; omega)
  have fbc := @frac_eq b c hb.1.1 hc.1.1 (by have := hb.2.2; omega) (by have := hc.2.2; omega)
  have fac := @frac_eq a c ha.1.1 hc.1.1 (by have := ha.2.2; omega) (by have := hc.2.2; omega)
  obtain ⟨⟨a1, a2⟩, ⟨a3, a4⟩, _⟩ := ha
  obtain ⟨⟨b1, b2⟩, ⟨b3, b4⟩, _⟩ := hb
  obtain ⟨⟨c1, c2⟩, ⟨c3, c4⟩, _⟩ := hc
  obtain ⟨x, u⟩ := a
  obtain ⟨y, v⟩ := b
  obtain ⟨z, t⟩ := c
  simp only at *
  have pu : 0 < u := by omega
  have pv : 0 < v := by omega
  have pt : 0 < t := by omega
  have lt {p q : Int} (k : Int) (hk : 0 < k) : p < q ↔ p * k < q * k := ⟨fun h => Int.mul_lt_mul_of_pos_right h hk, fun h => Int.lt_of_mul_lt_mul_right h (by omega)⟩
  have eqk {p q : Int} (k : Int) (hk : 0 < k) : p = q ↔ p * k = q * k := ⟨fun h => by rw [h], fun h => Int.eq_of_mul_eq_mul_right (by omega) h⟩
  refine ⟨x * v * t, y * u * t, z * u * v, u * v * t, ⟨?_, ?_⟩, ⟨?_, ?_⟩, ⟨?_, ?_⟩, ?_, ?_, ?_, ?_, ?_, ?_, ?_, ?_, ?_, hord⟩
  · exact Int.mul_nonneg (Int.mul_nonneg a3 (by omega)) (by omega)
  · exact Int.mul_lt_mul_of_pos_right (Int.mul_lt_mul_of_pos_right (by omega) pv) pt
  · exact Int.mul_nonneg (Int.mul_nonneg b3 (by omega)) (by omega)
  · rw [Int.mul_comm u v]; exact Int.mul_lt_mul_of_pos_right (Int.mul_lt_mul_of_pos_right (by omega) pu) pt
  · exact Int.mul_nonneg (Int.mul_nonneg c3 (by omega)) (by omega)
  · rw [show u * v * t = t * u * v by ac_rfl]; exact Int.mul_lt_mul_of_pos_right (Int.mul_lt_mul_of_pos_right (by omega) pu) pv
  · exact lt t pt
  · exact lt t pt
  · show y * t < z * v ↔ _
    rw [show y * u * t = (y * t) * u by ac_rfl, show z * u * v = (z * v) * u by ac_rfl]; exact lt u pu
  · show z * v < y * t ↔ _
    rw [show y * u * t = (y * t) * u by ac_rfl, show z * u * v = (z * v) * u by ac_rfl]; exact lt u pu
  · show x * t < z * u ↔ _
    rw [show x * v * t = (x * t) * v by ac_rfl]; exact lt v pv
  · show z * u < x * t ↔ _
    rw [show x * v * t = (x * t) * v by ac_rfl]; exact lt v pv
  · rw [← eqk t pt]
    exact ⟨fun h => by cases h; rfl, fab⟩
  · rw [show y * u * t = (y * t) * u by ac_rfl, show z * u * v = (z * v) * u by ac_rfl, ← eqk u pu]
    exact ⟨fun h => by cases h; rfl, fbc⟩
  · rw [show x * v * t = (x * t) * v by ac_rfl, ← eqk v pv]
    exact ⟨fun h => by cases h; rfl, fac⟩

theorem sub_mod {A B M : Int} (h1 : 0 ≤ A ∧ A < M) (h2 : 0 ≤ B ∧ B < M) : (B - A) % M = if A ≤ B then B - A else B - A + M := by
  split
  · exact Int.emod_eq_of_lt (by omega) (by omega)
  · rw [← Int.add_emod_right]
    exact Int.emod_eq_of_lt (by omega) (by omega)

/-- The order of three angles, by their sizes. -/
theorem order_eq {a b c : Ang} (ha : IsA a) (hb : IsA b) (hc : IsA c) :
    orderA a b c = if a = b ∨ b = c ∨ a = c then 0 else if sWithinA b a c = true then 1 else -1 := by
  obtain ⟨A, B, C, M, h1, h2, h3, e1, e2, e3, e4, e5, e6, e7, e8, e9, e10⟩ := common ha hb hc
  unfold orderA
  by_cases h : a = b ∨ b = c ∨ a = c
  · rw [if_pos h, if_pos h]
  · rw [if_neg h, if_neg h]
    rw [e7, e8, e9] at h
    have hw : (sWithinA b a c = true) ↔ (cmpA (minusA b a) (minusA c a) < 0) := by
      rw [cmpA_less, e10, sub_mod h1 h2, sub_mod h1 h3]
      unfold sWithinA
      by_cases hac : lessA a c
      · rw [if_pos hac, Bool.and_eq_true, decide_eq_true_iff, decide_eq_true_iff, e1, e3]
        rw [e5] at hac
        split <;> split <;> omega
      · rw [if_neg hac, Bool.or_eq_true, decide_eq_true_iff, decide_eq_true_iff, e1, e3]
        rw [e5] at hac
        split <;> split <;> omega
    by_cases hc' : cmpA (minusA b a) (minusA c a) < 0
    · rw [if_pos hc', if_pos (hw.2 hc')]
    · rw [if_neg hc', if_neg (fun h => hc' (hw.1 h))]

end Go.Proofs.YtmbfflckgmdncaaDoor.Fw

/- Plain laws: crossing leaves, laminations, the longest leaf. No program. -/
namespace Go.Proofs.YtmbfflckgmdncaaDoor.Fw
set_option linter.unusedVariables false
set_option linter.unusedSimpArgs false

theorem val_lt {a b : Ang} {P pa pb : Int} (ha : a.2 * pa = P) (hb : b.2 * pb = P) (h1 : 0 < pa) (h2 : 0 < pb) (h3 : 0 < P) : lessA a b ↔ a.1 * pa < b.1 * pb := by
  unfold lessA
  have e1 : a.1 * b.2 * (pa * pb) = a.1 * pa * P := by rw [← hb]; ac_rfl
  have e2 : b.1 * a.2 * (pa * pb) = b.1 * pb * P := by rw [← ha]; ac_rfl
  have hp : 0 < pa * pb := Int.mul_pos h1 h2
  constructor
  · intro h
    have := Int.mul_lt_mul_of_pos_right h hp
    rw [e1, e2] at this
    exact Int.lt_of_mul_lt_mul_right this (by omega)
  · intro h
    have := Int.mul_lt_mul_of_pos_right h h3
    rw [← e1, ← e2] at this
    exact Int.lt_of_mul_lt_mul_right this (by omega)

theorem IsA.eq_iff {a b : Ang} (ha : IsA a) (hb : IsA b) : a = b ↔ ¬ lessA a b ∧ ¬ lessA b a := by
  constructor
  · intro h; subst h; unfold lessA; omega
  · intro ⟨h1, h2⟩
    unfold lessA at h1 h2
    exact frac_eq ha.1.1 hb.1.1 (by have := ha.2.2; omega) (by have := hb.2.2; omega) (by omega)

theorem four {a b c d : Ang} (ha : IsA a) (hb : IsA b) (hc : IsA c) (hd : IsA d) : ∃ A B C D : Int,
    (lessA a b ↔ A < B) ∧ (lessA b a ↔ B < A) ∧ (lessA a c ↔ A < C) ∧ (lessA c a ↔ C < A) ∧ (lessA a d ↔ A < D) ∧ (lessA d a ↔ D < A) ∧
    (lessA b c ↔ B < C) ∧ (lessA c b ↔ C < B) ∧ (lessA b d ↔ B < D) ∧ (lessA d b ↔ D < B) ∧ (lessA c d ↔ C < D) ∧ (lessA d c ↔ D < C) := by
  have pa : 0 < a.2 := by have := ha.1.1; omega
  have pb : 0 < b.2 := by have := hb.1.1; omega
  have pc : 0 < c.2 := by have := hc.1.1; omega
  have pd : 0 < d.2 := by have := hd.1.1; omega
  have qa : a.2 * (b.2 * c.2 * d.2) = a.2 * b.2 * c.2 * d.2 := by ac_rfl
  have qb : b.2 * (a.2 * c.2 * d.2) = a.2 * b.2 * c.2 * d.2 := by ac_rfl
  have qc : c.2 * (a.2 * b.2 * d.2) = a.2 * b.2 * c.2 * d.2 := by ac_rfl
  have qd : d.2 * (a.2 * b.2 * c.2) = a.2 * b.2 * c.2 * d.2 := by ac_rfl
  have ra : 0 < b.2 * c.2 * d.2 := Int.mul_pos (Int.mul_pos pb pc) pd
  have rb : 0 < a.2 * c.2 * d.2 := Int.mul_pos (Int.mul_pos pa pc) pd
  have rc : 0 < a.2 * b.2 * d.2 := Int.mul_pos (Int.mul_pos pa pb) pd
  have rd : 0 < a.2 * b.2 * c.2 := Int.mul_pos (Int.mul_pos pa pb) pc
  have rp : 0 < a.2 * b.2 * c.2 * d.2 := Int.mul_pos rd pd
  exact ⟨_, _, _, _, val_lt qa qb ra rb rp, val_lt qb qa rb ra rp, val_lt qa qc ra rc rp, val_lt qc qa rc ra rp, val_lt qa qd ra rd rp, val_lt qd qa rd ra rp,
    val_lt qb qc rb rc rp, val_lt qc qb rc rb rp, val_lt qb qd rb rd rp, val_lt qd qb rd rb rp, val_lt qc qd rc rd rp, val_lt qd qc rd rc rp⟩

theorem cross_eq {l m : Lf} (hl : IsL l) (hm : IsL m) : crossL l m = sCrossL l m := by
  obtain ⟨h1, h2, h3⟩ := hl
  obtain ⟨h4, h5, h6⟩ := hm
  obtain ⟨a, b⟩ := l
  obtain ⟨c, d⟩ := m
  simp only at *
  unfold crossL sCrossL
  simp only
  rw [order_eq h1 h4 h2, order_eq h1 h5 h2]
  obtain ⟨A, B, C, D, e1, e2, e3, e4, e5, e6, e7, e8, e9, e10, e11, e12⟩ := four h1 h2 h4 h5
  simp only [IsA.eq_iff h1 h2, IsA.eq_iff h1 h4, IsA.eq_iff h4 h2, IsA.eq_iff h1 h5, IsA.eq_iff h5 h2, IsA.eq_iff h2 h4, IsA.eq_iff h2 h5, sWithinA, e1, e2, e3, e4, e5, e6, e7, e8, e9, e10, e11, e12] at *
  simp only [h3, h6, if_true, Bool.and_eq_true, decide_eq_true_eq]
  by_cases k1 : A < C <;> by_cases k2 : C < A <;> by_cases k3 : A < D <;> by_cases k4 : D < A <;> by_cases k5 : B < C <;> by_cases k6 : C < B <;> by_cases k7 : B < D <;> by_cases k8 : D < B <;> first | omega | (simp [k1, k2, k3, k4, k5, k6, k7, k8, h3, h6, show ¬ B < A by omega] <;> omega) | simp [k1, k2, k3, k4, k5, k6, k7, k8, h3, h6, show ¬ B < A by omega]

theorem cmpL_less {l m : Lf} (hl : IsL l) (hm : IsL m) : decide (0 ≤ cmpL l m) = !sLessL l m := by
  have he : cmpA l.1 m.1 = 0 ↔ l.1 = m.1 := by
    rw [IsA.eq_iff hl.1 hm.1]
    exact (cmpI_zero _ _).trans (by unfold lessA; omega)
  unfold cmpL sLessL
  by_cases h : l.1 = m.1
  · rw [if_pos (he.2 h), if_pos h]
    have := cmpA_less l.2 m.2
    by_cases h2 : lessA l.2 m.2
    · simp [h2]; exact this.2 h2
    · have h3 := mt this.1 h2; simp [h2]; omega
  · rw [if_neg (fun e => h (he.1 e)), if_neg h]
    have := cmpA_less l.1 m.1
    by_cases h2 : lessA l.1 m.1
    · simp [h2]; exact this.2 h2
    · have h3 := mt this.1 h2; simp [h2]; omega

theorem okAt_eq {xs : List Lf} (h : ∀ x ∈ xs, IsL x) {i : Nat} (hi : i < xs.length) : okAt xs i = sOkAt xs i := by
  have hg : ∀ j, j < xs.length → IsL (xs.getD j dL) := fun j hj => h _ (getD_mem hj)
  have hany : (xs.take i).any (crossL (xs.getD i dL)) = (xs.take i).any (sCrossL (xs.getD i dL)) := by
    rw [Bool.eq_iff_iff, List.any_eq_true, List.any_eq_true]
    constructor
    · rintro ⟨x, hx, hc⟩; exact ⟨x, hx, by rw [← cross_eq (hg i hi) (h x (List.mem_of_mem_take hx))]; exact hc⟩
    · rintro ⟨x, hx, hc⟩; exact ⟨x, hx, by rw [cross_eq (hg i hi) (h x (List.mem_of_mem_take hx))]; exact hc⟩
  show (!((decide (0 < i) && decide (0 ≤ cmpL (xs.getD (i - 1) dL) (xs.getD i dL))) || (xs.take i).any (crossL (xs.getD i dL)))) = _
  rw [hany, cmpL_less (hg (i - 1) (by omega)) (hg i hi), sOkAt, decide_eq_true (hg i hi), Bool.not_or, Bool.not_and, Bool.not_not, Bool.true_and]

theorem lam_eq (xs : List Lf) : lamL xs = sLamL xs := by
  unfold lamL sLamL
  congr 1
  by_cases h : ∀ x ∈ xs, IsL x
  · have h1 : xs.all allLY = true := List.all_eq_true.2 fun x hx => by simp only [allLY]; exact decide_eq_true (h x hx)
    rw [h1, Bool.true_and, Bool.eq_iff_iff, List.all_eq_true, List.all_eq_true]
    constructor
    · intro h2 j hj; rw [← okAt_eq h (List.mem_range.1 hj)]; exact h2 j hj
    · intro h2 j hj; rw [okAt_eq h (List.mem_range.1 hj)]; exact h2 j hj
  · have h1 : xs.all allLY = false := by
      rw [Bool.eq_false_iff]
      intro h2
      exact h fun x hx => by
        have := List.all_eq_true.1 h2 x hx
        simpa [allLY] using this
    rw [h1, Bool.false_and, eq_comm, Bool.eq_false_iff]
    intro h2
    apply h
    intro x hx
    obtain ⟨j, hj, rfl⟩ := List.mem_iff_getElem.1 hx
    have := sOkAt_isL (List.all_eq_true.1 h2 j (List.mem_range.2 hj))
    rw [List.getD_eq_getElem?_getD, List.getElem?_eq_getElem hj] at this
    exact this

theorem neg_ofQ (n d : Int) (hd : 1 ≤ d) : ofQ (-(ofQ n d).1) (ofQ n d).2 = ofQ (-n) d := by
  have b1 := (ofQ_bd n d hd).2.1
  have c := ofQ_cross n d hd
  have g1 := ofQ_gcd (-(ofQ n d).1) (ofQ n d).2 b1
  have g2 := ofQ_gcd (-n) d hd
  have k1 := cmp_ofQ (-(ofQ n d).1) (ofQ n d).2 (-n) d b1 hd
  have k2 := cmp_ofQ (-n) d (-(ofQ n d).1) (ofQ n d).2 hd b1
  have key : (-(ofQ n d).1) % (ofQ n d).2 * d = (-n) % d * (ofQ n d).2 := by
    rw [← emod_mul_right _ _ d (by omega), Int.neg_mul, c, ← Int.neg_mul, Int.mul_comm (ofQ n d).2 d, emod_mul_right _ _ _ (by omega : 0 < (ofQ n d).2)]
    congr 1
    rw [show -(n % d) = -n + d * (n / d) by rw [Int.emod_def]; omega, Int.add_mul_emod_self_left]
  refine frac_eq (ofQ_bd _ _ b1).2.1 (ofQ_bd _ _ hd).2.1 g1 g2 ?_
  unfold lessA at k1 k2
  omega

theorem sDist_eq {a b : Ang} (ha : IsA a) (hb : IsA b) : sDistA a b = distA a b := by
  have hp := mulPos ha.1.1 hb.1.1
  have e1 : ofQ (b.1 * a.2 - a.1 * b.2) (a.2 * b.2) = minusA b a := by unfold minusA; rw [Int.mul_comm a.2 b.2]
  have e2 : ofQ (-(minusA b a).1) (minusA b a).2 = minusA a b := by
    rw [← e1, neg_ofQ _ _ hp]
    unfold minusA
    congr 1; omega
  unfold sDistA distA
  rw [e1, e2]
  by_cases h : lessA (minusA a b) (minusA b a)
  · rw [if_pos h, if_pos ((cmpA_less _ _).2 h)]
  · rw [if_neg h, if_neg (fun h' => h ((cmpA_less _ _).1 h'))]

theorem longer_eq {b l : Lf} (hb : IsL b) (hl : IsL l) : longerI b l = longerS b l := by
  unfold longerI longerS sizeL
  rw [sDist_eq hb.1 hb.2.1, sDist_eq hl.1 hl.2.1]
  by_cases h : lessA (distA b.1 b.2) (distA l.1 l.2)
  · rw [if_pos h, if_pos ((cmpA_more _ _).2 h)]
  · rw [if_neg h, if_neg (fun h' => h ((cmpA_more _ _).1 h'))]

theorem fold_eq : ∀ (xs : List Lf) (b : Lf), IsL b → (∀ x ∈ xs, IsL x) → xs.foldl longerI b = xs.foldl longerS b
  | [], b, _, _ => rfl
  | x :: l, b, hb, h => by
    have hx := h x (by simp)
    rw [List.foldl_cons, List.foldl_cons, longer_eq hb hx]
    refine fold_eq l _ ?_ (fun y hy => h y (by simp [hy]))
    unfold longerS
    split <;> assumption

theorem longest_eq (xs : List Lf) : longestR xs = longestSR xs := by
  unfold longestR longestSR
  rw [← lam_eq]
  by_cases h : lamL xs = true
  · rw [if_pos h, if_pos h]
    cases xs with
    | nil => rfl
    | cons x l =>
      have hall := lam_all h
      rw [if_neg (by simp), if_neg (by simp)]
      have : longerI x x = x := by unfold longerI; split <;> rfl
      simp only [List.foldl_cons, List.getD_cons_zero, this, List.drop_one, List.tail_cons]
      rw [fold_eq l x (hall x (by simp)) (fun y hy => hall y (by simp [hy]))]
  · rw [if_neg h, if_neg h]

end Go.Proofs.YtmbfflckgmdncaaDoor.Fw
