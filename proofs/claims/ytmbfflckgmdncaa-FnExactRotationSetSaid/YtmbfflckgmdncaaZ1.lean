/- Angles put into a list in their order: the reference. -/
import Derived.Test.YtmbfflckgmdncaaB8
namespace Go.Proofs.Ytmbfflckgmdncaa.Fw
open Go Go.RowKit
set_option linter.unusedVariables false
set_option linter.unusedSimpArgs false
set_option maxRecDepth 100000
set_option maxHeartbeats 2000000

abbrev dA9 : Ang := (0, 0)
/-- Is an angle the smaller one? -/
def lsA (x y : Ang) : Bool := decide (lessA x y)
def posA (xs : List Ang) (l : Ang) : Nat := (xs.takeWhile fun x => lsA x l).length
theorem posA_le (xs : List Ang) (l : Ang) : posA xs l ≤ xs.length := (List.takeWhile_sublist _).length_le
theorem posA_lt {xs : List Ang} {l : Ang} {t : Nat} (h : t < posA xs l) : lsA (xs.getD t dA9) l = true := (takeWhile_get dA9 _ xs).1 t h
theorem posA_at {xs : List Ang} {l : Ang} (h : posA xs l < xs.length) : lsA (xs.getD (posA xs l) dA9) l = false := (takeWhile_get dA9 _ xs).2 h
/-- The leaves with one more in its place. -/
def putA9 (xs : List Ang) (l : Ang) : List Ang := if posA xs l < xs.length ∧ xs.getD (posA xs l) dA9 = l then xs else xs.take (posA xs l) ++ ([l] ++ xs.drop (posA xs l))
theorem putA9_len (xs : List Ang) (l : Ang) : (putA9 xs l).length ≤ xs.length + 1 := by
  unfold putA9
  split
  · omega
  · have := posA_le xs l
    simp; omega
def sInsAC : MCtr := fun hg rg lr vals k => match vals with
  | [.row i, .agg [.int .i64 n, .int .i64 d]] => rowO aT (rg i) fun e xs => (e = 32 ∧ (∀ x ∈ (xs : List Ang), Bd x) ∧ Bd (n, d) ∧ List.length (α := Ang) xs ≤ 1000) ∧ ∀ ys : List Ang, ys = putA9 xs (n, d) → k [(i, none)] [⟨aT, 32, true, ys⟩] (.row lr)
  | _ => False
abbrev GSinA := (GOk.cons sLess_ok .nil)
theorem bytesAn9 : ti32.bytes = 16 := rfl
theorem sInsA_ok : MCtrOk Try.prog 17 sInsAC where
  enter := enter_ok Try.func17 (by kernel_rfl) rfl
  calls := by
    intro hg rg lr vals k h
    unfold sInsAC at h
    split at h
    case h_2 => exact h.elim
    rename_i i n d
    obtain ⟨e, xs, hi, h⟩ : ∃ e, ∃ (xs : List Ang), _ := rowO_inv h
    obtain ⟨⟨rfl, hx, hl, hlen⟩, hk⟩ := h
    replace hk := hk _ rfl
    refine ⟨_, _, _, hk, (ups_one hi rfl (fun r' hr' => by cases hr')), fun A w hM => ?_⟩
    have hO := One.of hi rfl
    refine enterM T_ok GSinA Try.func17 rfl (w := w) (A := A.pick [] [i]) (vals := [.row 0, .agg [.int .i64 n, .int .i64 d]]) (n0 := 1) (b0 := 0) (rows := [some ⟨aT, 32, true, xs⟩]) (hp := []) rfl (Nat.le_refl _) (hM.one hi) rfl rfl rfl (Nat.le_of_ble_eq_true rfl) ?_
    conv => whnf
    repeat (refine V_step T_ok GSinA rfl ?_; conv => whnf)
    have hx : ∀ x ∈ (xs : List Ang), Bd x := hx
    have hlen : xs.length ≤ 1000 := hlen
    have hpl := posA_le xs (n, d)
    have hg : ∀ j, j < xs.length → Bd (xs.getD j aT.dflt) ∧ Bd (n, d) := fun j hj => ⟨hx _ (getD_mem hj), hl⟩
    refine V_loopH (γ := Nat) (fun a => a ≤ xs.length ∧ a ≤ posA xs (n, d)) (fun a => xs.length - a)
      (fun a => [(5, .int .i64 a)]) (fun _ => []) (fun _ => []) 0 ⟨Nat.zero_le _, Nat.zero_le _⟩ ?_ ?_
    · clear hx hg
      conv => whnf
      refine ⟨?_, by (conv => whnf); repeat (first | exact True.intro | (refine And.intro rfl ?_; conv => whnf)), by (conv => whnf); repeat (first | exact True.intro | (refine And.intro (by first | rfl | (subst_vars; rfl)) ?_; conv => whnf)), rfl, rfl, rfl, rfl, rfl, rfl, rfl, Nat.le_of_ble_eq_true rfl, Nat.le_of_ble_eq_true rfl⟩
      conv => whnf
      repeat (first | exact True.intro | (refine And.intro (by first | rfl | ((conv => whnf); exact congrArg (AVal.int .i64) (by omega)) | ((conv => whnf); exact congrArg (AVal.int .i64) (by simp only [Int.natCast_add, Int.natCast_one]; omega)) | ((conv => whnf); exact congrArg (AVal.irow _) (by first | omega | assumption | (simp only; omega)))) ?_; conv => whnf))
    · rintro a ⟨h1, h2⟩
      conv => whnf
      refine vcCode_sound T_ok GSinA _ _ _ _ _ ?_
      conv => whnf
      repeat (refine V_step T_ok GSinA rfl ?_; conv => whnf)
      repeat (any_goals (first
        | (refine V_step T_ok GSinA rfl ?_; conv => whnf)
        | (refine V_drawA T_ok GSinA mixed (by kernel_rfl) ?_; conv => whnf)
        | (refine bcond_split (fun hc => ?_) (fun hc => ?_) <;> (try simp only [decide_eq_true_eq, decide_eq_false_iff_not, Bool.not_eq_true', Bool.not_eq_false', Bool.and_eq_true, Bool.or_eq_true, Bool.and_eq_false_imp, Bool.or_eq_false_iff, ne_eq, Decidable.not_not] at hc) <;> conv => whnf)
        | (intro ysK hysK; have hysl := congrArg List.length hysK; (try simp only [List.length_set, List.length_append, List.length_cons, List.length_nil, List.length_take, List.length_drop, List.length_replicate] at hysl); conv => whnf)
        | (intro bK hbK; have hbl := congrArg ByteArray.size hbK; conv => whnf)
        | (intro sK hsK; conv => whnf)
        | (refine And.intro (by first | (first | exact True.intro | omega | exact hg _ (by (have hl' : (a : Int) < (List.length (α := Ang) xs : Nat) := by assumption); show a < _; omega) | (simp only [Rng]; omega) | (simp only [List.length_cons, List.length_nil, List.length_drop, List.length_take]; exact ⟨by omega, by rw [bytesAn9]; omega⟩)) | exact True.intro | exact ⟨rfl, True.intro, fun _ _ => rfl⟩ | exact Nat.le_of_ble_eq_true rfl | (refine ⟨by (try simp only [List.length_cons, List.length_nil]); omega, Int.le_trans (Int.mul_le_mul_of_nonneg_left (show (TInfo.bytes _ : Int) ≤ 64 from Int.ofNat_le.2 (Nat.le_of_ble_eq_true rfl)) (by omega)) (by (try simp only [List.length_cons, List.length_nil]); omega)⟩)) ?_; conv => whnf)))
      · rename_i hc0
        have hc0 : (a : Int) < (xs.length : Nat) := hc0
        have hc1 : lsA (xs.getD a dA9) (n, d) = true := decide_eq_true hc
        have hap : a < posA xs (n, d) := by
          rcases Nat.eq_or_lt_of_le h2 with e | h
          · have := posA_at (xs := xs) (l := (n, d)) (by omega)
            rw [← e, hc1] at this; cases this
          · exact h
        have e1 : (a : Int) + 1 = ((a + 1 : Nat) : Int) := rfl
        refine ⟨a + 1, ⟨by omega, hap⟩, by omega, ?_⟩
        clear hx hg
        conv => whnf
        refine ⟨?_, by (conv => whnf); repeat (first | exact True.intro | (refine And.intro rfl ?_; conv => whnf)), by (conv => whnf); repeat (first | exact True.intro | (refine And.intro (by first | rfl | (subst_vars; rfl)) ?_; conv => whnf)), rfl, rfl, rfl, rfl, rfl, rfl, rfl, Nat.le_of_ble_eq_true rfl, Nat.le_of_ble_eq_true rfl⟩
        conv => whnf
        repeat (first | exact True.intro | (refine And.intro (by first | rfl | ((conv => whnf); exact congrArg (AVal.int .i64) (by omega)) | ((conv => whnf); exact congrArg (AVal.int .i64) (by simp only [Int.natCast_add, Int.natCast_one]; omega)) | ((conv => whnf); exact congrArg (AVal.irow _) (by first | omega | assumption | (simp only; omega)))) ?_; conv => whnf))
      · rename_i hc0 hc1 hc2
        have hc1 : lsA (xs.getD a dA9) (n, d) = false := decide_eq_false hc1
        have hap : a = posA xs (n, d) := by
          rcases Nat.eq_or_lt_of_le h2 with e | h
          · exact e
          · have := posA_lt h; rw [hc1] at this; cases this
        have hc0 : (a : Int) < (xs.length : Nat) := hc0
        have hy : putA9 xs (n, d) = xs := by
          unfold putA9
          rw [← hap]
          refine if_pos ⟨by omega, ?_⟩
          obtain ⟨q1, q2⟩ := hc
          exact Prod.ext q1 q2
        exact leafM1 hO 0 rfl (by rw [hy]) rfl (fun B C h => by simp [AVal.den, h])
      · have hne : ¬ (posA xs (n, d) < xs.length ∧ xs.getD (posA xs (n, d)) dA9 = (n, d)) := fun hh => by
          rename_i hc0 hc1 _ _ _ _ _ _ _
          have hc1 : lsA (xs.getD a dA9) (n, d) = false := decide_eq_false hc1
          have hap : a = posA xs (n, d) := by
            rcases Nat.eq_or_lt_of_le h2 with e | h
            · exact e
            · have := posA_lt h; rw [hc1] at this; cases this
          rw [← hap] at hh
          have q := hh.2
          have q1 : xs.getD a aT.dflt = (n, d) := q
          refine hc ?_ ?_
          · exact congrArg (fun z : Ang => z.1) q1
          · exact congrArg (fun z : Ang => z.2) q1
        rename_i hc0 hc1 _ y1 e1 _ y2 e2 _
        have hc1 : lsA (xs.getD a dA9) (n, d) = false := decide_eq_false hc1
        have hap : a = posA xs (n, d) := by
          rcases Nat.eq_or_lt_of_le h2 with e | h
          · exact e
          · have := posA_lt h; rw [hc1] at this; cases this
        have hL : ysK = putA9 xs (n, d) := by
          unfold putA9
          rw [if_neg hne, hysK, e1, e2]
          show ([] ++ List.take (a - 0) (List.drop 0 xs)) ++ ([(n, d)] ++ List.take (xs.length - a) (List.drop a xs)) = _
          rw [← hap, List.nil_append, Nat.sub_zero, List.drop_zero, List.take_of_length_le (l := List.drop a xs) (by rw [List.length_drop]; exact Nat.le_refl _)]
        subst hL
        first
          | exact leafM1 hO 4 rfl rfl rfl (fun B C h => by simp [AVal.den, h])
          | exact leafM1 hO 3 rfl rfl rfl (fun B C h => by simp [AVal.den, h])
          | exact leafM1 hO 5 rfl rfl rfl (fun B C h => by simp [AVal.den, h])
      · rename_i hc0 hc1 _ _ _ _ _ _
        exact absurd hc0 hc
      · rename_i hc0 hc1
        exact absurd hc1 hc0
      · rename_i hc0 hc1 _ _ _ _ _ _
        exact absurd hc1 hc0
      · rename_i hc0 y1 e1 _ y2 e2 _
        have hc0 : ¬ (a : Int) < (xs.length : Nat) := hc0
        have hap : a = posA xs (n, d) := by omega
        have hne : ¬ (posA xs (n, d) < xs.length ∧ xs.getD (posA xs (n, d)) dA9 = (n, d)) := fun hh => by omega
        have hL : ysK = putA9 xs (n, d) := by
          unfold putA9
          rw [if_neg hne, hysK, e1, e2]
          show ([] ++ List.take (a - 0) (List.drop 0 xs)) ++ ([(n, d)] ++ List.take (xs.length - a) (List.drop a xs)) = _
          rw [← hap, List.nil_append, Nat.sub_zero, List.drop_zero, List.take_of_length_le (l := List.drop a xs) (by rw [List.length_drop]; exact Nat.le_refl _)]
        subst hL
        first
          | exact leafM1 hO 4 rfl rfl rfl (fun B C h => by simp [AVal.den, h])
          | exact leafM1 hO 3 rfl rfl rfl (fun B C h => by simp [AVal.den, h])
          | exact leafM1 hO 5 rfl rfl rfl (fun B C h => by simp [AVal.den, h])

end Go.Proofs.Ytmbfflckgmdncaa.Fw
-- %intro
