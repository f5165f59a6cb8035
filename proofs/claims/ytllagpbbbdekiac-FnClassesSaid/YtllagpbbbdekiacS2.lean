/- Contracts: strings.Repeat; letters. -/
import Derived.Test.YtllagpbbbdekiacS1
import Derived.Test.YtllagpbbbdekiacFwT
import Derived.Test.YtllagpbbbdekiacU0
import Derived.Test.YtllagpbbbdekiacHC
import Derived.Test.YtllagpbbbdekiacLyR
namespace Go.Proofs.Ytllagpbbbdekiac.Fw
open Go Go.RowKit Go.Shelf
set_option linter.unusedVariables false
set_option linter.unusedSimpArgs false
set_option maxRecDepth 100000
set_option maxHeartbeats 2000000
abbrev sT : TyC := .pair .str .str
abbrev Sq : Type := ByteArray × ByteArray
theorem repX : Builder.Extra Try.prog Try.repL_ren := {
  sizeBuilder := by kernel_rfl
  liesBuilder := by kernel_rfl
  t5 := Try.repL.t5
  a5 := Try.repL.a5
  z5 := Try.repL.z5
  v5 := Try.repL.v5
  infoByte := by kernel_rfl
  cellsByte := by kernel_rfl
  sizeByte := by kernel_rfl
  neB5 := by decide }
theorem repF : Try.repL_ren.f 105 = 84 := by kernel_rfl
def repC : PCtr := fun _ _ _ vals k => match vals with
  | [.str s, .int .i64 c] => ((0 ≤ c ∧ c ≤ 1000) ∧ s.size * c.toNat ≤ 1000) ∧ ∀ r : ByteArray, r = repB s c.toNat → k [] (.str r)
  | _ => False
theorem rep_ok : PCtrOk Try.prog 84 repC where
  enter := enter_ok Try.func84 (by kernel_rfl) rfl
  calls := by
    intro hg rg lr vals k h
    unfold repC at h
    split at h
    case h_2 => exact h.elim
    rename_i s c
    obtain ⟨⟨⟨h0, h1⟩, h2⟩, hk⟩ := h
    replace hk := hk _ rfl
    refine ⟨_, _, hk, fun A w _ _ => ?_⟩
    have h := Any.strings_Repeat Try.repL repX s c.toNat w (by omega) (by omega)
    rw [repF, Int.toNat_of_nonneg h0] at h
    refine Calls.mono h ?_
    rintro e w' ⟨rfl, hb⟩
    exact ⟨[], rfl, ⟨hb, True.intro⟩, newRows_nil⟩
def rootC : PCtr := fun _ _ _ vals k => match vals with
  | [.str s] => (1 ≤ s.size ∧ s.size ≤ 64) ∧ ∀ r : ByteArray, r = wordR s → k [] (.str r)
  | _ => False
theorem root_ok : PCtrOk Try.prog 83 rootC where
  enter := enter_ok Try.func83 (by kernel_rfl) rfl
  calls := by
    intro hg rg lr vals k h
    unfold rootC at h
    split at h
    case h_2 => exact h.elim
    rename_i s
    obtain ⟨⟨h1, h2⟩, hk⟩ := h
    replace hk := hk _ rfl
    refine ⟨_, _, hk, fun A w _ _ => ?_⟩
    refine enter T_ok (GOk.cons rep_ok .nil) Try.func83 rfl (K := (· < w.heap.size)) (fun _ h => h) (A := A) (n0 := 0) (b0 := 0) (rows := []) (hp := []) rfl (Nat.zero_le _) (fun k r h => by cases h) rfl (fun k r h => by cases h) rfl rfl (Nat.le_of_ble_eq_true rfl) ?_
    conv => whnf
    repeat (refine V_step T_ok (GOk.cons rep_ok .nil) rfl ?_; conv => whnf)
    refine V_loopH (γ := Nat) (fun n => (1 ≤ n ∧ n ≤ s.size) ∧ ∀ j, j < n → ¬ rootP s j) (fun n => s.size - n)
      (fun n => [(3, .int .i64 n)]) (fun _ => []) (fun _ => []) 1 ⟨⟨by omega, by omega⟩, fun j hj hp => by have := hp.1; omega⟩ ?_ ?_
    · conv => whnf
      refine ⟨?_, by (conv => whnf); repeat (first | exact True.intro | (refine And.intro rfl ?_; conv => whnf)), by (conv => whnf); repeat (first | exact True.intro | (refine And.intro (by first | rfl | (subst_vars; rfl)) ?_; conv => whnf)), rfl, rfl, rfl, rfl, rfl, rfl, rfl, Nat.le_of_ble_eq_true rfl, Nat.le_of_ble_eq_true rfl⟩
      conv => whnf
      repeat (first | exact True.intro | (refine And.intro (by first | rfl | ((conv => whnf); exact congrArg (AVal.int .i64) (by omega)) | ((conv => whnf); exact congrArg (AVal.int .i64) (by simp only [Int.natCast_add, Int.natCast_one]; omega)) | ((conv => whnf); exact congrArg (AVal.irow _) (by first | omega | assumption | (simp only; omega)))) ?_; conv => whnf))
    · rintro n ⟨⟨hn1, hn2⟩, hno⟩
      conv => whnf
      refine vcCode_sound T_ok (GOk.cons rep_ok .nil) _ _ _ _ _ ?_
      conv => whnf
      repeat (refine V_step T_ok (GOk.cons rep_ok .nil) rfl ?_; conv => whnf)
      have hq : (s.size : Int).tdiv (n : Int) = ((s.size / n : Nat) : Int) := rfl
      have hr : (s.size : Int).tmod (n : Int) = ((s.size % n : Nat) : Int) := rfl
      have hql : s.size / n ≤ 64 := Nat.le_trans (Nat.div_le_self _ _) h2
      have hpre : ((0 ≤ (s.size : Int).tdiv n ∧ (s.size : Int).tdiv n ≤ 1000) ∧ (s.extract 0 (n : Int).toNat).size * ((s.size : Int).tdiv n).toNat ≤ 1000) := by
        rw [hq, Int.toNat_natCast, Int.toNat_natCast, size_extract _ _ _ hn2, Nat.sub_zero, Nat.mul_comm]
        refine ⟨⟨Int.natCast_nonneg _, Int.le_trans (Int.ofNat_le.2 hql) (by decide)⟩, Nat.le_trans (Nat.div_mul_le_self _ _) (by omega)⟩
      have hrng : Rng .i64 ((s.size : Int).tdiv n) := by
        have e : ((s.size / n : Nat) : Int) ≤ 64 := Int.ofNat_le.2 hql
        rw [hq]; exact ⟨Int.le_trans (by decide) (Int.natCast_nonneg _), Int.le_trans e (by decide)⟩
      have hnext : ¬ rootP s n → (n + 1 ≤ s.size ∧ ∀ j, j < n + 1 → ¬ rootP s j) := fun h => by
        refine ⟨?_, fun j hj => ?_⟩
        · rcases Nat.lt_or_ge n s.size with h' | h'
          · omega
          · obtain rfl : n = s.size := by omega
            exact absurd ⟨h1, Nat.mod_self _, perL_all _⟩ h
        · rcases Nat.lt_or_ge j n with h' | h'
          · exact hno j h'
          · obtain rfl : j = n := by omega
            exact h
      have hper : s.size % n = 0 → (repB (s.extract 0 (n : Int).toNat) ((s.size : Int).tdiv n).toNat = s ↔ rootP s n) := fun hd => by
        rw [hq, Int.toNat_natCast, Int.toNat_natCast, rep_iff hn1 hn2 hd]
        exact ⟨fun h => ⟨hn1, hd, h⟩, fun h => h.2.2⟩
      repeat (any_goals (first
        | (refine V_step T_ok (GOk.cons rep_ok .nil) rfl ?_; conv => whnf)
        | (refine V_drawA T_ok (GOk.cons rep_ok .nil) mixed (by kernel_rfl) ?_; conv => whnf)
        | (refine bcond_split (fun hc => ?_) (fun hc => ?_) <;> (try simp only [decide_eq_true_eq, decide_eq_false_iff_not, Bool.not_eq_true', Bool.not_eq_false', Bool.and_eq_true, Bool.or_eq_true, Bool.and_eq_false_imp, Bool.or_eq_false_iff, ne_eq, Decidable.not_not] at hc) <;> conv => whnf)
        | (intro ysK hysK; have hysl := congrArg List.length hysK; (try simp only [List.length_set, List.length_append, List.length_cons, List.length_nil, List.length_take, List.length_drop, List.length_replicate] at hysl); conv => whnf)
        | (intro bK hbK; have hbl := congrArg ByteArray.size hbK; conv => whnf)
        | (intro sK hsK; conv => whnf)
        | (refine And.intro (by first | (first | exact True.intro | omega | with_reducible exact hrng | with_reducible exact hpre | (simp only [Rng]; omega)) | exact True.intro | exact ⟨rfl, True.intro, fun _ _ => rfl⟩ | exact Nat.le_of_ble_eq_true rfl | (refine ⟨by (try simp only [List.length_cons, List.length_nil]); omega, Int.le_trans (Int.mul_le_mul_of_nonneg_left (show (TInfo.bytes _ : Int) ≤ 64 from Int.ofNat_le.2 (Nat.le_of_ble_eq_true rfl)) (by omega)) (by (try simp only [List.length_cons, List.length_nil]); omega)⟩)) ?_; conv => whnf)))
      · rw [hr] at hc
        obtain ⟨h3, h4⟩ := hnext fun h => hc (by rw [h.2.1]; rfl)
        refine ⟨n + 1, ⟨⟨by omega, h3⟩, h4⟩, by omega, ?_⟩
        conv => whnf
        refine ⟨?_, by (conv => whnf); repeat (first | exact True.intro | (refine And.intro rfl ?_; conv => whnf)), by (conv => whnf); repeat (first | exact True.intro | (refine And.intro (by first | rfl | (subst_vars; rfl)) ?_; conv => whnf)), rfl, rfl, rfl, rfl, rfl, rfl, rfl, Nat.le_of_ble_eq_true rfl, Nat.le_of_ble_eq_true rfl⟩
        conv => whnf
        repeat (first | exact True.intro | (refine And.intro (by first | rfl | ((conv => whnf); exact congrArg (AVal.int .i64) (by omega)) | ((conv => whnf); exact congrArg (AVal.int .i64) (by simp only [Int.natCast_add, Int.natCast_one]; omega)) | ((conv => whnf); exact congrArg (AVal.irow _) (by first | omega | assumption | (simp only; omega)))) ?_; conv => whnf))
      · rename_i hd
        rw [hr] at hd
        obtain ⟨h3, h4⟩ := hnext fun h => hc (hbK.trans ((hper (by omega)).2 h))
        refine ⟨n + 1, ⟨⟨by omega, h3⟩, h4⟩, by omega, ?_⟩
        conv => whnf
        refine ⟨?_, by (conv => whnf); repeat (first | exact True.intro | (refine And.intro rfl ?_; conv => whnf)), by (conv => whnf); repeat (first | exact True.intro | (refine And.intro (by first | rfl | (subst_vars; rfl)) ?_; conv => whnf)), rfl, rfl, rfl, rfl, rfl, rfl, rfl, Nat.le_of_ble_eq_true rfl, Nat.le_of_ble_eq_true rfl⟩
        conv => whnf
        repeat (first | exact True.intro | (refine And.intro (by first | rfl | ((conv => whnf); exact congrArg (AVal.int .i64) (by omega)) | ((conv => whnf); exact congrArg (AVal.int .i64) (by simp only [Int.natCast_add, Int.natCast_one]; omega)) | ((conv => whnf); exact congrArg (AVal.irow _) (by first | omega | assumption | (simp only; omega)))) ?_; conv => whnf))
      · rename_i hd
        rw [hr] at hd
        have hroot := (hper (by omega)).1 (hbK.symm.trans hc)
        have e : wordR s = s.extract 0 (n : Int).toNat := by rw [wordR, rootK_of ⟨hroot, hno⟩ hn2]; rfl
        exact leaf0 rfl (congrArg AVal.str e.symm) rfl
end Go.Proofs.Ytllagpbbbdekiac.Fw
