/- The law of ConditionThatFails, walked: the reference. -/
import Derived.Test.YtllagpbbbdekiaaE8
namespace Go.Proofs.Ytllagpbbbdekiaa.Fw
open Go Go.RowKit
set_option linter.unusedVariables false
set_option linter.unusedSimpArgs false
set_option maxRecDepth 100000
set_option maxHeartbeats 2000000

theorem any_false {xs : List Lf} {p : Lf → Bool} (h : ∀ a, a < xs.length → p (xs.getD a lT.dflt) = false) : xs.any p = false := by
  rw [List.any_eq_false]
  intro x hx
  obtain ⟨a, ha, rfl⟩ := List.mem_iff_getElem.1 hx
  have := h a ha
  rw [List.getD_eq_getElem?_getD, List.getElem?_eq_getElem ha] at this
  simpa using this
theorem any_true {xs : List Lf} {p : Lf → Bool} {a : Nat} (ha : a < xs.length) (h : p (xs.getD a lT.dflt) = true) : xs.any p = true := by
  rw [List.any_eq_true]
  refine ⟨xs.getD a lT.dflt, ?_, h⟩
  rw [List.getD_eq_getElem?_getD, List.getElem?_eq_getElem ha]
  exact List.getElem_mem ha
theorem self_false {xs : List Lf} (h : ∀ a, a < xs.length → ∀ b, b < a → sCrossL (xs.getD a lT.dflt) (xs.getD b lT.dflt) = false) : sSelf xs = false := by
  unfold sSelf
  rw [List.any_eq_false]
  intro a ha
  have ha := List.mem_range.1 ha
  rw [Bool.not_eq_true]
  refine any_false fun b hb => ?_
  have hb' : b < a := by rw [List.length_take] at hb; omega
  have := h a ha b hb'
  have e : (xs.take a).getD b lT.dflt = xs.getD b lT.dflt := by
    rw [List.getD_eq_getElem?_getD, List.getD_eq_getElem?_getD, List.getElem?_take, if_pos hb']
  rw [e]
  exact this
theorem self_true {xs : List Lf} {a b : Nat} (ha : a < xs.length) (hb : b < a) (h : sCrossL (xs.getD a lT.dflt) (xs.getD b lT.dflt) = true) : sSelf xs = true := by
  unfold sSelf
  rw [List.any_eq_true]
  refine ⟨a, List.mem_range.2 ha, ?_⟩
  refine any_true (a := b) (by rw [List.length_take]; omega) ?_
  have e : (xs.take a).getD b lT.dflt = xs.getD b lT.dflt := by
    rw [List.getD_eq_getElem?_getD, List.getD_eq_getElem?_getD, List.getElem?_take, if_pos hb]
  rw [e]
  exact h
theorem imgL_len (f : Lf → Bool) (l : Lf) : (imgL f l).length ≤ 65 := by
  unfold imgL
  cases h : imgs f 65 [] l with
  | none => simp
  | some ys => exact Nat.le_trans (imgs_len f 65 [] l ys (Nat.zero_le _) h) (by omega)
theorem sMaj0_eq {m : Lf} (h : okE m = true) : (sMajO m).getD 0 lT.dflt = sMaj0 m ∧ (sMajO m).getD 1 lT.dflt = sMaj1 m ∧ (sMajO m).length = 2 := by
  unfold sMajO
  rw [if_pos h]
  refine ⟨rfl, rfl, ?_⟩
  rw [sMaj_two]; rfl
theorem sMajO_isL {m : Lf} (hl : IsL m) (h : okE m = true) : ∀ x ∈ sMajO m, IsL x := by
  obtain ⟨h1, h2⟩ := majO_eq hl
  rw [if_pos h] at h2
  obtain ⟨h3, h4⟩ := majN_0 h2
  rw [← h1, h4]
  exact maj_isL hl h3
@[irreducible] def sfR (m : Lf) : Int × Bool := if longB m = true then (1, true) else if imgB sDiaL m = true ∧ okE m = true then (sFailN m (imgL sDiaL m), true) else (0, false)
theorem sfR_1 {m : Lf} (h : longB m = true) : sfR m = (1, true) := by unfold sfR; rw [if_pos h]
theorem sfR_2 {m : Lf} (h : longB m = false) (h2 : ¬ (imgB sDiaL m = true ∧ okE m = true)) : sfR m = (0, false) := by unfold sfR; rw [if_neg (by rw [h]; simp), if_neg h2]
theorem sfR_3 {m : Lf} (h : longB m = false) (h2 : imgB sDiaL m = true ∧ okE m = true) : sfR m = (sFailN m (imgL sDiaL m), true) := by unfold sfR; rw [if_neg (by rw [h]; simp), if_pos h2]
def sfC : PCtr := fun _ _ _ vals k => match vals with
  | [.agg [.int .i64 n, .int .i64 d, .int .i64 m, .int .i64 e]] => IsL ((n, d), (m, e)) ∧ ∀ q : Int × Bool, q = sfR ((n, d), (m, e)) → k [] (.tup [.int .i64 q.1, .bool q.2])
  | _ => False
abbrev GSf := GOk.cons sLong_ok (GOk.cons sImages_ok (GOk.cons sMajors_ok (GOk.cons sCrossL_ok (GOk.cons sDist_ok (GOk.cons sLess_ok .nil)))))
theorem sf_ok : PCtrOk Try.prog 47 sfC where
  enter := enter_ok Try.func47 (by kernel_rfl) rfl
  calls := by
    intro hg rg lr vals k h
    unfold sfC at h
    split at h
    case h_2 => exact h.elim
    rename_i n d m e
    obtain ⟨hl, hk⟩ := h
    replace hk := hk _ rfl
    refine ⟨_, _, hk, fun A w _ _ => ?_⟩
    refine enter T_ok GSf Try.func47 rfl (K := (· < w.heap.size)) (fun _ h => h) (A := A) (n0 := 0) (b0 := 0) (rows := []) (hp := []) rfl (Nat.zero_le _) (fun k r h => by cases h) rfl (fun k r h => by cases h) rfl rfl (Nat.le_of_ble_eq_true rfl) ?_
    conv => whnf
    repeat (refine V_step T_ok GSf rfl ?_; conv => whnf)
    have hs := hl.sm
    repeat (any_goals (first
      | (refine V_step T_ok GSf rfl ?_; conv => whnf)
      | (refine V_drawA T_ok GSf mixed (by kernel_rfl) ?_; conv => whnf)
      | (refine bcond_split (fun hc => ?_) (fun hc => ?_) <;> (try simp only [decide_eq_true_eq, decide_eq_false_iff_not, Bool.not_eq_true', Bool.not_eq_false', Bool.and_eq_true, Bool.or_eq_true, Bool.and_eq_false_imp, Bool.or_eq_false_iff, ne_eq, Decidable.not_not] at hc) <;> conv => whnf)
      | (intro ysK hysK; have hysl := congrArg List.length hysK; (try simp only [List.length_set, List.length_append, List.length_cons, List.length_nil, List.length_take, List.length_drop, List.length_replicate] at hysl); conv => whnf)
      | (intro bK hbK; have hbl := congrArg ByteArray.size hbK; conv => whnf)
      | (intro sK hsK; conv => whnf)
      | (refine And.intro (by first | (first | exact True.intro | exact hl | exact hs) | exact True.intro | exact ⟨rfl, True.intro, fun _ _ => rfl⟩ | exact Nat.le_of_ble_eq_true rfl | (refine ⟨by (try simp only [List.length_cons, List.length_nil]); omega, Int.le_trans (Int.mul_le_mul_of_nonneg_left (show (TInfo.bytes _ : Int) ≤ 64 from Int.ofNat_le.2 (Nat.le_of_ble_eq_true rfl)) (by omega)) (by (try simp only [List.length_cons, List.length_nil]); omega)⟩)) ?_; conv => whnf)))
    · exact leaf0 rfl (by rw [sfR_1 hc]) rfl
    · exact leaf0 rfl (by rw [sfR_2 (by assumption) fun h => by rw [hc] at h; cases h.1]) rfl
    · exact leaf0 rfl (by rw [sfR_2 (by assumption) fun h => by rw [hc] at h; cases h.2]) rfl
    · have hok : okE ((n, d), (m, e)) = true := hc
      have hres := sfR_3 (m := ((n, d), (m, e))) (by assumption) ⟨by assumption, hok⟩
      have hxL : ∀ x ∈ imgL sDiaL ((n, d), (m, e)), IsL x := by rw [(imgL_eq hl).1]; exact imgL_isL hl
      have hyL : ∀ y ∈ ysK, IsL y := by rw [show ysK = _ from hysK]; exact sMajO_isL hl hok
      have hy0 : ysK.getD 0 lT.dflt = sMaj0 ((n, d), (m, e)) := by rw [show ysK = _ from hysK]; exact (sMaj0_eq hok).1
      have hy1 : ysK.getD 1 lT.dflt = sMaj1 ((n, d), (m, e)) := by rw [show ysK = _ from hysK]; exact (sMaj0_eq hok).2.1
      have hy2 : List.length (α := Lf) ysK = 2 := by rw [show ysK = _ from hysK]; exact (sMaj0_eq hok).2.2
      rw [hres]
      obtain ⟨xs, hxs⟩ : ∃ xs, imgL sDiaL ((n, d), (m, e)) = xs := ⟨_, rfl⟩
      have hx65 : List.length (α := Lf) (imgL sDiaL ((n, d), (m, e))) ≤ 65 := imgL_len _ _
      rw [hxs] at hxL hx65 ⊢
      clear hres hysK hysl
      have hxB : ∀ j : Nat, (j : Int) < (List.length (α := Lf) xs : Nat) → BdL (xs.getD j lT.dflt) := fun j hj => by
        have := hxL _ (getD_mem (d := lT.dflt) (show j < List.length (α := Lf) xs by omega))
        exact ⟨this.1.bd, this.2.1.bd⟩
      have hxD : ∀ j : Nat, (j : Int) < (List.length (α := Lf) xs : Nat) → IsL (xs.getD j lT.dflt) := fun j hj => hxL _ (getD_mem (d := lT.dflt) (show j < List.length (α := Lf) xs by omega))
      have hyB : ∀ j : Nat, j < 2 → BdL (ysK.getD j lT.dflt) := fun j hj => by
        have := hyL _ (getD_mem (d := lT.dflt) (show j < List.length (α := Lf) ysK by omega))
        exact ⟨this.1.bd, this.2.1.bd⟩
      have hDi : ∀ l : Lf, IsL l → Bd (sDistA l.1 l.2) := fun l h => by
        rw [sDist_eq h.1 h.2.1]
        exact dist_bd h.sm.1 h.sm.2
      refine V_loopH (γ := Nat) (fun i => i ≤ List.length (α := Lf) xs ∧ ∀ a, a < i → ∀ b, b < a → sCrossL (xs.getD a lT.dflt) (xs.getD b lT.dflt) = false) (fun i => List.length (α := Lf) xs - i)
        (fun i => [(8, .int .i64 i)]) (fun _ => []) (fun _ => []) 0 ⟨Nat.zero_le _, fun a h => absurd h (Nat.not_lt_zero _)⟩ ?_ ?_
      · conv => whnf
        refine ⟨?_, by (conv => whnf); repeat (first | exact True.intro | (refine And.intro rfl ?_; conv => whnf)), by (conv => whnf); repeat (first | exact True.intro | (refine And.intro (by first | rfl | (subst_vars; rfl)) ?_; conv => whnf)), rfl, rfl, rfl, rfl, rfl, rfl, rfl, Nat.le_of_ble_eq_true rfl, Nat.le_of_ble_eq_true rfl⟩
        conv => whnf
        repeat (first | exact True.intro | (refine And.intro (by first | rfl | ((conv => whnf); exact congrArg (AVal.int .i64) (by omega)) | ((conv => whnf); exact congrArg (AVal.int .i64) (by simp only [Int.natCast_add, Int.natCast_one]; omega)) | ((conv => whnf); exact congrArg (AVal.irow _) (by first | omega | assumption | (simp only; omega)))) ?_; conv => whnf))
      · rintro i ⟨hi, hno⟩
        conv => whnf
        refine vcCode_sound T_ok GSf _ _ _ _ _ ?_
        conv => whnf
        repeat (refine V_step T_ok GSf rfl ?_; conv => whnf)
        repeat (any_goals (first
          | (refine V_step T_ok GSf rfl ?_; conv => whnf)
          | (refine V_drawA T_ok GSf mixed (by kernel_rfl) ?_; conv => whnf)
          | (refine bcond_split (fun hc => ?_) (fun hc => ?_) <;> (try simp only [decide_eq_true_eq, decide_eq_false_iff_not, Bool.not_eq_true', Bool.not_eq_false', Bool.and_eq_true, Bool.or_eq_true, Bool.and_eq_false_imp, Bool.or_eq_false_iff, ne_eq, Decidable.not_not] at hc) <;> conv => whnf)
          | (intro ysK hysK; have hysl := congrArg List.length hysK; (try simp only [List.length_set, List.length_append, List.length_cons, List.length_nil, List.length_take, List.length_drop, List.length_replicate] at hysl); conv => whnf)
          | (intro bK hbK; have hbl := congrArg ByteArray.size hbK; conv => whnf)
          | (intro sK hsK; conv => whnf)
          | (refine And.intro (by first | (first | exact True.intro | omega | exact ⟨hs.1, hs.2⟩ | (simp only [Rng]; omega)) | exact True.intro | exact ⟨rfl, True.intro, fun _ _ => rfl⟩ | exact Nat.le_of_ble_eq_true rfl | (refine ⟨by (try simp only [List.length_cons, List.length_nil]); omega, Int.le_trans (Int.mul_le_mul_of_nonneg_left (show (TInfo.bytes _ : Int) ≤ 64 from Int.ofNat_le.2 (Nat.le_of_ble_eq_true rfl)) (by omega)) (by (try simp only [List.length_cons, List.length_nil]); omega)⟩)) ?_; conv => whnf)))
        · have hil : (i : Int) < (List.length (α := Lf) xs : Nat) := by assumption
          refine V_loopH (γ := Nat) (fun b => b ≤ i ∧ ∀ a, a < b → sCrossL (xs.getD i lT.dflt) (xs.getD a lT.dflt) = false) (fun b => i - b)
            (fun b => [(9, .int .i64 b)]) (fun _ => []) (fun _ => []) 0 ⟨Nat.zero_le _, fun a h => absurd h (Nat.not_lt_zero _)⟩ ?_ ?_
          · conv => whnf
            refine ⟨?_, by (conv => whnf); repeat (first | exact True.intro | (refine And.intro rfl ?_; conv => whnf)), by (conv => whnf); repeat (first | exact True.intro | (refine And.intro (by first | rfl | (subst_vars; rfl)) ?_; conv => whnf)), rfl, rfl, rfl, rfl, rfl, rfl, rfl, Nat.le_of_ble_eq_true rfl, Nat.le_of_ble_eq_true rfl⟩
            conv => whnf
            repeat (first | exact True.intro | (refine And.intro (by first | rfl | ((conv => whnf); exact congrArg (AVal.int .i64) (by omega)) | ((conv => whnf); exact congrArg (AVal.int .i64) (by simp only [Int.natCast_add, Int.natCast_one]; omega)) | ((conv => whnf); exact congrArg (AVal.irow _) (by first | omega | assumption | (simp only; omega)))) ?_; conv => whnf))
          · rintro b ⟨hb, hnb⟩
            conv => whnf
            refine vcCode_sound T_ok GSf _ _ _ _ _ ?_
            conv => whnf
            repeat (refine V_step T_ok GSf rfl ?_; conv => whnf)
            repeat (any_goals (first
              | (refine V_step T_ok GSf rfl ?_; conv => whnf)
              | (refine V_drawA T_ok GSf mixed (by kernel_rfl) ?_; conv => whnf)
              | (refine bcond_split (fun hc => ?_) (fun hc => ?_) <;> (try simp only [decide_eq_true_eq, decide_eq_false_iff_not, Bool.not_eq_true', Bool.not_eq_false', Bool.and_eq_true, Bool.or_eq_true, Bool.and_eq_false_imp, Bool.or_eq_false_iff, ne_eq, Decidable.not_not] at hc) <;> conv => whnf)
              | (intro ysK hysK; have hysl := congrArg List.length hysK; (try simp only [List.length_set, List.length_append, List.length_cons, List.length_nil, List.length_take, List.length_drop, List.length_replicate] at hysl); conv => whnf)
              | (intro bK hbK; have hbl := congrArg ByteArray.size hbK; conv => whnf)
              | (intro sK hsK; conv => whnf)
              | (refine And.intro (by first | (first | exact True.intro | omega | exact ⟨hxB i hil, hxB b (by omega)⟩ | (simp only [Rng]; omega)) | exact True.intro | exact ⟨rfl, True.intro, fun _ _ => rfl⟩ | exact Nat.le_of_ble_eq_true rfl | (refine ⟨by (try simp only [List.length_cons, List.length_nil]); omega, Int.le_trans (Int.mul_le_mul_of_nonneg_left (show (TInfo.bytes _ : Int) ≤ 64 from Int.ofNat_le.2 (Nat.le_of_ble_eq_true rfl)) (by omega)) (by (try simp only [List.length_cons, List.length_nil]); omega)⟩)) ?_; conv => whnf)))
            · have hbl : (b : Int) < (i : Int) := by assumption
              have ht : sSelf xs = true := self_true (a := i) (b := b) (by omega) (by omega) hc
              exact leaf0 rfl (by rw [sFailN, if_pos ht]) rfl
            · have hbl : (b : Int) < (i : Int) := by assumption
              refine ⟨b + 1, ⟨by omega, fun a ha => ?_⟩, by omega, ?_⟩
              · rcases Nat.lt_or_ge a b with h' | h'
                · exact hnb a h'
                · obtain rfl : a = b := by omega
                  exact hc
              · conv => whnf
                refine ⟨?_, by (conv => whnf); repeat (first | exact True.intro | (refine And.intro rfl ?_; conv => whnf)), by (conv => whnf); repeat (first | exact True.intro | (refine And.intro (by first | rfl | (subst_vars; rfl)) ?_; conv => whnf)), rfl, rfl, rfl, rfl, rfl, rfl, rfl, Nat.le_of_ble_eq_true rfl, Nat.le_of_ble_eq_true rfl⟩
                conv => whnf
                repeat (first | exact True.intro | (refine And.intro (by first | rfl | ((conv => whnf); exact congrArg (AVal.int .i64) (by omega)) | ((conv => whnf); exact congrArg (AVal.int .i64) (by simp only [Int.natCast_add, Int.natCast_one]; omega)) | ((conv => whnf); exact congrArg (AVal.irow _) (by first | omega | assumption | (simp only; omega)))) ?_; conv => whnf))
            · have hbe : b = i := by omega
              refine ⟨i + 1, ⟨by omega, fun a ha => ?_⟩, by omega, ?_⟩
              · rcases Nat.lt_or_ge a i with h' | h'
                · exact hno a h'
                · obtain rfl : a = i := by omega
                  rw [← hbe]
                  rw [← hbe] at hnb
                  exact hnb
              · conv => whnf
                refine ⟨?_, by (conv => whnf); repeat (first | exact True.intro | (refine And.intro rfl ?_; conv => whnf)), by (conv => whnf); repeat (first | exact True.intro | (refine And.intro (by first | rfl | (subst_vars; rfl)) ?_; conv => whnf)), rfl, rfl, rfl, rfl, rfl, rfl, rfl, Nat.le_of_ble_eq_true rfl, Nat.le_of_ble_eq_true rfl⟩
                conv => whnf
                repeat (first | exact True.intro | (refine And.intro (by first | rfl | ((conv => whnf); exact congrArg (AVal.int .i64) (by omega)) | ((conv => whnf); exact congrArg (AVal.int .i64) (by simp only [Int.natCast_add, Int.natCast_one]; omega)) | ((conv => whnf); exact congrArg (AVal.irow _) (by first | omega | assumption | (simp only; omega)))) ?_; conv => whnf))
        · have hself : sSelf xs = false := self_false fun a ha => hno a (by omega)
          clear hno
          refine V_loopH (γ := Nat) (fun i => i ≤ List.length (α := Lf) xs ∧ ∀ a, a < i → sLessLen ((n, d), (m, e)) (xs.getD a lT.dflt) = false) (fun i => List.length (α := Lf) xs - i)
            (fun i => [(11, .int .i64 i)]) (fun _ => []) (fun _ => []) 0 ⟨Nat.zero_le _, fun a h => absurd h (Nat.not_lt_zero _)⟩ ?_ ?_
          · conv => whnf
            refine ⟨?_, by (conv => whnf); repeat (first | exact True.intro | (refine And.intro rfl ?_; conv => whnf)), by (conv => whnf); repeat (first | exact True.intro | (refine And.intro (by first | rfl | (subst_vars; rfl)) ?_; conv => whnf)), rfl, rfl, rfl, rfl, rfl, rfl, rfl, Nat.le_of_ble_eq_true rfl, Nat.le_of_ble_eq_true rfl⟩
            conv => whnf
            repeat (first | exact True.intro | (refine And.intro (by first | rfl | ((conv => whnf); exact congrArg (AVal.int .i64) (by omega)) | ((conv => whnf); exact congrArg (AVal.int .i64) (by simp only [Int.natCast_add, Int.natCast_one]; omega)) | ((conv => whnf); exact congrArg (AVal.irow _) (by first | omega | assumption | (simp only; omega)))) ?_; conv => whnf))
          · rintro j ⟨hj, hnj⟩
            have hDm := hDi _ hl
            have hxj := fun (h : (j : Int) < (List.length (α := Lf) xs : Nat)) => hDi _ (hxD j h)
            have hxs2 := fun (h : (j : Int) < (List.length (α := Lf) xs : Nat)) => (hxD j h).sm
            conv => whnf
            refine vcCode_sound T_ok GSf _ _ _ _ _ ?_
            conv => whnf
            repeat (refine V_step T_ok GSf rfl ?_; conv => whnf)
            repeat (any_goals (first
              | (refine V_step T_ok GSf rfl ?_; conv => whnf)
              | (refine V_drawA T_ok GSf mixed (by kernel_rfl) ?_; conv => whnf)
              | (refine bcond_split (fun hc => ?_) (fun hc => ?_) <;> (try simp only [decide_eq_true_eq, decide_eq_false_iff_not, Bool.not_eq_true', Bool.not_eq_false', Bool.and_eq_true, Bool.or_eq_true, Bool.and_eq_false_imp, Bool.or_eq_false_iff, ne_eq, Decidable.not_not] at hc) <;> conv => whnf)
              | (intro ysK hysK; have hysl := congrArg List.length hysK; (try simp only [List.length_set, List.length_append, List.length_cons, List.length_nil, List.length_take, List.length_drop, List.length_replicate] at hysl); conv => whnf)
              | (intro bK hbK; have hbl := congrArg ByteArray.size hbK; conv => whnf)
              | (intro sK hsK; conv => whnf)
              | (refine And.intro (by first | (first | exact True.intro | omega | exact ⟨(hxs2 (by assumption)).1, (hxs2 (by assumption)).2⟩ | exact ⟨hxj (by assumption), hDm⟩ | (simp only [Rng]; omega)) | exact True.intro | exact ⟨rfl, True.intro, fun _ _ => rfl⟩ | exact Nat.le_of_ble_eq_true rfl | (refine ⟨by (try simp only [List.length_cons, List.length_nil]); omega, Int.le_trans (Int.mul_le_mul_of_nonneg_left (show (TInfo.bytes _ : Int) ≤ 64 from Int.ofNat_le.2 (Nat.le_of_ble_eq_true rfl)) (by omega)) (by (try simp only [List.length_cons, List.length_nil]); omega)⟩)) ?_; conv => whnf)))
            · have hjl : (j : Int) < (List.length (α := Lf) xs : Nat) := by assumption
              have ht : xs.any (sLessLen ((n, d), (m, e))) = true := any_true (a := j) (by omega) (decide_eq_true hc)
              exact leaf0 rfl (by rw [sFailN, if_neg (by rw [hself]; simp), if_pos ht]) rfl
            · have hjl : (j : Int) < (List.length (α := Lf) xs : Nat) := by assumption
              refine ⟨j + 1, ⟨by omega, fun a ha => ?_⟩, by omega, ?_⟩
              · rcases Nat.lt_or_ge a j with h' | h'
                · exact hnj a h'
                · obtain rfl : a = j := by omega
                  exact decide_eq_false hc
              · conv => whnf
                refine ⟨?_, by (conv => whnf); repeat (first | exact True.intro | (refine And.intro rfl ?_; conv => whnf)), by (conv => whnf); repeat (first | exact True.intro | (refine And.intro (by first | rfl | (subst_vars; rfl)) ?_; conv => whnf)), rfl, rfl, rfl, rfl, rfl, rfl, rfl, Nat.le_of_ble_eq_true rfl, Nat.le_of_ble_eq_true rfl⟩
                conv => whnf
                repeat (first | exact True.intro | (refine And.intro (by first | rfl | ((conv => whnf); exact congrArg (AVal.int .i64) (by omega)) | ((conv => whnf); exact congrArg (AVal.int .i64) (by simp only [Int.natCast_add, Int.natCast_one]; omega)) | ((conv => whnf); exact congrArg (AVal.irow _) (by first | omega | assumption | (simp only; omega)))) ?_; conv => whnf))
            · have hless : xs.any (sLessLen ((n, d), (m, e))) = false := any_false fun a ha => hnj a (by omega)
              clear hnj hxj hxs2
              refine V_loopH (γ := Nat) (fun i => i ≤ List.length (α := Lf) xs ∧ ∀ a, a < i → sWithMaj ((n, d), (m, e)) (xs.getD a lT.dflt) = false) (fun i => List.length (α := Lf) xs - i)
                (fun i => [(12, .int .i64 i)]) (fun _ => []) (fun _ => []) 0 ⟨Nat.zero_le _, fun a h => absurd h (Nat.not_lt_zero _)⟩ ?_ ?_
              · conv => whnf
                refine ⟨?_, by (conv => whnf); repeat (first | exact True.intro | (refine And.intro rfl ?_; conv => whnf)), by (conv => whnf); repeat (first | exact True.intro | (refine And.intro (by first | rfl | (subst_vars; rfl)) ?_; conv => whnf)), rfl, rfl, rfl, rfl, rfl, rfl, rfl, Nat.le_of_ble_eq_true rfl, Nat.le_of_ble_eq_true rfl⟩
                conv => whnf
                repeat (first | exact True.intro | (refine And.intro (by first | rfl | ((conv => whnf); exact congrArg (AVal.int .i64) (by omega)) | ((conv => whnf); exact congrArg (AVal.int .i64) (by simp only [Int.natCast_add, Int.natCast_one]; omega)) | ((conv => whnf); exact congrArg (AVal.irow _) (by first | omega | assumption | (simp only; omega)))) ?_; conv => whnf))
              · rintro j ⟨hj, hnj⟩
                conv => whnf
                refine vcCode_sound T_ok GSf _ _ _ _ _ ?_
                conv => whnf
                repeat (refine V_step T_ok GSf rfl ?_; conv => whnf)
                repeat (any_goals (first
                  | (refine V_step T_ok GSf rfl ?_; conv => whnf)
                  | (refine V_drawA T_ok GSf mixed (by kernel_rfl) ?_; conv => whnf)
                  | (refine bcond_split (fun hc => ?_) (fun hc => ?_) <;> (try simp only [decide_eq_true_eq, decide_eq_false_iff_not, Bool.not_eq_true', Bool.not_eq_false', Bool.and_eq_true, Bool.or_eq_true, Bool.and_eq_false_imp, Bool.or_eq_false_iff, ne_eq, Decidable.not_not] at hc) <;> conv => whnf)
                  | (intro ysK hysK; have hysl := congrArg List.length hysK; (try simp only [List.length_set, List.length_append, List.length_cons, List.length_nil, List.length_take, List.length_drop, List.length_replicate] at hysl); conv => whnf)
                  | (intro bK hbK; have hbl := congrArg ByteArray.size hbK; conv => whnf)
                  | (intro sK hsK; conv => whnf)
                  | (refine And.intro (by first | (first | exact True.intro | omega | exact ⟨hxB j (by assumption), hyB 0 (by decide)⟩ | exact ⟨hxB j (by assumption), hyB 1 (by decide)⟩ | (simp only [Rng]; omega)) | exact True.intro | exact ⟨rfl, True.intro, fun _ _ => rfl⟩ | exact Nat.le_of_ble_eq_true rfl | (refine ⟨by (try simp only [List.length_cons, List.length_nil]); omega, Int.le_trans (Int.mul_le_mul_of_nonneg_left (show (TInfo.bytes _ : Int) ≤ 64 from Int.ofNat_le.2 (Nat.le_of_ble_eq_true rfl)) (by omega)) (by (try simp only [List.length_cons, List.length_nil]); omega)⟩)) ?_; conv => whnf)))
                · have hjl : (j : Int) < (List.length (α := Lf) xs : Nat) := by assumption
                  have hc : sCrossL (xs.getD j lT.dflt) (ysK.getD 0 lT.dflt) = true := hc
                  rw [hy0] at hc
                  have ht : xs.any (sWithMaj ((n, d), (m, e))) = true := any_true (a := j) (by omega) (by rw [sWithMaj, hc]; rfl)
                  exact leaf0 rfl (by rw [sFailN, if_neg (by rw [hself]; simp), if_neg (by rw [hless]; simp), if_pos ht]) rfl
                · have hjl : (j : Int) < (List.length (α := Lf) xs : Nat) := by assumption
                  have hc : sCrossL (xs.getD j lT.dflt) (ysK.getD 1 lT.dflt) = true := hc
                  rw [hy1] at hc
                  have ht : xs.any (sWithMaj ((n, d), (m, e))) = true := any_true (a := j) (by omega) (by rw [sWithMaj, hc, Bool.or_true])
                  exact leaf0 rfl (by rw [sFailN, if_neg (by rw [hself]; simp), if_neg (by rw [hless]; simp), if_pos ht]) rfl
                · rename_i h0
                  have hjl : (j : Int) < (List.length (α := Lf) xs : Nat) := by assumption
                  have h0 : sCrossL (xs.getD j lT.dflt) (ysK.getD 0 lT.dflt) = false := h0
                  have hc : sCrossL (xs.getD j lT.dflt) (ysK.getD 1 lT.dflt) = false := hc
                  rw [hy0] at h0
                  rw [hy1] at hc
                  refine ⟨j + 1, ⟨by omega, fun a ha => ?_⟩, by omega, ?_⟩
                  · rcases Nat.lt_or_ge a j with h' | h'
                    · exact hnj a h'
                    · obtain rfl : a = j := by omega
                      rw [sWithMaj, h0, hc]; rfl
                  · conv => whnf
                    refine ⟨?_, by (conv => whnf); repeat (first | exact True.intro | (refine And.intro rfl ?_; conv => whnf)), by (conv => whnf); repeat (first | exact True.intro | (refine And.intro (by first | rfl | (subst_vars; rfl)) ?_; conv => whnf)), rfl, rfl, rfl, rfl, rfl, rfl, rfl, Nat.le_of_ble_eq_true rfl, Nat.le_of_ble_eq_true rfl⟩
                    conv => whnf
                    repeat (first | exact True.intro | (refine And.intro (by first | rfl | ((conv => whnf); exact congrArg (AVal.int .i64) (by omega)) | ((conv => whnf); exact congrArg (AVal.int .i64) (by simp only [Int.natCast_add, Int.natCast_one]; omega)) | ((conv => whnf); exact congrArg (AVal.irow _) (by first | omega | assumption | (simp only; omega)))) ?_; conv => whnf))
                · have hmaj : xs.any (sWithMaj ((n, d), (m, e))) = false := any_false fun a ha => hnj a (by omega)
                  exact leaf0 rfl (by rw [sFailN, if_neg (by rw [hself]; simp), if_neg (by rw [hless]; simp), if_neg (by rw [hmaj]; simp)]) rfl

/-! ### both together -/
theorem cf_of {m : Lf} (hm : IsL m) : cfR m = if (sfR m).2 = true then ((sfR m).1, 0) else (0, 3) := by
  unfold cfR
  by_cases hs : ShortL m
  · have hlb : longB m = false := decide_eq_false (fun h => h hs)
    obtain ⟨e1, e2⟩ := imgL_eq hm
    obtain ⟨_, e3⟩ := majO_eq hm
    by_cases hb : imgB isDiaL m = true ∧ majN m = 0
    · have hok : okE m = true := by
        by_cases h : okE m = true
        · exact h
        · rw [if_neg h] at e3; omega
      obtain ⟨h3, h4⟩ := majN_0 hb.2
      rw [miR_4 hm hs hb, sfR_3 hlb ⟨by rw [e2]; exact hb.1, hok⟩, h4, fail_eq hm h3, e1]
      rfl
    · have hn : ¬ (imgB sDiaL m = true ∧ okE m = true) := fun h => hb ⟨by rw [← e2]; exact h.1, by rw [e3, if_pos h.2]⟩
      rw [miR_3 hm hs hb, sfR_2 hlb hn]
      rfl
  · rw [miR_2 hm hs, sfR_1 (decide_eq_true hs)]
    rfl
theorem cf_no {m : Lf} (hm : ¬ IsL m) : cfR m = (0, 1) := by
  unfold cfR
  rw [miR_1 hm]
  rfl
abbrev GSc := GOk.cons sIsL_ok (GOk.cons sf_ok .nil)
def lawCC : PCtr := fun _ _ _ vals k => match vals with
  | [.agg [.int .i64 n, .int .i64 d, .int .i64 m, .int .i64 e]] => True ∧ k [] (.bool true)
  | _ => False
abbrev GlC := (GOk.cons toLeaf_ok ((.nil)))
end Go.Proofs.Ytllagpbbbdekiaa.Fw
-- %intro
