/- Contracts: the program's classes for two angles. -/
import Derived.Test.YtllagpbbbdekiacT3
namespace Go.Proofs.Ytllagpbbbdekiac.Fw
open Go Go.RowKit
set_option linter.unusedVariables false
set_option linter.unusedSimpArgs false
set_option maxRecDepth 100000
set_option maxHeartbeats 4000000
theorem six_rows {A : Asg} {w : World} {q0 q1 q2 q3 q4 q5 : Row} (h0 : RowsAt w (A.rw 0) (A.inn 0) q0) (h1 : RowsAt w (A.rw 1) (A.inn 1) q1) (h2 : RowsAt w (A.rw 2) (A.inn 2) q2) (h3 : RowsAt w (A.rw 3) (A.inn 3) q3) (h4 : RowsAt w (A.rw 4) (A.inn 4) q4) (h5 : RowsAt w (A.rw 5) (A.inn 5) q5) :
    ∀ k r, nthj [some q0.ro, some q1.ro, some q2.ro, some q3.ro, some q4.ro, some q5.ro] k = some r → r.own = false ∧ RowsAt w (A.rw k) (A.inn k) r := fun k r hk => by
  match k, hk with
  | 0, hk => cases hk; exact ⟨rfl, h0.ro⟩
  | 1, hk => cases hk; exact ⟨rfl, h1.ro⟩
  | 2, hk => cases hk; exact ⟨rfl, h2.ro⟩
  | 3, hk => cases hk; exact ⟨rfl, h3.ro⟩
  | 4, hk => cases hk; exact ⟨rfl, h4.ro⟩
  | 5, hk => cases hk; exact ⟨rfl, h5.ro⟩
  | i + 6, hk => simp [nthj] at hk
theorem fin2 {N : Nat} {t u : Ang} {c c2 : List Int} (h : c = canR N (fillG N N) (qI t (N : Int) 1)) (h2 : c2 = canR N c (qI u (N : Int) (-1))) : clsG N c2 N = cls2 t u (N : Int) := by
  unfold cls2 lab2 lab1 clsL
  rw [Int.toNat_natCast, ← fillG_all, ← h, ← h2]
def clo2 (o : Option (List AVal)) (X : Nat → Nat → Nat → Nat → Nat → Nat → Prop) : Prop := match o with
  | some [.fn f [] [.ele r0 0 0 1, .ele r1 0 0 1, .ele r2 0 0 2], .fn f2 [] [.ele r3 0 0 1, .ele r4 0 0 1, .ele r5 0 0 2]] => isF f 66 (isF f2 66 (X r0 r1 r2 r3 r4 r5))
  | _ => False
theorem clo2_inv {o : Option (List AVal)} {X : Nat → Nat → Nat → Nat → Nat → Nat → Prop} (h : clo2 o X) : ∃ r0 r1 r2 r3 r4 r5, o = some [.fn 66 [] [.ele r0 0 0 1, .ele r1 0 0 1, .ele r2 0 0 2], .fn 66 [] [.ele r3 0 0 1, .ele r4 0 0 1, .ele r5 0 0 2]] ∧ X r0 r1 r2 r3 r4 r5 := by
  unfold clo2 at h
  split at h
  case h_2 => exact h.elim
  obtain ⟨q1, h1⟩ := isF_inv h
  obtain ⟨q2, h2⟩ := isF_inv h1
  subst q1
  subst q2
  exact ⟨_, _, _, _, _, _, rfl, h2⟩
def cls2C : PCtr := fun hg rg lr vals k => match vals with
  | [.int .i64 n, .bsl j 2] => clo2 (hg j) fun r0 r1 r2 r3 r4 r5 => par3 rg r0 r1 r2 fun s m t => par3 rg r3 r4 r5 fun s' m' u => (((IsA t ∧ IsA u) ∧ (1 ≤ n ∧ n ≤ 63)) ∧ (s = 1 ∧ m = n) ∧ (s' = -1 ∧ m' = n)) ∧ ∀ ys : List (List Int), ys = cls2 t u n → k [⟨rT1, 41, true, ys⟩] (.row lr)
  | _ => False
theorem cls2_ok : PCtrOk Try.prog 52 cls2C where
  enter := enter_ok Try.func52 (by kernel_rfl) rfl
  calls := by
    intro hg rg lr vals k h
    unfold cls2C at h
    split at h
    case h_2 => exact h.elim
    rename_i n j
    obtain ⟨r0, r1, r2, r3, r4, r5, hj, h⟩ := clo2_inv h
    obtain ⟨e0, o0, e1, o1, e2, o2, s, m, t, hi0, hi1, hi2, h⟩ := par3_inv h
    obtain ⟨e3, o3, e4, o4, e5, o5, s', m', u, hi3, hi4, hi5, ⟨⟨⟨ht, hu⟩, hn1, hn2⟩, ⟨hs, hm⟩, hs', hm'⟩, hk⟩ := par3_inv h
    replace hk := hk _ rfl
    subst hs
    subst hs'
    subst hm'
    subst hm
    obtain ⟨N, rfl⟩ : ∃ N : Nat, m = (N : Int) := ⟨m.toNat, by omega⟩
    refine ⟨_, _, hk, fun A w hB hR => ?_⟩
    refine enter T_ok (GOk.cons itn1_ok .nil) Try.func52 rfl (K := (· < w.heap.size)) (fun _ h => h) (A := A.pick [j] [r0, r1, r2, r3, r4, r5]) (vals := [.int .i64 (N : Int), .bsl 0 2]) (n0 := 0) (b0 := 1) (rows := [some ⟨iT1, e0, false, [1]⟩, some ⟨iT1, e1, false, [(N : Int)]⟩, some ⟨aT, e2, false, [t]⟩, some ⟨iT1, e3, false, [-1]⟩, some ⟨iT1, e4, false, [(N : Int)]⟩, some ⟨aT, e5, false, [u]⟩]) (hp := [some [.fn 66 [] [.ele 0 0 0 1, .ele 1 0 0 1, .ele 2 0 0 2], .fn 66 [] [.ele 3 0 0 1, .ele 4 0 0 1, .ele 5 0 0 2]]]) rfl (Nat.zero_le _) (one_box (hB j _ hj)) rfl (six_rows (A := A.pick [j] [r0, r1, r2, r3, r4, r5]) (q0 := ⟨iT1, e0, o0, [1]⟩) (q1 := ⟨iT1, e1, o1, [(N : Int)]⟩) (q2 := ⟨aT, e2, o2, [t]⟩) (q3 := ⟨iT1, e3, o3, [-1]⟩) (q4 := ⟨iT1, e4, o4, [(N : Int)]⟩) (q5 := ⟨aT, e5, o5, [u]⟩) (hR r0 _ hi0) (hR r1 _ hi1) (hR r2 _ hi2) (hR r3 _ hi3) (hR r4 _ hi4) (hR r5 _ hi5)) rfl rfl (Nat.le_of_ble_eq_true rfl) ?_
    conv => whnf
    repeat (refine V_step T_ok (GOk.cons itn1_ok .nil) rfl ?_; conv => whnf)
    have hmk : (0 ≤ (N : Int) ∧ (N : Int) = N ∧ (ti2.bytes : Int) * (N : Int) ≤ 281474976710656 ∧ (N : Int) ≤ 9223372036854775807) := by
      have hb : (ti2.bytes : Int) = 8 := rfl
      rw [hb]; omega
    have hpre1 : ∀ k0 : Nat, k0 < N → (((IsA t ∧ (1 ≤ (N : Int) ∧ (N : Int) ≤ 63)) ∧ (0 ≤ (k0 : Int) ∧ (k0 : Int) < N)) ∧ ((1 : Int) = 1 ∨ (1 : Int) = -1)) := fun k0 h => ⟨⟨⟨ht, by omega, by omega⟩, by omega, by omega⟩, .inl rfl⟩
    have hpre2 : ∀ k0 : Nat, k0 < N → (((IsA u ∧ (1 ≤ (N : Int) ∧ (N : Int) ≤ 63)) ∧ (0 ≤ (k0 : Int) ∧ (k0 : Int) < N)) ∧ ((-1 : Int) = 1 ∨ (-1 : Int) = -1)) := fun k0 h => ⟨⟨⟨hu, by omega, by omega⟩, by omega, by omega⟩, .inr rfl⟩
    repeat (any_goals (first
      | (refine V_step T_ok (GOk.cons itn1_ok .nil) rfl ?_; conv => whnf)
      | (refine V_drawA T_ok (GOk.cons itn1_ok .nil) mixed (by kernel_rfl) ?_; conv => whnf)
      | (refine bcond_split (fun hc => ?_) (fun hc => ?_) <;> (try simp only [decide_eq_true_eq, decide_eq_false_iff_not, Bool.not_eq_true', Bool.not_eq_false', Bool.and_eq_true, Bool.or_eq_true, Bool.and_eq_false_imp, Bool.or_eq_false_iff, ne_eq, Decidable.not_not] at hc) <;> conv => whnf)
      | (intro ysK hysK; have hysl := congrArg List.length hysK; (try simp only [List.length_set, List.length_append, List.length_cons, List.length_nil, List.length_take, List.length_drop, List.length_replicate] at hysl); conv => whnf)
      | (intro bK hbK; have hbl := congrArg ByteArray.size hbK; conv => whnf)
      | (intro sK hsK; conv => whnf)
      | (refine And.intro (by first | (first | exact hmk | exact True.intro | omega | (simp only [Rng]; omega)) | exact True.intro | exact ⟨rfl, True.intro, fun _ _ => rfl⟩ | exact Nat.le_of_ble_eq_true rfl | (refine ⟨by (try simp only [List.length_cons, List.length_nil]); omega, Int.le_trans (Int.mul_le_mul_of_nonneg_left (show (TInfo.bytes _ : Int) ≤ 64 from Int.ofNat_le.2 (Nat.le_of_ble_eq_true rfl)) (by omega)) (by (try simp only [List.length_cons, List.length_nil]); omega)⟩)) ?_; conv => whnf)))
    refine V_loopH (γ := Nat) (fun g => g ≤ N) (fun g => N - g) (fun g => [(26, .int .i64 g)]) (fun _ => []) (fun g => [(6, some ⟨iT1, 2, true, fillG N g⟩)]) 0 (Nat.zero_le _) ?_ ?_
    · conv => whnf
      refine ⟨?_, by (conv => whnf); repeat (first | exact True.intro | (refine And.intro rfl ?_; conv => whnf)), by (conv => whnf); repeat (first | exact True.intro | (refine And.intro (by first | rfl | (exact congrArg (fun ys => (⟨iT1, 2, true, ys⟩ : Row)) (fillG_zero N).symm)) ?_; conv => whnf)), rfl, rfl, rfl, rfl, rfl, rfl, rfl, Nat.le_of_ble_eq_true rfl, Nat.le_of_ble_eq_true rfl⟩
      conv => whnf
      repeat (first | exact True.intro | (refine And.intro (by first | rfl | ((conv => whnf); exact congrArg (AVal.int .i64) (by omega)) | ((conv => whnf); exact congrArg (AVal.int .i64) (by simp only [Int.natCast_add, Int.natCast_one]; omega)) | ((conv => whnf); exact congrArg (AVal.irow _) (by first | omega | assumption | (simp only; omega)))) ?_; conv => whnf))
    · rintro g hg
      have hfl : (List.length (α := TyC.α iT1) (fillG N g) : Int) = N := by rw [show List.length (α := TyC.α iT1) (fillG N g) = N from fillG_len N g]
      have hrl : (List.length (List.replicate ((N : Int)).toNat (TyC.int .i64).dflt) : Int) = N := by rw [List.length_replicate, Int.toNat_natCast]
      conv => whnf
      refine vcCode_sound T_ok (GOk.cons itn1_ok .nil) _ _ _ _ _ ?_
      conv => whnf
      repeat (refine V_step T_ok (GOk.cons itn1_ok .nil) rfl ?_; conv => whnf)
      repeat (any_goals (first
        | (refine V_step T_ok (GOk.cons itn1_ok .nil) rfl ?_; conv => whnf)
        | (refine V_drawA T_ok (GOk.cons itn1_ok .nil) mixed (by kernel_rfl) ?_; conv => whnf)
        | (refine bcond_split (fun hc => ?_) (fun hc => ?_) <;> (try simp only [decide_eq_true_eq, decide_eq_false_iff_not, Bool.not_eq_true', Bool.not_eq_false', Bool.and_eq_true, Bool.or_eq_true, Bool.and_eq_false_imp, Bool.or_eq_false_iff, ne_eq, Decidable.not_not] at hc) <;> conv => whnf)
        | (intro ysK hysK; have hysl := congrArg List.length hysK; (try simp only [List.length_set, List.length_append, List.length_cons, List.length_nil, List.length_take, List.length_drop, List.length_replicate] at hysl); conv => whnf)
        | (intro bK hbK; have hbl := congrArg ByteArray.size hbK; conv => whnf)
        | (intro sK hsK; conv => whnf)
        | (refine And.intro (by first | (first | exact True.intro | omega | (simp only [Rng]; omega)) | exact True.intro | exact ⟨rfl, True.intro, fun _ _ => rfl⟩ | exact Nat.le_of_ble_eq_true rfl | (refine ⟨by (try simp only [List.length_cons, List.length_nil]); omega, Int.le_trans (Int.mul_le_mul_of_nonneg_left (show (TInfo.bytes _ : Int) ≤ 64 from Int.ofNat_le.2 (Nat.le_of_ble_eq_true rfl)) (by omega)) (by (try simp only [List.length_cons, List.length_nil]); omega)⟩)) ?_; conv => whnf)))
      · have hgN : g < N := by omega
        have hy : ysK = fillG N (g + 1) := hysK.trans (fillG_set hgN)
        clear hysK
        subst hy
        refine ⟨g + 1, by omega, by omega, ?_⟩
        conv => whnf
        refine ⟨?_, by (conv => whnf); repeat (first | exact True.intro | (refine And.intro rfl ?_; conv => whnf)), by (conv => whnf); repeat (first | exact True.intro | (refine And.intro (by first | rfl | (subst_vars; rfl)) ?_; conv => whnf)), rfl, rfl, rfl, rfl, rfl, rfl, rfl, Nat.le_of_ble_eq_true rfl, Nat.le_of_ble_eq_true rfl⟩
        conv => whnf
        repeat (first | exact True.intro | (refine And.intro (by first | rfl | ((conv => whnf); exact congrArg (AVal.int .i64) (by omega)) | ((conv => whnf); exact congrArg (AVal.int .i64) (by simp only [Int.natCast_add, Int.natCast_one]; omega)) | ((conv => whnf); exact congrArg (AVal.irow _) (by first | omega | assumption | (simp only; omega)))) ?_; conv => whnf))
      · obtain rfl : N = g := by omega
        have hcan1 : Can N (fillG N N) := by rw [fillG_all]; exact rngI_can N
        refine V_loopN 3 ?_
        conv => whnf
        refine V_step T_ok (GOk.cons itn1_ok .nil) rfl ?_
        conv => whnf
        repeat (any_goals (first
          | (refine V_step T_ok (GOk.cons itn1_ok .nil) rfl ?_; conv => whnf)
          | (refine V_drawA T_ok (GOk.cons itn1_ok .nil) mixed (by kernel_rfl) ?_; conv => whnf)
          | (refine bcond_split (fun hc => ?_) (fun hc => ?_) <;> (try simp only [decide_eq_true_eq, decide_eq_false_iff_not, Bool.not_eq_true', Bool.not_eq_false', Bool.and_eq_true, Bool.or_eq_true, Bool.and_eq_false_imp, Bool.or_eq_false_iff, ne_eq, Decidable.not_not] at hc) <;> conv => whnf)
          | (intro ysK hysK; have hysl := congrArg List.length hysK; (try simp only [List.length_set, List.length_append, List.length_cons, List.length_nil, List.length_take, List.length_drop, List.length_replicate] at hysl); conv => whnf)
          | (intro bK hbK; have hbl := congrArg ByteArray.size hbK; conv => whnf)
          | (intro sK hsK; conv => whnf)
          | (refine And.intro (by first | (first | exact True.intro | omega | (simp only [Rng]; omega)) | exact True.intro | exact ⟨rfl, True.intro, fun _ _ => rfl⟩ | exact Nat.le_of_ble_eq_true rfl | (refine ⟨by (try simp only [List.length_cons, List.length_nil]); omega, Int.le_trans (Int.mul_le_mul_of_nonneg_left (show (TInfo.bytes _ : Int) ≤ 64 from Int.ofNat_le.2 (Nat.le_of_ble_eq_true rfl)) (by omega)) (by (try simp only [List.length_cons, List.length_nil]); omega)⟩)) ?_; conv => whnf)))
        refine V_loopH (γ := Nat × List Int × List ((ByteArray × ByteArray) × Int)) (fun g => g.1 ≤ N ∧ StP N (fillG N N) (qI t (N : Int) 1) g.1 g.2.1 ∧ MapI (qI t (N : Int) 1) g.1 g.2.2) (fun g => N - g.1)
          (fun g => [(42, .int .i64 g.1)]) (fun g => [(1, [.mps g.2.2])]) (fun g => [(6, some ⟨iT1, 2, true, g.2.1⟩)]) (0, fillG N N, []) ⟨Nat.zero_le _, StP.start _ hcan1, ⟨fun e he => absurd he (List.not_mem_nil), fun l hl => absurd hl (Nat.not_lt_zero _)⟩⟩ ?_ ?_
        · conv => whnf
          refine ⟨?_, by (conv => whnf); repeat (first | exact True.intro | (refine And.intro rfl ?_; conv => whnf)), by (conv => whnf); repeat (first | exact True.intro | (refine And.intro (by first | rfl | (subst_vars; rfl)) ?_; conv => whnf)), rfl, rfl, rfl, rfl, rfl, rfl, rfl, Nat.le_of_ble_eq_true rfl, Nat.le_of_ble_eq_true rfl⟩
          conv => whnf
          repeat (first | exact True.intro | (refine And.intro (by first | rfl | ((conv => whnf); exact congrArg (AVal.int .i64) (by omega)) | ((conv => whnf); exact congrArg (AVal.int .i64) (by simp only [Int.natCast_add, Int.natCast_one]; omega)) | ((conv => whnf); exact congrArg (AVal.irow _) (by first | omega | assumption | (simp only; omega)))) ?_; conv => whnf))
        · rintro ⟨k0, c, es⟩ ⟨hk0, hP, hM⟩
          simp only at hk0 hP hM
          have hcl := hP.can.len
          have hcl' : (List.length (α := Int) c : Int) = N := by rw [hcl]
          have hval : ∀ s : Sq, s = qI t (N : Int) 1 k0 → hasM es s.1 s.2 = true → 0 ≤ valM es s.1 s.2 ∧ valM es s.1 s.2 < (List.length (α := Int) c : Int) := fun s e h => by
            subst e
            obtain ⟨l, h1, h2, _⟩ := hM.some h
            rw [h2]; omega
          have hval2 : ∀ s : Sq, s = qI t (N : Int) 1 k0 → hasM es s.1 s.2 = true → (valM es s.1 s.2).toNat < List.length (α := Int) c := fun s e h => by
            have := hval s e h
            omega
          conv => whnf
          refine vcCode_sound T_ok (GOk.cons itn1_ok .nil) _ _ _ _ _ ?_
          conv => whnf
          repeat (refine V_step T_ok (GOk.cons itn1_ok .nil) rfl ?_; conv => whnf)
          repeat (any_goals (first
            | (refine V_step T_ok (GOk.cons itn1_ok .nil) rfl ?_; conv => whnf)
            | (refine V_drawA T_ok (GOk.cons itn1_ok .nil) mixed (by kernel_rfl) ?_; conv => whnf)
            | (refine bcond_split (fun hc => ?_) (fun hc => ?_) <;> (try simp only [decide_eq_true_eq, decide_eq_false_iff_not, Bool.not_eq_true', Bool.not_eq_false', Bool.and_eq_true, Bool.or_eq_true, Bool.and_eq_false_imp, Bool.or_eq_false_iff, ne_eq, Decidable.not_not] at hc) <;> conv => whnf)
            | (intro ysK hysK; have hysl := congrArg List.length hysK; (try simp only [List.length_set, List.length_append, List.length_cons, List.length_nil, List.length_take, List.length_drop, List.length_replicate] at hysl); conv => whnf)
            | (intro bK hbK; have hbl := congrArg ByteArray.size hbK; conv => whnf)
            | (intro sK hsK; conv => whnf)
            | (refine And.intro (by first | (first | exact True.intro | omega | exact hpre1 k0 (by omega) | exact hval _ hsK (by assumption) | exact hval2 _ hsK (by assumption) | (with_reducible assumption) | (simp only [Rng]; omega)) | exact True.intro | exact ⟨rfl, True.intro, fun _ _ => rfl⟩ | exact Nat.le_of_ble_eq_true rfl | (refine ⟨by (try simp only [List.length_cons, List.length_nil]); omega, Int.le_trans (Int.mul_le_mul_of_nonneg_left (show (TInfo.bytes _ : Int) ≤ 64 from Int.ofNat_le.2 (Nat.le_of_ble_eq_true rfl)) (by omega)) (by (try simp only [List.length_cons, List.length_nil]); omega)⟩)) ?_; conv => whnf)))
          · have e9 : sK = qI t (N : Int) 1 k0 := hsK
            clear hsK
            subst e9
            refine ⟨(k0 + 1, c, es ++ [(qI t (N : Int) 1 k0, (k0 : Int))]), ⟨by simp only; omega, hP.new (hM.none hc), hM.push⟩, by simp only; omega, ?_⟩
            conv => whnf
            refine ⟨?_, by (conv => whnf); repeat (first | exact True.intro | (refine And.intro rfl ?_; conv => whnf)), by (conv => whnf); repeat (first | exact True.intro | (refine And.intro (by first | rfl | (subst_vars; rfl)) ?_; conv => whnf)), rfl, rfl, rfl, rfl, rfl, rfl, rfl, Nat.le_of_ble_eq_true rfl, Nat.le_of_ble_eq_true rfl⟩
            conv => whnf
            repeat (first | exact True.intro | (refine And.intro (by first | rfl | ((conv => whnf); exact congrArg (AVal.int .i64) (by omega)) | ((conv => whnf); exact congrArg (AVal.int .i64) (by simp only [Int.natCast_add, Int.natCast_one]; omega)) | ((conv => whnf); exact congrArg (AVal.irow _) (by first | omega | assumption | (simp only; omega)))) ?_; conv => whnf))
          · have e9 : sK = qI t (N : Int) 1 k0 := hsK
            clear hsK hval hval2
            subst e9
            obtain ⟨l, hl1, hl2, hl3⟩ := hM.some hc
            refine V_loopH (γ := Nat × List Int) (fun g => g.1 ≤ N ∧ g.2 = mrgG c (min (lab c k0) (lab c l)) (max (lab c k0) (lab c l)) g.1) (fun g => N - g.1)
              (fun g => [(79, .int .i64 g.1)]) (fun _ => []) (fun g => [(6, some ⟨iT1, 2, true, g.2⟩)]) (0, c) ⟨Nat.zero_le _, (mrgG_zero _ _ _).symm⟩ ?_ ?_
            · conv => whnf
              refine ⟨?_, by (conv => whnf); repeat (first | exact True.intro | (refine And.intro rfl ?_; conv => whnf)), by (conv => whnf); repeat (first | exact True.intro | (refine And.intro (by first | rfl | (subst_vars; rfl)) ?_; conv => whnf)), rfl, rfl, rfl, rfl, rfl, rfl, rfl, Nat.le_of_ble_eq_true rfl, Nat.le_of_ble_eq_true rfl⟩
              conv => whnf
              repeat (first | exact True.intro | (refine And.intro (by first | rfl | ((conv => whnf); exact congrArg (AVal.int .i64) (by omega)) | ((conv => whnf); exact congrArg (AVal.int .i64) (by simp only [Int.natCast_add, Int.natCast_one]; omega)) | ((conv => whnf); exact congrArg (AVal.irow _) (by first | omega | assumption | (simp only; omega)))) ?_; conv => whnf))
            · rintro ⟨i, d⟩ ⟨hi, hd⟩
              simp only at hi hd
              have hdl : (List.length (α := Int) d : Int) = N := by rw [hd, mrgG_len, hcl]
              conv => whnf
              refine vcCode_sound T_ok (GOk.cons itn1_ok .nil) _ _ _ _ _ ?_
              conv => whnf
              repeat (refine V_step T_ok (GOk.cons itn1_ok .nil) rfl ?_; conv => whnf)
              repeat (any_goals (first
                | (refine V_step T_ok (GOk.cons itn1_ok .nil) rfl ?_; conv => whnf)
                | (refine V_drawA T_ok (GOk.cons itn1_ok .nil) mixed (by kernel_rfl) ?_; conv => whnf)
                | (refine bcond_split (fun hc => ?_) (fun hc => ?_) <;> (try simp only [decide_eq_true_eq, decide_eq_false_iff_not, Bool.not_eq_true', Bool.not_eq_false', Bool.and_eq_true, Bool.or_eq_true, Bool.and_eq_false_imp, Bool.or_eq_false_iff, ne_eq, Decidable.not_not] at hc) <;> conv => whnf)
                | (intro ysK hysK; have hysl := congrArg List.length hysK; (try simp only [List.length_set, List.length_append, List.length_cons, List.length_nil, List.length_take, List.length_drop, List.length_replicate] at hysl); conv => whnf)
                | (intro bK hbK; have hbl := congrArg ByteArray.size hbK; conv => whnf)
                | (intro sK hsK; conv => whnf)
                | (refine And.intro (by first | (first | exact True.intro | omega | (simp only [Rng]; omega)) | exact True.intro | exact ⟨rfl, True.intro, fun _ _ => rfl⟩ | exact Nat.le_of_ble_eq_true rfl | (refine ⟨by (try simp only [List.length_cons, List.length_nil]); omega, Int.le_trans (Int.mul_le_mul_of_nonneg_left (show (TInfo.bytes _ : Int) ≤ 64 from Int.ofNat_le.2 (Nat.le_of_ble_eq_true rfl)) (by omega)) (by (try simp only [List.length_cons, List.length_nil]); omega)⟩)) ?_; conv => whnf)))
              · have hiN : i < N := by omega
                have h1 : lab d i = max (lab c k0) (lab c l) := hc.trans (by rw [hl2]; exact mx_eq _ _)
                have h2 : lab c i = max (lab c k0) (lab c l) := by
                  rw [← h1, hd]
                  have := mrgG_at (c := c) (a := min (lab c k0) (lab c l)) (b := max (lab c k0) (lab c l)) (g := i) (i := i) (by omega)
                  rw [if_neg (by omega)] at this
                  exact this.symm
                have hy : ysK = mrgG c (min (lab c k0) (lab c l)) (max (lab c k0) (lab c l)) (i + 1) := by
                  rw [← mrgG_set (by omega) h2, ← hd]
                  exact hysK.trans (by rw [hl2]; exact congrArg (List.set d i) (mn_eq _ _))
                clear hysK
                refine ⟨(i + 1, ysK), ⟨by simp only; omega, hy⟩, by simp only; omega, ?_⟩
                conv => whnf
                refine ⟨?_, by (conv => whnf); repeat (first | exact True.intro | (refine And.intro rfl ?_; conv => whnf)), by (conv => whnf); repeat (first | exact True.intro | (refine And.intro (by first | rfl | (subst_vars; rfl)) ?_; conv => whnf)), rfl, rfl, rfl, rfl, rfl, rfl, rfl, Nat.le_of_ble_eq_true rfl, Nat.le_of_ble_eq_true rfl⟩
                conv => whnf
                repeat (first | exact True.intro | (refine And.intro (by first | rfl | ((conv => whnf); exact congrArg (AVal.int .i64) (by omega)) | ((conv => whnf); exact congrArg (AVal.int .i64) (by simp only [Int.natCast_add, Int.natCast_one]; omega)) | ((conv => whnf); exact congrArg (AVal.irow _) (by first | omega | assumption | (simp only; omega)))) ?_; conv => whnf))
              · have hiN : i < N := by omega
                have h2 : lab c i ≠ max (lab c k0) (lab c l) := fun e => hc (by
                  have h3 : lab d i = max (lab c k0) (lab c l) := by
                    rw [hd]
                    have := mrgG_at (c := c) (a := min (lab c k0) (lab c l)) (b := max (lab c k0) (lab c l)) (g := i) (i := i) (by omega)
                    rw [if_neg (by omega)] at this
                    exact this.trans e
                  exact h3.trans (by rw [hl2]; exact (mx_eq _ _).symm))
                refine ⟨(i + 1, d), ⟨by simp only; omega, by simp only; rw [hd]; exact mrgG_skip (by omega) h2⟩, by simp only; omega, ?_⟩
                conv => whnf
                refine ⟨?_, by (conv => whnf); repeat (first | exact True.intro | (refine And.intro rfl ?_; conv => whnf)), by (conv => whnf); repeat (first | exact True.intro | (refine And.intro (by first | rfl | (subst_vars; rfl)) ?_; conv => whnf)), rfl, rfl, rfl, rfl, rfl, rfl, rfl, Nat.le_of_ble_eq_true rfl, Nat.le_of_ble_eq_true rfl⟩
                conv => whnf
                repeat (first | exact True.intro | (refine And.intro (by first | rfl | ((conv => whnf); exact congrArg (AVal.int .i64) (by omega)) | ((conv => whnf); exact congrArg (AVal.int .i64) (by simp only [Int.natCast_add, Int.natCast_one]; omega)) | ((conv => whnf); exact congrArg (AVal.irow _) (by first | omega | assumption | (simp only; omega)))) ?_; conv => whnf))
              · have hiN : i = c.length := by omega
                have hd2 : d = c.map (mrg (min (lab c k0) (lab c l)) (max (lab c k0) (lab c l))) := by rw [hd, hiN, mrgG_all]
                refine ⟨(k0 + 1, d, es), ⟨by simp only; omega, by simp only; rw [hd2]; exact hP.known (by omega) hl1 hl3, hM.keep hl1 hl3⟩, by simp only; omega, ?_⟩
                conv => whnf
                refine ⟨?_, by (conv => whnf); repeat (first | exact True.intro | (refine And.intro rfl ?_; conv => whnf)), by (conv => whnf); repeat (first | exact True.intro | (refine And.intro (by first | rfl | (subst_vars; rfl)) ?_; conv => whnf)), rfl, rfl, rfl, rfl, rfl, rfl, rfl, Nat.le_of_ble_eq_true rfl, Nat.le_of_ble_eq_true rfl⟩
                conv => whnf
                repeat (first | exact True.intro | (refine And.intro (by first | rfl | ((conv => whnf); exact congrArg (AVal.int .i64) (by omega)) | ((conv => whnf); exact congrArg (AVal.int .i64) (by simp only [Int.natCast_add, Int.natCast_one]; omega)) | ((conv => whnf); exact congrArg (AVal.irow _) (by first | omega | assumption | (simp only; omega)))) ?_; conv => whnf))
          · obtain rfl : N = k0 := by omega
            have hR1 := hP.done
            have hcan2 : Can N c := hP.can
            refine V_loopH (γ := Nat × List Int × List ((ByteArray × ByteArray) × Int)) (fun g => g.1 ≤ N ∧ StP N (c) (qI u (N : Int) (-1)) g.1 g.2.1 ∧ MapI (qI u (N : Int) (-1)) g.1 g.2.2) (fun g => N - g.1)
              (fun g => [(42, .int .i64 g.1)]) (fun g => [(2, [.mps g.2.2])]) (fun g => [(6, some ⟨iT1, 2, true, g.2.1⟩)]) (0, c, []) ⟨Nat.zero_le _, StP.start _ hcan2, ⟨fun e he => absurd he (List.not_mem_nil), fun l hl => absurd hl (Nat.not_lt_zero _)⟩⟩ ?_ ?_
            · conv => whnf
              refine ⟨?_, by (conv => whnf); repeat (first | exact True.intro | (refine And.intro rfl ?_; conv => whnf)), by (conv => whnf); repeat (first | exact True.intro | (refine And.intro (by first | rfl | (subst_vars; rfl)) ?_; conv => whnf)), rfl, rfl, rfl, rfl, rfl, rfl, rfl, Nat.le_of_ble_eq_true rfl, Nat.le_of_ble_eq_true rfl⟩
              conv => whnf
              repeat (first | exact True.intro | (refine And.intro (by first | rfl | ((conv => whnf); exact congrArg (AVal.int .i64) (by omega)) | ((conv => whnf); exact congrArg (AVal.int .i64) (by simp only [Int.natCast_add, Int.natCast_one]; omega)) | ((conv => whnf); exact congrArg (AVal.irow _) (by first | omega | assumption | (simp only; omega)))) ?_; conv => whnf))
            · rintro ⟨k0, c2, es⟩ ⟨hk0, hP2, hM⟩
              simp only at hk0 hP2 hM
              have hcl := hP2.can.len
              have hcl' : (List.length (α := Int) c2 : Int) = N := by rw [hcl]
              have hval : ∀ s : Sq, s = qI u (N : Int) (-1) k0 → hasM es s.1 s.2 = true → 0 ≤ valM es s.1 s.2 ∧ valM es s.1 s.2 < (List.length (α := Int) c2 : Int) := fun s e h => by
                subst e
                obtain ⟨l, h1, h2, _⟩ := hM.some h
                rw [h2]; omega
              have hval2 : ∀ s : Sq, s = qI u (N : Int) (-1) k0 → hasM es s.1 s.2 = true → (valM es s.1 s.2).toNat < List.length (α := Int) c2 := fun s e h => by
                have := hval s e h
                omega
              conv => whnf
              refine vcCode_sound T_ok (GOk.cons itn1_ok .nil) _ _ _ _ _ ?_
              conv => whnf
              repeat (refine V_step T_ok (GOk.cons itn1_ok .nil) rfl ?_; conv => whnf)
              repeat (any_goals (first
                | (refine V_step T_ok (GOk.cons itn1_ok .nil) rfl ?_; conv => whnf)
                | (refine V_drawA T_ok (GOk.cons itn1_ok .nil) mixed (by kernel_rfl) ?_; conv => whnf)
                | (refine bcond_split (fun hc => ?_) (fun hc => ?_) <;> (try simp only [decide_eq_true_eq, decide_eq_false_iff_not, Bool.not_eq_true', Bool.not_eq_false', Bool.and_eq_true, Bool.or_eq_true, Bool.and_eq_false_imp, Bool.or_eq_false_iff, ne_eq, Decidable.not_not] at hc) <;> conv => whnf)
                | (intro ysK hysK; have hysl := congrArg List.length hysK; (try simp only [List.length_set, List.length_append, List.length_cons, List.length_nil, List.length_take, List.length_drop, List.length_replicate] at hysl); conv => whnf)
                | (intro bK hbK; have hbl := congrArg ByteArray.size hbK; conv => whnf)
                | (intro sK hsK; conv => whnf)
                | (refine And.intro (by first | (first | exact True.intro | omega | exact hpre2 k0 (by omega) | exact hval _ hsK (by assumption) | exact hval2 _ hsK (by assumption) | (with_reducible assumption) | (simp only [Rng]; omega)) | exact True.intro | exact ⟨rfl, True.intro, fun _ _ => rfl⟩ | exact Nat.le_of_ble_eq_true rfl | (refine ⟨by (try simp only [List.length_cons, List.length_nil]); omega, Int.le_trans (Int.mul_le_mul_of_nonneg_left (show (TInfo.bytes _ : Int) ≤ 64 from Int.ofNat_le.2 (Nat.le_of_ble_eq_true rfl)) (by omega)) (by (try simp only [List.length_cons, List.length_nil]); omega)⟩)) ?_; conv => whnf)))
              · have e9 : sK = qI u (N : Int) (-1) k0 := hsK
                clear hsK
                subst e9
                refine ⟨(k0 + 1, c2, es ++ [(qI u (N : Int) (-1) k0, (k0 : Int))]), ⟨by simp only; omega, hP2.new (hM.none hc), hM.push⟩, by simp only; omega, ?_⟩
                conv => whnf
                refine ⟨?_, by (conv => whnf); repeat (first | exact True.intro | (refine And.intro rfl ?_; conv => whnf)), by (conv => whnf); repeat (first | exact True.intro | (refine And.intro (by first | rfl | (subst_vars; rfl)) ?_; conv => whnf)), rfl, rfl, rfl, rfl, rfl, rfl, rfl, Nat.le_of_ble_eq_true rfl, Nat.le_of_ble_eq_true rfl⟩
                conv => whnf
                repeat (first | exact True.intro | (refine And.intro (by first | rfl | ((conv => whnf); exact congrArg (AVal.int .i64) (by omega)) | ((conv => whnf); exact congrArg (AVal.int .i64) (by simp only [Int.natCast_add, Int.natCast_one]; omega)) | ((conv => whnf); exact congrArg (AVal.irow _) (by first | omega | assumption | (simp only; omega)))) ?_; conv => whnf))
              · have e9 : sK = qI u (N : Int) (-1) k0 := hsK
                clear hsK hval hval2
                subst e9
                obtain ⟨l, hl1, hl2, hl3⟩ := hM.some hc
                refine V_loopH (γ := Nat × List Int) (fun g => g.1 ≤ N ∧ g.2 = mrgG c2 (min (lab c2 k0) (lab c2 l)) (max (lab c2 k0) (lab c2 l)) g.1) (fun g => N - g.1)
                  (fun g => [(79, .int .i64 g.1)]) (fun _ => []) (fun g => [(6, some ⟨iT1, 2, true, g.2⟩)]) (0, c2) ⟨Nat.zero_le _, (mrgG_zero _ _ _).symm⟩ ?_ ?_
                · conv => whnf
                  refine ⟨?_, by (conv => whnf); repeat (first | exact True.intro | (refine And.intro rfl ?_; conv => whnf)), by (conv => whnf); repeat (first | exact True.intro | (refine And.intro (by first | rfl | (subst_vars; rfl)) ?_; conv => whnf)), rfl, rfl, rfl, rfl, rfl, rfl, rfl, Nat.le_of_ble_eq_true rfl, Nat.le_of_ble_eq_true rfl⟩
                  conv => whnf
                  repeat (first | exact True.intro | (refine And.intro (by first | rfl | ((conv => whnf); exact congrArg (AVal.int .i64) (by omega)) | ((conv => whnf); exact congrArg (AVal.int .i64) (by simp only [Int.natCast_add, Int.natCast_one]; omega)) | ((conv => whnf); exact congrArg (AVal.irow _) (by first | omega | assumption | (simp only; omega)))) ?_; conv => whnf))
                · rintro ⟨i, d⟩ ⟨hi, hd⟩
                  simp only at hi hd
                  have hdl : (List.length (α := Int) d : Int) = N := by rw [hd, mrgG_len, hcl]
                  conv => whnf
                  refine vcCode_sound T_ok (GOk.cons itn1_ok .nil) _ _ _ _ _ ?_
                  conv => whnf
                  repeat (refine V_step T_ok (GOk.cons itn1_ok .nil) rfl ?_; conv => whnf)
                  repeat (any_goals (first
                    | (refine V_step T_ok (GOk.cons itn1_ok .nil) rfl ?_; conv => whnf)
                    | (refine V_drawA T_ok (GOk.cons itn1_ok .nil) mixed (by kernel_rfl) ?_; conv => whnf)
                    | (refine bcond_split (fun hc => ?_) (fun hc => ?_) <;> (try simp only [decide_eq_true_eq, decide_eq_false_iff_not, Bool.not_eq_true', Bool.not_eq_false', Bool.and_eq_true, Bool.or_eq_true, Bool.and_eq_false_imp, Bool.or_eq_false_iff, ne_eq, Decidable.not_not] at hc) <;> conv => whnf)
                    | (intro ysK hysK; have hysl := congrArg List.length hysK; (try simp only [List.length_set, List.length_append, List.length_cons, List.length_nil, List.length_take, List.length_drop, List.length_replicate] at hysl); conv => whnf)
                    | (intro bK hbK; have hbl := congrArg ByteArray.size hbK; conv => whnf)
                    | (intro sK hsK; conv => whnf)
                    | (refine And.intro (by first | (first | exact True.intro | omega | (simp only [Rng]; omega)) | exact True.intro | exact ⟨rfl, True.intro, fun _ _ => rfl⟩ | exact Nat.le_of_ble_eq_true rfl | (refine ⟨by (try simp only [List.length_cons, List.length_nil]); omega, Int.le_trans (Int.mul_le_mul_of_nonneg_left (show (TInfo.bytes _ : Int) ≤ 64 from Int.ofNat_le.2 (Nat.le_of_ble_eq_true rfl)) (by omega)) (by (try simp only [List.length_cons, List.length_nil]); omega)⟩)) ?_; conv => whnf)))
                  · have hiN : i < N := by omega
                    have h1 : lab d i = max (lab c2 k0) (lab c2 l) := hc.trans (by rw [hl2]; exact mx_eq _ _)
                    have h2 : lab c2 i = max (lab c2 k0) (lab c2 l) := by
                      rw [← h1, hd]
                      have := mrgG_at (c := c2) (a := min (lab c2 k0) (lab c2 l)) (b := max (lab c2 k0) (lab c2 l)) (g := i) (i := i) (by omega)
                      rw [if_neg (by omega)] at this
                      exact this.symm
                    have hy : ysK = mrgG c2 (min (lab c2 k0) (lab c2 l)) (max (lab c2 k0) (lab c2 l)) (i + 1) := by
                      rw [← mrgG_set (by omega) h2, ← hd]
                      exact hysK.trans (by rw [hl2]; exact congrArg (List.set d i) (mn_eq _ _))
                    clear hysK
                    refine ⟨(i + 1, ysK), ⟨by simp only; omega, hy⟩, by simp only; omega, ?_⟩
                    conv => whnf
                    refine ⟨?_, by (conv => whnf); repeat (first | exact True.intro | (refine And.intro rfl ?_; conv => whnf)), by (conv => whnf); repeat (first | exact True.intro | (refine And.intro (by first | rfl | (subst_vars; rfl)) ?_; conv => whnf)), rfl, rfl, rfl, rfl, rfl, rfl, rfl, Nat.le_of_ble_eq_true rfl, Nat.le_of_ble_eq_true rfl⟩
                    conv => whnf
                    repeat (first | exact True.intro | (refine And.intro (by first | rfl | ((conv => whnf); exact congrArg (AVal.int .i64) (by omega)) | ((conv => whnf); exact congrArg (AVal.int .i64) (by simp only [Int.natCast_add, Int.natCast_one]; omega)) | ((conv => whnf); exact congrArg (AVal.irow _) (by first | omega | assumption | (simp only; omega)))) ?_; conv => whnf))
                  · have hiN : i < N := by omega
                    have h2 : lab c2 i ≠ max (lab c2 k0) (lab c2 l) := fun e => hc (by
                      have h3 : lab d i = max (lab c2 k0) (lab c2 l) := by
                        rw [hd]
                        have := mrgG_at (c := c2) (a := min (lab c2 k0) (lab c2 l)) (b := max (lab c2 k0) (lab c2 l)) (g := i) (i := i) (by omega)
                        rw [if_neg (by omega)] at this
                        exact this.trans e
                      exact h3.trans (by rw [hl2]; exact (mx_eq _ _).symm))
                    refine ⟨(i + 1, d), ⟨by simp only; omega, by simp only; rw [hd]; exact mrgG_skip (by omega) h2⟩, by simp only; omega, ?_⟩
                    conv => whnf
                    refine ⟨?_, by (conv => whnf); repeat (first | exact True.intro | (refine And.intro rfl ?_; conv => whnf)), by (conv => whnf); repeat (first | exact True.intro | (refine And.intro (by first | rfl | (subst_vars; rfl)) ?_; conv => whnf)), rfl, rfl, rfl, rfl, rfl, rfl, rfl, Nat.le_of_ble_eq_true rfl, Nat.le_of_ble_eq_true rfl⟩
                    conv => whnf
                    repeat (first | exact True.intro | (refine And.intro (by first | rfl | ((conv => whnf); exact congrArg (AVal.int .i64) (by omega)) | ((conv => whnf); exact congrArg (AVal.int .i64) (by simp only [Int.natCast_add, Int.natCast_one]; omega)) | ((conv => whnf); exact congrArg (AVal.irow _) (by first | omega | assumption | (simp only; omega)))) ?_; conv => whnf))
                  · have hiN : i = c2.length := by omega
                    have hd2 : d = c2.map (mrg (min (lab c2 k0) (lab c2 l)) (max (lab c2 k0) (lab c2 l))) := by rw [hd, hiN, mrgG_all]
                    refine ⟨(k0 + 1, d, es), ⟨by simp only; omega, by simp only; rw [hd2]; exact hP2.known (by omega) hl1 hl3, hM.keep hl1 hl3⟩, by simp only; omega, ?_⟩
                    conv => whnf
                    refine ⟨?_, by (conv => whnf); repeat (first | exact True.intro | (refine And.intro rfl ?_; conv => whnf)), by (conv => whnf); repeat (first | exact True.intro | (refine And.intro (by first | rfl | (subst_vars; rfl)) ?_; conv => whnf)), rfl, rfl, rfl, rfl, rfl, rfl, rfl, Nat.le_of_ble_eq_true rfl, Nat.le_of_ble_eq_true rfl⟩
                    conv => whnf
                    repeat (first | exact True.intro | (refine And.intro (by first | rfl | ((conv => whnf); exact congrArg (AVal.int .i64) (by omega)) | ((conv => whnf); exact congrArg (AVal.int .i64) (by simp only [Int.natCast_add, Int.natCast_one]; omega)) | ((conv => whnf); exact congrArg (AVal.irow _) (by first | omega | assumption | (simp only; omega)))) ?_; conv => whnf))
              · obtain rfl : N = k0 := by omega
                have hR2 := hP2.done
                have hC := hP2.can
                have hb8 : (ti2.bytes : Int) = 8 := rfl
                have hb24 : (ti41.bytes : Int) = 24 := rfl
                refine V_loopP (γ := Nat) (fun g => g ≤ N) (fun g => N - g) (fun g => [(96, .int .i64 g), (17, .row 7)]) (fun _ => []) (fun _ => []) (fun g => [some ⟨rT1, 41, true, clsG N c2 g⟩]) 0 (Nat.zero_le _) ?_ ?_
                · conv => whnf
                  refine ⟨?_, by (conv => whnf); repeat (first | exact True.intro | (refine And.intro rfl ?_; conv => whnf)), by (conv => whnf); repeat (first | exact True.intro | (refine And.intro (by first | rfl | (subst_vars; rfl)) ?_; conv => whnf)), rfl, rfl, rfl, rfl, rfl, rfl, rfl, Nat.le_of_ble_eq_true rfl, Nat.le_of_ble_eq_true rfl⟩
                  conv => whnf
                  repeat (first | exact True.intro | (refine And.intro (by first | rfl | ((conv => whnf); exact congrArg (AVal.int .i64) (by omega)) | ((conv => whnf); exact congrArg (AVal.int .i64) (by simp only [Int.natCast_add, Int.natCast_one]; omega)) | ((conv => whnf); exact congrArg (AVal.irow _) (by first | omega | assumption | (simp only; omega)))) ?_; conv => whnf))
                · rintro g hg
                  have hgl := clsG_len N c2 g
                  conv => whnf
                  refine vcCode_sound T_ok (GOk.cons itn1_ok .nil) _ _ _ _ _ ?_
                  conv => whnf
                  repeat (refine V_step T_ok (GOk.cons itn1_ok .nil) rfl ?_; conv => whnf)
                  repeat (any_goals (first
                    | (refine V_step T_ok (GOk.cons itn1_ok .nil) rfl ?_; conv => whnf)
                    | (refine V_drawA T_ok (GOk.cons itn1_ok .nil) mixed (by kernel_rfl) ?_; conv => whnf)
                    | (refine bcond_split (fun hc => ?_) (fun hc => ?_) <;> (try simp only [decide_eq_true_eq, decide_eq_false_iff_not, Bool.not_eq_true', Bool.not_eq_false', Bool.and_eq_true, Bool.or_eq_true, Bool.and_eq_false_imp, Bool.or_eq_false_iff, ne_eq, Decidable.not_not] at hc) <;> conv => whnf)
                    | (intro ysK hysK; have hysl := congrArg List.length hysK; (try simp only [List.length_set, List.length_append, List.length_cons, List.length_nil, List.length_take, List.length_drop, List.length_replicate] at hysl); conv => whnf)
                    | (intro bK hbK; have hbl := congrArg ByteArray.size hbK; conv => whnf)
                    | (intro sK hsK; conv => whnf)
                    | (refine And.intro (by first | (first | exact True.intro | omega | (simp only [Rng]; omega)) | exact True.intro | exact ⟨rfl, True.intro, fun _ _ => rfl⟩ | exact Nat.le_of_ble_eq_true rfl | (refine ⟨by (try simp only [List.length_cons, List.length_nil]); omega, Int.le_trans (Int.mul_le_mul_of_nonneg_left (show (TInfo.bytes _ : Int) ≤ 64 from Int.ofNat_le.2 (Nat.le_of_ble_eq_true rfl)) (by omega)) (by (try simp only [List.length_cons, List.length_nil]); omega)⟩)) ?_; conv => whnf)))
                  · have hgN : g < N := by omega
                    refine V_loopP (γ := Nat) (fun h => h ≤ N) (fun h => N - h) (fun h => [(101, .int .i64 h), (19, .row 8)]) (fun _ => []) (fun _ => []) (fun h => [some ⟨iT1, 2, true, ownL c2 g h⟩]) 0 (Nat.zero_le _) ?_ ?_
                    · conv => whnf
                      refine ⟨?_, by (conv => whnf); repeat (first | exact True.intro | (refine And.intro rfl ?_; conv => whnf)), by (conv => whnf); repeat (first | exact True.intro | (refine And.intro (by first | rfl | (subst_vars; rfl)) ?_; conv => whnf)), rfl, rfl, rfl, rfl, rfl, rfl, rfl, Nat.le_of_ble_eq_true rfl, Nat.le_of_ble_eq_true rfl⟩
                      conv => whnf
                      repeat (first | exact True.intro | (refine And.intro (by first | rfl | ((conv => whnf); exact congrArg (AVal.int .i64) (by omega)) | ((conv => whnf); exact congrArg (AVal.int .i64) (by simp only [Int.natCast_add, Int.natCast_one]; omega)) | ((conv => whnf); exact congrArg (AVal.irow _) (by first | omega | assumption | (simp only; omega)))) ?_; conv => whnf))
                    · rintro h hh
                      have hol := ownL_len c2 g h
                      conv => whnf
                      refine vcCode_sound T_ok (GOk.cons itn1_ok .nil) _ _ _ _ _ ?_
                      conv => whnf
                      repeat (refine V_step T_ok (GOk.cons itn1_ok .nil) rfl ?_; conv => whnf)
                      repeat (any_goals (first
                        | (refine V_step T_ok (GOk.cons itn1_ok .nil) rfl ?_; conv => whnf)
                        | (refine V_drawA T_ok (GOk.cons itn1_ok .nil) mixed (by kernel_rfl) ?_; conv => whnf)
                        | (refine bcond_split (fun hc => ?_) (fun hc => ?_) <;> (try simp only [decide_eq_true_eq, decide_eq_false_iff_not, Bool.not_eq_true', Bool.not_eq_false', Bool.and_eq_true, Bool.or_eq_true, Bool.and_eq_false_imp, Bool.or_eq_false_iff, ne_eq, Decidable.not_not] at hc) <;> conv => whnf)
                        | (intro ysK hysK; have hysl := congrArg List.length hysK; (try simp only [List.length_set, List.length_append, List.length_cons, List.length_nil, List.length_take, List.length_drop, List.length_replicate] at hysl); conv => whnf)
                        | (intro bK hbK; have hbl := congrArg ByteArray.size hbK; conv => whnf)
                        | (intro sK hsK; conv => whnf)
                        | (refine And.intro (by first | (first | exact True.intro | omega | exact hapI (by rw [hb8]; omega) (by rw [hb8]; omega) _ _ (Nat.le_trans hol (by omega)) (by simp only [List.length_cons, List.length_nil]; omega) | exact hapI (by rw [hb24]; omega) (by rw [hb24]; omega) _ _ (Nat.le_trans hgl (by omega)) (by simp only [List.length_cons, List.length_nil]; omega) | (simp only [Rng]; omega)) | exact True.intro | exact ⟨rfl, True.intro, fun _ _ => rfl⟩ | exact Nat.le_of_ble_eq_true rfl | (refine ⟨by (try simp only [List.length_cons, List.length_nil]); omega, Int.le_trans (Int.mul_le_mul_of_nonneg_left (show (TInfo.bytes _ : Int) ≤ 64 from Int.ofNat_le.2 (Nat.le_of_ble_eq_true rfl)) (by omega)) (by (try simp only [List.length_cons, List.length_nil]); omega)⟩)) ?_; conv => whnf)))
                      · have h1 : lab c2 h = (g : Int) := hc
                        have hy : ysK = ownL c2 g (h + 1) := by rw [ownL_next, if_pos h1]; exact hysK
                        clear hysK
                        subst hy
                        refine ⟨h + 1, by omega, by omega, ?_⟩
                        conv => whnf
                        refine ⟨?_, by (conv => whnf); repeat (first | exact True.intro | (refine And.intro rfl ?_; conv => whnf)), by (conv => whnf); repeat (first | exact True.intro | (refine And.intro (by first | rfl | (subst_vars; rfl)) ?_; conv => whnf)), rfl, rfl, rfl, rfl, rfl, rfl, rfl, Nat.le_of_ble_eq_true rfl, Nat.le_of_ble_eq_true rfl⟩
                        conv => whnf
                        repeat (first | exact True.intro | (refine And.intro (by first | rfl | ((conv => whnf); exact congrArg (AVal.int .i64) (by omega)) | ((conv => whnf); exact congrArg (AVal.int .i64) (by simp only [Int.natCast_add, Int.natCast_one]; omega)) | ((conv => whnf); exact congrArg (AVal.irow _) (by first | omega | assumption | (simp only; omega)))) ?_; conv => whnf))
                      · have h1 : ¬ lab c2 h = (g : Int) := hc
                        have hy : ownL c2 g h = ownL c2 g (h + 1) := by rw [ownL_next, if_neg h1]
                        refine ⟨h + 1, by omega, by omega, ?_⟩
                        rw [hy]
                        conv => whnf
                        refine ⟨?_, by (conv => whnf); repeat (first | exact True.intro | (refine And.intro rfl ?_; conv => whnf)), by (conv => whnf); repeat (first | exact True.intro | (refine And.intro (by first | rfl | (subst_vars; rfl)) ?_; conv => whnf)), rfl, rfl, rfl, rfl, rfl, rfl, rfl, Nat.le_of_ble_eq_true rfl, Nat.le_of_ble_eq_true rfl⟩
                        conv => whnf
                        repeat (first | exact True.intro | (refine And.intro (by first | rfl | ((conv => whnf); exact congrArg (AVal.int .i64) (by omega)) | ((conv => whnf); exact congrArg (AVal.int .i64) (by simp only [Int.natCast_add, Int.natCast_one]; omega)) | ((conv => whnf); exact congrArg (AVal.irow _) (by first | omega | assumption | (simp only; omega)))) ?_; conv => whnf))
                      · obtain rfl : N = h := by omega
                        have h1 : lab c2 g = (g : Int) := (ownL_ne hC hgN).1 (fun e => by
                          have hc : (0 : Int) < (List.length (α := Int) (ownL c2 g N) : Int) := hc
                          rw [e] at hc; simp at hc)
                        have hy : ysK = clsG N c2 (g + 1) := by rw [clsG_next, if_pos h1]; exact hysK
                        clear hysK
                        subst hy
                        refine ⟨g + 1, by omega, by omega, ?_⟩
                        conv => whnf
                        refine ⟨?_, by (conv => whnf); repeat (first | exact True.intro | (refine And.intro rfl ?_; conv => whnf)), by (conv => whnf); repeat (first | exact True.intro | (refine And.intro (by first | rfl | (subst_vars; rfl)) ?_; conv => whnf)), rfl, rfl, rfl, rfl, rfl, rfl, rfl, Nat.le_of_ble_eq_true rfl, Nat.le_of_ble_eq_true rfl⟩
                        conv => whnf
                        repeat (first | exact True.intro | (refine And.intro (by first | rfl | ((conv => whnf); exact congrArg (AVal.int .i64) (by omega)) | ((conv => whnf); exact congrArg (AVal.int .i64) (by simp only [Int.natCast_add, Int.natCast_one]; omega)) | ((conv => whnf); exact congrArg (AVal.irow _) (by first | omega | assumption | (simp only; omega)))) ?_; conv => whnf))
                      · obtain rfl : N = h := by omega
                        have h1 : ¬ lab c2 g = (g : Int) := fun e => (ownL_ne hC hgN).2 e (by
                          have hc : ¬ (0 : Int) < (List.length (α := Int) (ownL c2 g N) : Int) := hc
                          exact List.eq_nil_of_length_eq_zero (by omega))
                        have hy : clsG N c2 g = clsG N c2 (g + 1) := by rw [clsG_next, if_neg h1]
                        refine ⟨g + 1, by omega, by omega, ?_⟩
                        rw [hy]
                        conv => whnf
                        refine ⟨?_, by (conv => whnf); repeat (first | exact True.intro | (refine And.intro rfl ?_; conv => whnf)), by (conv => whnf); repeat (first | exact True.intro | (refine And.intro (by first | rfl | (subst_vars; rfl)) ?_; conv => whnf)), rfl, rfl, rfl, rfl, rfl, rfl, rfl, Nat.le_of_ble_eq_true rfl, Nat.le_of_ble_eq_true rfl⟩
                        conv => whnf
                        repeat (first | exact True.intro | (refine And.intro (by first | rfl | ((conv => whnf); exact congrArg (AVal.int .i64) (by omega)) | ((conv => whnf); exact congrArg (AVal.int .i64) (by simp only [Int.natCast_add, Int.natCast_one]; omega)) | ((conv => whnf); exact congrArg (AVal.irow _) (by first | omega | assumption | (simp only; omega)))) ?_; conv => whnf))
                  · obtain rfl : N = g := by omega
                    exact leaf1 7 rfl rfl (congrArg (fun ys => (⟨rT1, 41, true, ys⟩ : Row)) (fin2 hR1 hR2)) rfl (fun B C h => by simp [AVal.den, h])
end Go.Proofs.Ytllagpbbbdekiac.Fw
