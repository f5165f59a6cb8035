/- Plain laws: crossing leaves, laminations, the longest leaf. No program. -/
import Derived.Test.YtlplngafncobkaaM2
namespace Go.Proofs.Ytlplngafncobkaa.Fw
set_option linter.unusedVariables false
set_option linter.unusedSimpArgs false

theorem val_lt {a b : Ang} {P pa pb : Int} (ha : a.2 * pa = P) (hb : b.2 * pb = P) (h1 : 0 < pa) (h2 : 0 < pb) (h3 : 0 < P) : lessA a b ↔ a.1 * pa < b.1 * pb := by
  unfold lessA
  have e1 : a.1 * b.2 * (pa * pb) = a.1 * pa * P := by rw [← hb]; ac_rfl
  have e2 : b.1 * a.2 * (pa * pb) = b.1 * pb * P := by rw [← ha]; ac_rfl
  have hp : 0 < pa * pb := Int.mul_pos h1 h2
  constructor
  · intro h
    have := Int.mul_lt_mul_of_pos_right h hp
    rw [e1, e2] at this
    exact Int.lt_of_mul_lt_mul_right this (by omega)
  · intro h
    have := Int.mul_lt_mul_of_pos_right h h3
    rw [← e1, ← e2] at this
    exact Int.lt_of_mul_lt_mul_right this (by omega)

theorem IsA.eq_iff {a b : Ang} (ha : IsA a) (hb : IsA b) : a = b ↔ ¬ lessA a b ∧ ¬ lessA b a := by
  constructor
  · intro h; subst h; unfold lessA; omega
  · intro ⟨h1, h2⟩
    unfold lessA at h1 h2
    exact frac_eq ha.1.1 hb.1.1 (by have := ha.2.2; omega) (by have := hb.2.2; omega) (by omega)

theorem four {a b c d : Ang} (ha : IsA a) (hb : IsA b) (hc : IsA c) (hd : IsA d) : ∃ A B C D : Int,
    (lessA a b ↔ A < B) ∧ (lessA b a ↔ B < A) ∧ (lessA a c ↔ A < C) ∧ (lessA c a ↔ C < A) ∧ (lessA a d ↔ A < D) ∧ (lessA d a ↔ D < A) ∧
    (lessA b c ↔ B < C) ∧ (lessA c b ↔ C < B) ∧ (lessA b d ↔ B < D) ∧ (lessA d b ↔ D < B) ∧ (lessA c d ↔ C < D) ∧ (lessA d c ↔ D < C) := by
  have pa : 0 < a.2 := by have := ha.1.1; omega
  have pb : 0 < b.2 := by have := hb.1.1; omega
  have pc : 0 < c.2 := by have := hc.1.1; omega
  have pd : 0 < d.2 := by have := hd.1.1; omega
  have qa : a.2 * (b.2 * c.2 * d.2) = a.2 * b.2 * c.2 * d.2 := by ac_rfl
  have qb : b.2 * (a.2 * c.2 * d.2) = a.2 * b.2 * c.2 * d.2 := by ac_rfl
  have qc : c.2 * (a.2 * b.2 * d.2) = a.2 * b.2 * c.2 * d.2 := by ac_rfl
  have qd : d.2 * (a.2 * b.2 * c.2) = a.2 * b.2 * c.2 * d.2 := by ac_rfl
  have ra : 0 < b.2 * c.2 * d.2 := Int.mul_pos (Int.mul_pos pb pc) pd
  have rb : 0 < a.2 * c.2 * d.2 := Int.mul_pos (Int.mul_pos pa pc) pd
  have rc : 0 < a.2 * b.2 * d.2 := Int.mul_pos (Int.mul_pos pa pb) pd
  have rd : 0 < a.2 * b.2 * c.2 := Int.mul_pos (Int.mul_pos pa pb) pc
  have rp : 0 < a.2 * b.2 * c.2 * d.2 := Int.mul_pos rd pd
  exact ⟨_, _, _, _, val_lt qa qb ra rb rp, val_lt qb qa rb ra rp, val_lt qa qc ra rc rp, val_lt qc qa rc ra rp, val_lt qa qd ra rd rp, val_lt qd qa rd ra rp,
    val_lt qb qc rb rc rp, val_lt qc qb rc rb rp, val_lt qb qd rb rd rp, val_lt qd qb rd rb rp, val_lt qc qd rc rd rp, val_lt qd qc rd rc rp⟩

theorem cross_eq {l m : Lf} (hl : IsL l) (hm : IsL m) : crossL l m = sCrossL l m := by
  obtain ⟨h1, h2, h3⟩ := hl
  obtain ⟨h4, h5, h6⟩ := hm
  obtain ⟨a, b⟩ := l
  obtain ⟨c, d⟩ := m
  simp only at *
  unfold crossL sCrossL
  simp only
  rw [order_eq h1 h4 h2, order_eq h1 h5 h2]
  obtain ⟨A, B, C, D, e1, e2, e3, e4, e5, e6, e7, e8, e9, e10, e11, e12⟩ := four h1 h2 h4 h5
  simp only [IsA.eq_iff h1 h2, IsA.eq_iff h1 h4, IsA.eq_iff h4 h2, IsA.eq_iff h1 h5, IsA.eq_iff h5 h2, IsA.eq_iff h2 h4, IsA.eq_iff h2 h5, sWithinA, e1, e2, e3, e4, e5, e6, e7, e8, e9, e10, e11, e12] at *
  simp only [h3, h6, if_true, Bool.and_eq_true, decide_eq_true_eq]
  by_cases k1 : A < C <;> by_cases k2 : C < A <;> by_cases k3 : A < D <;> by_cases k4 : D < A <;> by_cases k5 : B < C <;> by_cases k6 : C < B <;> by_cases k7 : B < D <;> by_cases k8 : D < B <;> first | omega | (simp [k1, k2, k3, k4, k5, k6, k7, k8, h3, h6, show ¬ B < A by omega] <;> omega) | simp [k1, k2, k3, k4, k5, k6, k7, k8, h3, h6, show ¬ B < A by omega]

theorem cmpL_less {l m : Lf} (hl : IsL l) (hm : IsL m) : decide (0 ≤ cmpL l m) = !sLessL l m := by
  have he : cmpA l.1 m.1 = 0 ↔ l.1 = m.1 := by
    rw [IsA.eq_iff hl.1 hm.1]
    exact (cmpI_zero _ _).trans (by unfold lessA; omega)
  unfold cmpL sLessL
  by_cases h : l.1 = m.1
  · rw [if_pos (he.2 h), if_pos h]
    have := cmpA_less l.2 m.2
    by_cases h2 : lessA l.2 m.2
    · simp [h2]; exact this.2 h2
    · have h3 := mt this.1 h2; simp [h2]; omega
  · rw [if_neg (fun e => h (he.1 e)), if_neg h]
    have := cmpA_less l.1 m.1
    by_cases h2 : lessA l.1 m.1
    · simp [h2]; exact this.2 h2
    · have h3 := mt this.1 h2; simp [h2]; omega

theorem okAt_eq {xs : List Lf} (h : ∀ x ∈ xs, IsL x) {i : Nat} (hi : i < xs.length) : okAt xs i = sOkAt xs i := by
  have hg : ∀ j, j < xs.length → IsL (xs.getD j dL) := fun j hj => h _ (getD_mem hj)
  have hany : (xs.take i).any (crossL (xs.getD i dL)) = (xs.take i).any (sCrossL (xs.getD i dL)) := by
    rw [Bool.eq_iff_iff, List.any_eq_true, List.any_eq_true]
    constructor
    · rintro ⟨x, hx, hc⟩; exact ⟨x, hx, by rw [← cross_eq (hg i hi) (h x (List.mem_of_mem_take hx))]; exact hc⟩
    · rintro ⟨x, hx, hc⟩; exact ⟨x, hx, by rw [cross_eq (hg i hi) (h x (List.mem_of_mem_take hx))]; exact hc⟩
  show (!((decide (0 < i) && decide (0 ≤ cmpL (xs.getD (i - 1) dL) (xs.getD i dL))) || (xs.take i).any (crossL (xs.getD i dL)))) = _
  rw [hany, cmpL_less (hg (i - 1) (by omega)) (hg i hi), sOkAt, decide_eq_true (hg i hi), Bool.not_or, Bool.not_and, Bool.not_not, Bool.true_and]

theorem lam_eq (xs : List Lf) : lamL xs = sLamL xs := by
  unfold lamL sLamL
  congr 1
  by_cases h : ∀ x ∈ xs, IsL x
  · have h1 : xs.all allLY = true := List.all_eq_true.2 fun x hx => by simp only [allLY]; exact decide_eq_true (h x hx)
    rw [h1, Bool.true_and, Bool.eq_iff_iff, List.all_eq_true, List.all_eq_true]
    constructor
    · intro h2 j hj; rw [← okAt_eq h (List.mem_range.1 hj)]; exact h2 j hj
    · intro h2 j hj; rw [okAt_eq h (List.mem_range.1 hj)]; exact h2 j hj
  · have h1 : xs.all allLY = false := by
      rw [Bool.eq_false_iff]
      intro h2
      exact h fun x hx => by
        have := List.all_eq_true.1 h2 x hx
        simpa [allLY] using this
    rw [h1, Bool.false_and, eq_comm, Bool.eq_false_iff]
    intro h2
    apply h
    intro x hx
    obtain ⟨j, hj, rfl⟩ := List.mem_iff_getElem.1 hx
    have := sOkAt_isL (List.all_eq_true.1 h2 j (List.mem_range.2 hj))
    rw [List.getD_eq_getElem?_getD, List.getElem?_eq_getElem hj] at this
    exact this

theorem neg_ofQ (n d : Int) (hd : 1 ≤ d) : ofQ (-(ofQ n d).1) (ofQ n d).2 = ofQ (-n) d := by
  have b1 := (ofQ_bd n d hd).2.1
  have c := ofQ_cross n d hd
  have g1 := ofQ_gcd (-(ofQ n d).1) (ofQ n d).2 b1
  have g2 := ofQ_gcd (-n) d hd
  have k1 := cmp_ofQ (-(ofQ n d).1) (ofQ n d).2 (-n) d b1 hd
  have k2 := cmp_ofQ (-n) d (-(ofQ n d).1) (ofQ n d).2 hd b1
  have key : (-(ofQ n d).1) % (ofQ n d).2 * d = (-n) % d * (ofQ n d).2 := by
    rw [← emod_mul_right _ _ d (by omega), Int.neg_mul, c, ← Int.neg_mul, Int.mul_comm (ofQ n d).2 d, emod_mul_right _ _ _ (by omega : 0 < (ofQ n d).2)]
    congr 1
    rw [show -(n % d) = -n + d * (n / d) by rw [Int.emod_def]; omega, Int.add_mul_emod_self_left]
  refine frac_eq (ofQ_bd _ _ b1).2.1 (ofQ_bd _ _ hd).2.1 g1 g2 ?_
  unfold lessA at k1 k2
  omega

theorem sDist_eq {a b : Ang} (ha : IsA a) (hb : IsA b) : sDistA a b = distA a b := by
  have hp := mulPos ha.1.1 hb.1.1
  have e1 : ofQ (b.1 * a.2 - a.1 * b.2) (a.2 * b.2) = minusA b a := by unfold minusA; rw [Int.mul_comm a.2 b.2]
  have e2 : ofQ (-(minusA b a).1) (minusA b a).2 = minusA a b := by
    rw [← e1, neg_ofQ _ _ hp]
    unfold minusA
    congr 1; omega
  unfold sDistA distA
  rw [e1, e2]
  by_cases h : lessA (minusA a b) (minusA b a)
  · rw [if_pos h, if_pos ((cmpA_less _ _).2 h)]
  · rw [if_neg h, if_neg (fun h' => h ((cmpA_less _ _).1 h'))]

theorem longer_eq {b l : Lf} (hb : IsL b) (hl : IsL l) : longerI b l = longerS b l := by
  unfold longerI longerS sizeL
  rw [sDist_eq hb.1 hb.2.1, sDist_eq hl.1 hl.2.1]
  by_cases h : lessA (distA b.1 b.2) (distA l.1 l.2)
  · rw [if_pos h, if_pos ((cmpA_more _ _).2 h)]
  · rw [if_neg h, if_neg (fun h' => h ((cmpA_more _ _).1 h'))]

theorem fold_eq : ∀ (xs : List Lf) (b : Lf), IsL b → (∀ x ∈ xs, IsL x) → xs.foldl longerI b = xs.foldl longerS b
  | [], b, _, _ => rfl
  | x :: l, b, hb, h => by
    have hx := h x (by simp)
    rw [List.foldl_cons, List.foldl_cons, longer_eq hb hx]
    refine fold_eq l _ ?_ (fun y hy => h y (by simp [hy]))
    unfold longerS
    split <;> assumption

theorem longest_eq (xs : List Lf) : longestR xs = longestSR xs := by
  unfold longestR longestSR
  rw [← lam_eq]
  by_cases h : lamL xs = true
  · rw [if_pos h, if_pos h]
    cases xs with
    | nil => rfl
    | cons x l =>
      have hall := lam_all h
      rw [if_neg (by simp), if_neg (by simp)]
      have : longerI x x = x := by unfold longerI; split <;> rfl
      simp only [List.foldl_cons, List.getD_cons_zero, this, List.drop_one, List.tail_cons]
      rw [fold_eq l x (hall x (by simp)) (fun y hy => hall y (by simp [hy]))]
  · rw [if_neg h, if_neg h]

end Go.Proofs.Ytlplngafncobkaa.Fw
