/- The law of the longest leaf, walked. -/
import Derived.Test.YtmbfflckgmdncaaDoorHA
import Derived.Test.YtmbfflckgmdncaaDoorGE
namespace Go.Proofs.YtmbfflckgmdncaaDoor.Fw
open Go Go.RowKit
set_option linter.unusedVariables false
set_option linter.unusedSimpArgs false
set_option maxRecDepth 100000
set_option maxHeartbeats 2000000

theorem PCtrOk.congr {P : Program} {f : FuncId} {c c' : PCtr} (h : PCtrOk P f c) (hc : ∀ hg rg lr vals k, c' hg rg lr vals k → c hg rg lr vals k) : PCtrOk P f c' where
  enter := h.enter
  calls := fun hg rg lr vals k h' => h.calls hg rg lr vals k (hc _ _ _ _ _ h')

def lgF (xs : List Lf) : Lf := if lamL xs = true then (if xs = [] then dL else xs.foldl longerI (xs.getD 0 dL)) else dL
def lgC (xs : List Lf) : Int := if lamL xs = true then (if xs = [] then 5 else 0) else 1
theorem longestR_tup (xs : List Lf) : longestR xs = .tup [lV (lgF xs), .int .i64 (lgC xs)] := by
  unfold longestR lgF lgC
  split
  · split <;> rfl
  · rfl
def longC : PCtr := fun _ rg _ vals k => match vals with
  | [.row i] => rowC lT (rg i) fun xs => k [] (.tup [lV (lgF xs), .int .i64 (lgC xs)])
  | _ => False
def lawC : PCtr := fun _ rg _ vals k => match vals with
  | [.row i] => rowC lT (rg i) fun xs => True ∧ k [] (.bool true)
  | _ => False

abbrev GL := (GOk.nil : GOk Tryd.prog [])
end Go.Proofs.YtmbfflckgmdncaaDoor.Fw

/- Contracts: diameters, images of leaves. -/
namespace Go.Proofs.YtmbfflckgmdncaaDoor.Fw
open Go Go.RowKit
set_option linter.unusedVariables false
set_option linter.unusedSimpArgs false
set_option maxRecDepth 100000
set_option maxHeartbeats 2000000

def halfC : PCtr := fun _ _ _ vals k => match vals with
  | [] => True ∧ k [] (aV (1, 2))
  | _ => False

def leafOf (a b : Ang) : Lf := if 0 < cmpA a b then (b, a) else (a, b)
def leafC : PCtr := fun _ _ _ vals k => match vals with
  | [.agg [.int .i64 n, .int .i64 d], .agg [.int .i64 m, .int .i64 e]] => (Bd (n, d) ∧ Bd (m, e)) ∧ k [] (lV (leafOf (n, d) (m, e)))
  | _ => False
def isDiaL (l : Lf) : Bool := decide (sizeL l = (1, 2))
def isDiaC : PCtr := fun _ _ _ vals k => match vals with
  | [.agg [.int .i64 n, .int .i64 d, .int .i64 m, .int .i64 e]] => SmL ((n, d), (m, e)) ∧ k [] (.bool (isDiaL ((n, d), (m, e))))
  | _ => False
theorem Sm.double {a : Ang} (h : Sm a) : Sm (doubleA a) := by
  have := ofQ_bd (2 * a.1) a.2 h.2.1
  unfold Sm at h
  unfold Sm doubleA
  omega
def imageL (l : Lf) : Lf := leafOf (doubleA l.1) (doubleA l.2)
def imageC : PCtr := fun _ _ _ vals k => match vals with
  | [.agg [.int .i64 n, .int .i64 d, .int .i64 m, .int .i64 e]] => SmL ((n, d), (m, e)) ∧ k [] (lV (imageL ((n, d), (m, e))))
  | _ => False
end Go.Proofs.YtmbfflckgmdncaaDoor.Fw

/- Contracts: being carried. -/
namespace Go.Proofs.YtmbfflckgmdncaaDoor.Fw
open Go Go.RowKit
set_option linter.unusedVariables false
set_option linter.unusedSimpArgs false
set_option maxRecDepth 100000
set_option maxHeartbeats 2000000

def sDiaL (l : Lf) : Bool := decide (doubleA l.1 = doubleA l.2)
def sDiaC : PCtr := fun _ _ _ vals k => match vals with
  | [.agg [.int .i64 n, .int .i64 d, .int .i64 m, .int .i64 e]] => SmL ((n, d), (m, e)) ∧ k [] (.bool (sDiaL ((n, d), (m, e))))
  | _ => False
def eqL (l x : Lf) : Bool := decide (l = x)
def idxLC : PCtr := fun _ rg _ vals k => match vals with
  | [.row i, .agg [.int .i64 p, .int .i64 q, .int .i64 r, .int .i64 s]] => rowC lT (rg i) fun xs => True ∧ k [] (.int .i64 (idxP (eqL ((p, q), (r, s))) xs))
  | _ => False
def hasLC : PCtr := fun _ rg _ vals k => match vals with
  | [.row i, .agg [.int .i64 p, .int .i64 q, .int .i64 r, .int .i64 s]] => rowC lT (rg i) fun xs => True ∧ k [] (.bool (xs.any (eqL ((p, q), (r, s)))))
  | _ => False
/-- A leaf that is a diameter or whose image is in a list. -/
def carL (ys : List Lf) (l : Lf) : Bool := isDiaL l || ys.any (eqL (imageL l))
def carried1C : PCtr := fun hg rg _ vals k => match vals with
  | [.agg [.int .i64 n, .int .i64 d, .int .i64 m, .int .i64 e], .loc j 0] => boxR (hg j) fun r => rowC lT (rg r) fun ys => SmL ((n, d), (m, e)) ∧ k [] (.bool (carL ys ((n, d), (m, e))))
  | _ => False
abbrev G11 := (GOk.nil : GOk Tryd.prog [])
def carN (ys : List Lf) (l : Lf) : Bool := !carL ys l
end Go.Proofs.YtmbfflckgmdncaaDoor.Fw

/- Contracts: laminations that are carried. -/
namespace Go.Proofs.YtmbfflckgmdncaaDoor.Fw
open Go Go.RowKit
set_option linter.unusedVariables false
set_option linter.unusedSimpArgs false
set_option maxRecDepth 100000
set_option maxHeartbeats 2000000

theorem car_all (ys xs : List Lf) : (!xs.any (carN ys)) = xs.all (carL ys) := by
  induction xs with
  | nil => rfl
  | cons x l ih => simp only [List.any_cons, List.all_cons, ← ih, carN, Bool.not_or, Bool.not_not]
def crB (xs : List Lf) : Bool := lamL xs && xs.all (carL xs)
def crC (xs : List Lf) : Int := if lamL xs = true then 0 else 1
def carriedC : PCtr := fun _ rg _ vals k => match vals with
  | [.row i] => rowC lT (rg i) fun xs => True ∧ k [] (.tup [.bool (crB xs), .int .i64 (crC xs)])
  | _ => False
abbrev G12 := (GOk.nil : GOk Tryd.prog [])
def qeL (l x : Lf) : Bool := decide (x = l)
def sHasC : PCtr := fun _ rg _ vals k => match vals with
  | [.row i, .agg [.int .i64 p, .int .i64 q, .int .i64 r, .int .i64 s]] => rowC lT (rg i) fun xs => True ∧ k [] (.bool (xs.any (qeL ((p, q), (r, s)))))
  | _ => False
def sCarL (ys : List Lf) (l : Lf) : Bool := sDiaL l || ys.any (qeL (imageL l))
def sCrB (xs : List Lf) : Bool := sLamL xs && xs.all (sCarL xs)
def sCrC (xs : List Lf) : Int := if sLamL xs = true then 0 else 1
def sCarriedC : PCtr := fun _ rg _ vals k => match vals with
  | [.row i] => rowC lT (rg i) fun xs => True ∧ k [] (.tup [.bool (sCrB xs), .int .i64 (sCrC xs)])
  | _ => False
abbrev G13 := (GOk.nil : GOk Tryd.prog [])
end Go.Proofs.YtmbfflckgmdncaaDoor.Fw

/- Plain laws: diameters, laminations that are carried. No program. -/
namespace Go.Proofs.YtmbfflckgmdncaaDoor.Fw
set_option linter.unusedVariables false
set_option linter.unusedSimpArgs false

theorem ofQ_eq (n d m e : Int) (hd : 1 ≤ d) (he : 1 ≤ e) : ofQ n d = ofQ m e ↔ (n % d) * e = (m % e) * d := by
  have c1 := cmp_ofQ n d m e hd he
  have c2 := cmp_ofQ m e n d he hd
  constructor
  · intro h
    rw [h] at c1 c2
    unfold lessA at c1 c2
    omega
  · intro h
    refine frac_eq (ofQ_bd n d hd).2.1 (ofQ_bd m e he).2.1 (ofQ_gcd n d hd) (ofQ_gcd m e he) ?_
    unfold lessA at c1 c2
    omega

theorem dia_eq {l : Lf} (hl : IsL l) : isDiaL l = sDiaL l := by
  obtain ⟨ha, hb, hlt⟩ := hl
  obtain ⟨⟨x, u⟩, ⟨y, v⟩⟩ := l
  obtain ⟨⟨a1, a2⟩, ⟨a3, a4⟩, _⟩ := ha
  obtain ⟨⟨b1, b2⟩, ⟨b3, b4⟩, _⟩ := hb
  unfold lessA at hlt
  simp only at *
  have hm : 0 < u * v := Int.mul_pos (by omega) (by omega)
  have hA : 0 ≤ x * v := Int.mul_nonneg a3 (by omega)
  have hB : y * u < u * v := by rw [Int.mul_comm u v]; exact Int.mul_lt_mul_of_pos_right (by omega) (by omega)
  have half : ((1, 2) : Ang) = ofQ 1 2 := by decide +kernel
  have d1 : minusA (x, u) (y, v) = ofQ (x * v - y * u) (u * v) := rfl
  have d2 : minusA (y, v) (x, u) = ofQ (y * u - x * v) (u * v) := by unfold minusA; rw [Int.mul_comm v u]
  have e1 : (x * v - y * u) % (u * v) = u * v - (y * u - x * v) := by
    rw [← Int.add_emod_right]
    exact (Int.emod_eq_of_lt (by omega) (by omega)).trans (by omega)
  have e2 : (y * u - x * v) % (u * v) = y * u - x * v := Int.emod_eq_of_lt (by omega) (by omega)
  have hless : lessA (minusA (x, u) (y, v)) (minusA (y, v) (x, u)) ↔ u * v - (y * u - x * v) < y * u - x * v := by
    rw [d1, d2, cmp_ofQ _ _ _ _ (by omega) (by omega), e1, e2]
    exact ⟨fun h => Int.lt_of_mul_lt_mul_right h (by omega), fun h => Int.mul_lt_mul_of_pos_right h hm⟩
  have h1 : isDiaL ((x, u), (y, v)) = true ↔ 2 * (y * u - x * v) = u * v := by
    unfold isDiaL sizeL distA
    simp only
    rw [decide_eq_true_iff, half]
    by_cases h : cmpA (minusA (x, u) (y, v)) (minusA (y, v) (x, u)) < 0
    · rw [if_pos h, d1, ofQ_eq _ _ _ _ (by omega) (by omega), e1, show (1 : Int) % 2 = 1 from rfl]
      have := hless.1 ((cmpA_less _ _).1 h)
      omega
    · rw [if_neg h, d2, ofQ_eq _ _ _ _ (by omega) (by omega), e2, show (1 : Int) % 2 = 1 from rfl]
      omega
  have h2 : sDiaL ((x, u), (y, v)) = true ↔ 2 * (y * u - x * v) = u * v := by
    unfold sDiaL doubleA
    simp only
    rw [decide_eq_true_iff, ofQ_eq _ _ _ _ a1 b1, ← emod_mul_right _ _ v (by omega), ← emod_mul_right _ _ u (by omega), Int.mul_assoc, Int.mul_assoc, Int.mul_comm v u]
    generalize x * v = A at *
    generalize y * u = B at *
    generalize u * v = M at *
    have m1 : (2 * A) % M = if 2 * A < M then 2 * A else 2 * A - M := by
      split
      · exact Int.emod_eq_of_lt (by omega) (by omega)
      · rw [← Int.sub_emod_right]; exact Int.emod_eq_of_lt (by omega) (by omega)
    have m2 : (2 * B) % M = if 2 * B < M then 2 * B else 2 * B - M := by
      split
      · exact Int.emod_eq_of_lt (by omega) (by omega)
      · rw [← Int.sub_emod_right]; exact Int.emod_eq_of_lt (by omega) (by omega)
    rw [m1, m2]
    split <;> split <;> omega
  rw [Bool.eq_iff_iff, h1, h2]

theorem car_eq {ys : List Lf} {l : Lf} (hl : IsL l) : carL ys l = sCarL ys l := by
  unfold carL sCarL
  rw [dia_eq hl]
  congr 1
  congr 1
  funext x
  unfold eqL qeL
  congr 1
  exact propext ⟨fun h => h.symm, fun h => h.symm⟩

theorem carried_eq (xs : List Lf) : crB xs = sCrB xs ∧ crC xs = sCrC xs := by
  unfold crB sCrB crC sCrC
  rw [← lam_eq]
  refine ⟨?_, rfl⟩
  by_cases h : lamL xs = true
  · have hall := lam_all h
    congr 1
    rw [Bool.eq_iff_iff, List.all_eq_true, List.all_eq_true]
    exact ⟨fun k x hx => by rw [← car_eq (hall x hx)]; exact k x hx, fun k x hx => by rw [car_eq (hall x hx)]; exact k x hx⟩
  · rw [Bool.not_eq_true] at h
    rw [h]; rfl

end Go.Proofs.YtmbfflckgmdncaaDoor.Fw

/- The law of laminations that are carried, walked. -/
namespace Go.Proofs.YtmbfflckgmdncaaDoor.Fw
open Go Go.RowKit
set_option linter.unusedVariables false
set_option linter.unusedSimpArgs false
set_option maxRecDepth 100000
set_option maxHeartbeats 2000000

abbrev GC := (GOk.nil : GOk Tryd.prog [])
end Go.Proofs.YtmbfflckgmdncaaDoor.Fw

/- Contracts: what the laws do to results, to see that they are nobody else's memory. -/
namespace Go.Proofs.YtmbfflckgmdncaaDoor.Fw
open Go Go.RowKit
set_option linter.unusedVariables false
set_option linter.unusedSimpArgs false
set_option maxRecDepth 100000
set_option maxHeartbeats 2000000

/-- What the law marks a result with. -/
def mkLF (q : Int) (i : Nat) : Lf := ((q + 4 * i, q + 4 * i + 1), (q + 4 * i + 2, q + 4 * i + 3))
def mkLMC : MCtr := fun hg rg _ vals k => match vals with
  | [.row i, .int .i64 q] => rowO lT (rg i) fun e xs => ((0 ≤ q ∧ q ≤ 1000000) ∧ (@List.length Lf xs : Int) ≤ 1000000) ∧ k [(i, some ⟨lT, e, true, (List.range (@List.length Lf xs)).map (mkLF q)⟩)] [] (.int .i64 (q + 4 * (@List.length Lf xs : Int)))
  | _ => False
def mkLHC : PCtr := fun hg rg _ vals k => match vals with
  | [.row i, .int .i64 q] => rowC lT (rg i) fun xs => ((0 ≤ q ∧ q ≤ 1000000) ∧ (@List.length Lf xs : Int) ≤ 1000000 ∧ (xs : List Lf) = (List.range (@List.length Lf xs)).map (mkLF q)) ∧ k [] (.int .i64 (q + 4 * (@List.length Lf xs : Int)))
  | _ => False
end Go.Proofs.YtmbfflckgmdncaaDoor.Fw

/- Contracts: images of a leaf. -/
namespace Go.Proofs.YtmbfflckgmdncaaDoor.Fw
open Go Go.RowKit
set_option linter.unusedVariables false
set_option linter.unusedSimpArgs false
set_option maxRecDepth 100000
set_option maxHeartbeats 2000000

/-- A leaf, its image, the image of that, and so on. -/
def imgs (dia : Lf → Bool) : Nat → List Lf → Lf → Option (List Lf)
  | 0, _, _ => none
  | n + 1, xs, l => if xs.any (eqL l) = true then some xs else if xs.length = 64 then none else if dia l = true then some (xs ++ [l]) else imgs dia n (xs ++ [l]) (imageL l)
def imgL (dia : Lf → Bool) (l : Lf) : List Lf := (imgs dia 65 [] l).getD []
def imgB (dia : Lf → Bool) (l : Lf) : Bool := (imgs dia 65 [] l).isSome
theorem SmL.image {l : Lf} (h : SmL l) : SmL (imageL l) := by
  unfold imageL leafOf
  split
  · exact ⟨h.2.double, h.1.double⟩
  · exact ⟨h.1.double, h.2.double⟩
abbrev GI := (GOk.nil : GOk Tryd.prog [])
end Go.Proofs.YtmbfflckgmdncaaDoor.Fw

/- The law of the images of a leaf, walked. -/
namespace Go.Proofs.YtmbfflckgmdncaaDoor.Fw
open Go Go.RowKit
set_option linter.unusedVariables false
set_option linter.unusedSimpArgs false
set_option maxRecDepth 100000
set_option maxHeartbeats 2000000

/-! ### plain laws -/
theorem ofQ_isA (n d : Int) (hd : 1 ≤ d) (h : d ≤ 8191) : IsA (ofQ n d) := by
  have h1 := ofQ_bd n d hd
  exact ⟨⟨h1.2.1, by omega⟩, h1.1, by rw [ofQ_gcd n d hd]; rfl⟩
theorem IsA.double {a : Ang} (h : IsA a) : IsA (doubleA a) := ofQ_isA _ _ h.1.1 h.1.2
theorem leafOf_isL {a b : Ang} (ha : IsA a) (hb : IsA b) (h : a ≠ b) : IsL (leafOf a b) := by
  unfold leafOf
  split
  · rename_i hc
    exact ⟨hb, ha, (cmpA_more _ _).1 hc⟩
  · rename_i hc
    have hc : ¬ lessA b a := fun h => hc ((cmpA_more _ _).2 h)
    refine ⟨ha, hb, ?_⟩
    unfold lessA at hc ⊢
    rcases Int.lt_trichotomy (a.1 * b.2) (b.1 * a.2) with h1 | h1 | h1
    · exact h1
    · exact absurd (frac_eq ha.1.1 hb.1.1 (by have := ha.2.2; omega) (by have := hb.2.2; omega) h1) h
    · exact absurd h1 hc
theorem imgs_eq : ∀ (n : Nat) (xs : List Lf) (l : Lf), IsL l → imgs isDiaL n xs l = imgs sDiaL n xs l
  | 0, _, _, _ => rfl
  | n + 1, xs, l, hl => by
    unfold imgs
    rw [dia_eq hl]
    split
    · rfl
    · split
      · rfl
      · split
        · rfl
        · rename_i hd
          refine imgs_eq n _ _ (leafOf_isL hl.1.double hl.2.1.double fun h => hd ?_)
          unfold sDiaL
          rw [decide_eq_true_iff]; exact h
theorem imgs_len (dia : Lf → Bool) : ∀ (n : Nat) (xs : List Lf) (l : Lf) (ys : List Lf), xs.length ≤ 64 → imgs dia n xs l = some ys → ys.length ≤ 64
  | 0, _, _, _, _, h => by cases h
  | n + 1, xs, l, ys, hx, h => by
    unfold imgs at h
    split at h
    · cases h; exact hx
    · split at h
      · cases h
      · split at h
        · cases h; simp; omega
        · exact imgs_len dia n _ _ _ (by simp; omega) h

def imgO (l : Lf) : List Lf := if IsL l then imgL isDiaL l else []
def imgC (l : Lf) : Int := if IsL l then (if imgB isDiaL l = true then 0 else 3) else 1
theorem imgO_len (l : Lf) : ((imgO l).length : Int) ≤ 64 := by
  unfold imgO
  split
  · unfold imgL
    cases h : imgs isDiaL 65 [] l with
    | none => simp
    | some ys => have := imgs_len isDiaL 65 [] l ys (by simp) h; simp; omega
  · simp

/-! ### contracts -/
def isLsC : PCtr := fun hg rg _ vals k => match vals with
  | [.row i] => rowC lT (rg i) fun xs => True ∧ k [] (.int .i64 (if (xs : List Lf).all allLY = true then 0 else 1))
  | _ => False
theorem one_isL (l : Lf) : (if [l].all allLY = true then (0 : Int) else 1) = 0 ↔ IsL l := by
  simp [allLY]
theorem one_isL' (l : Lf) (h : ¬ IsL l) : allLY l = false := by simp [allLY, h]

abbrev GIO := (GOk.nil : GOk Tryd.prog [])
theorem imgL_eq {l : Lf} (hl : IsL l) : imgL sDiaL l = imgL isDiaL l ∧ imgB sDiaL l = imgB isDiaL l := by
  unfold imgL imgB
  rw [imgs_eq 65 [] l hl]
  exact ⟨rfl, rfl⟩
abbrev GSO := (GOk.nil : GOk Tryd.prog [])
def lawIC : PCtr := fun _ _ _ vals k => match vals with
  | [.agg [.int .i64 n, .int .i64 d, .int .i64 m, .int .i64 e]] => True ∧ k [] (.bool true)
  | _ => False
abbrev GLI := (GOk.nil : GOk Tryd.prog [])
end Go.Proofs.YtmbfflckgmdncaaDoor.Fw

/- Plain laws: angles as rational numbers. No program. -/
namespace Go.Proofs.YtmbfflckgmdncaaDoor.Fw
set_option linter.unusedVariables false
set_option linter.unusedSimpArgs false

/-- The size of a fraction. -/
def vA (a : Ang) : Rat := (a.1 : Rat) / (a.2 : Rat)
/-- A reduced fraction below 1. -/
def IsF (a : Ang) : Prop := 1 ≤ a.2 ∧ 0 ≤ a.1 ∧ a.1 < a.2 ∧ Int.gcd a.2 a.1 = 1
theorem IsA.f {a : Ang} (h : IsA a) : IsF a := ⟨h.1.1, h.2.1.1, by have := h.2.1.2; omega, by have := h.2.2; omega⟩
theorem ofQ_f (n d : Int) (hd : 1 ≤ d) : IsF (ofQ n d) := by
  have h := ofQ_bd n d hd
  exact ⟨h.2.1, h.1.1, by omega, ofQ_gcd n d hd⟩

theorem rpos {d : Int} (h : 1 ≤ d) : (0 : Rat) < (d : Rat) := Rat.intCast_pos.2 (by omega)
theorem div_lt_div {n d m e : Int} (hd : 1 ≤ d) (he : 1 ≤ e) : (n : Rat) / d < (m : Rat) / e ↔ n * e < m * d := by
  have h1 := rpos hd
  have h2 := rpos he
  rw [Rat.div_lt_iff h1, Rat.div_def, Rat.mul_assoc, Rat.mul_comm _ (d : Rat), ← Rat.mul_assoc, ← Rat.div_def, Rat.lt_div_iff h2, ← Rat.intCast_mul, ← Rat.intCast_mul, Rat.intCast_lt_intCast]
theorem div_eq_div {n d m e : Int} (hd : 1 ≤ d) (he : 1 ≤ e) : (n : Rat) / d = (m : Rat) / e ↔ n * e = m * d := by
  have h1 := @div_lt_div n d m e hd he
  have h2 := @div_lt_div m e n d he hd
  constructor
  · intro h; rw [h] at h1 h2
    have := Rat.lt_irrefl (a := (m : Rat) / e)
    have h3 := mt h1.2 this
    have h4 := mt h2.2 this
    omega
  · intro h
    have h3 : ¬ (n : Rat) / d < (m : Rat) / e := fun h' => by have := h1.1 h'; omega
    have h4 : ¬ (m : Rat) / e < (n : Rat) / d := fun h' => by have := h2.1 h'; omega
    grind
theorem lessA_v {a b : Ang} (ha : IsF a) (hb : IsF b) : lessA a b ↔ vA a < vA b := (div_lt_div ha.1 hb.1).symm
theorem eq_v {a b : Ang} (ha : IsF a) (hb : IsF b) : a = b ↔ vA a = vA b :=
  ⟨fun h => by rw [h], fun h => frac_eq ha.1 hb.1 ha.2.2.2 hb.2.2.2 ((div_eq_div ha.1 hb.1).1 h)⟩
theorem v_rng {a : Ang} (h : IsF a) : 0 ≤ vA a ∧ vA a < 1 := by
  have h1 : ¬ (vA a < ((0 : Int) : Rat) / ((1 : Int) : Rat)) := fun h' => by have := (div_lt_div h.1 (by omega)).1 h'; have := h.2.1; omega
  have h2 : vA a < ((1 : Int) : Rat) / ((1 : Int) : Rat) := (div_lt_div h.1 (by omega)).2 (by have := h.2.2.1; omega)
  have e0 : ((0 : Int) : Rat) / ((1 : Int) : Rat) = 0 := by decide +kernel
  have e1 : ((1 : Int) : Rat) / ((1 : Int) : Rat) = 1 := by decide +kernel
  rw [e0] at h1
  rw [e1] at h2
  grind
theorem v_ofQ (n d : Int) (hd : 1 ≤ d) : vA (ofQ n d) = ((n % d : Int) : Rat) / (d : Rat) :=
  (div_eq_div (ofQ_bd n d hd).2.1 hd).2 (ofQ_cross n d hd)
theorem rne {d : Int} (hd : 1 ≤ d) : (d : Rat) ≠ 0 := fun h => by have := rpos hd; rw [h] at this; exact Rat.lt_irrefl this
theorem div_iff {n d x : Rat} (hd : d ≠ 0) : n / d = x ↔ n = x * d := by grind
theorem vA_mul {a : Ang} (h : IsF a) : (a.1 : Rat) = vA a * (a.2 : Rat) := (div_iff (rne h.1)).1 rfl
theorem v_ofQ_k (n d k : Int) (hd : 1 ≤ d) (h1 : k * d ≤ n) (h2 : n < (k + 1) * d) : vA (ofQ n d) = (n : Rat) / (d : Rat) - (k : Rat) := by
  rw [v_ofQ n d hd]
  have e : n % d = n - k * d := by
    rw [show n = n - k * d + k * d by omega, Int.add_mul_emod_self_right]
    rw [Int.add_mul] at h2
    rw [Int.emod_eq_of_lt (by omega) (by omega)]; omega
  have h := rne hd
  rw [e, Rat.intCast_sub, Rat.intCast_mul]
  grind

theorem v_half {a : Ang} (h : IsF a) : vA (ofQ a.1 (2 * a.2)) = vA a / 2 := by
  rw [v_ofQ_k a.1 (2 * a.2) 0 (by have := h.1; omega) (by have := h.2.1; omega) (by have := h.2.2.1; have := h.1; omega)]
  have h1 := vA_mul h
  have h2 := rne h.1
  have h3 : ((2 * a.2 : Int) : Rat) = 2 * (a.2 : Rat) := by rw [Rat.intCast_mul]; rfl
  have h4 : ((2 * a.2 : Int) : Rat) ≠ 0 := rne (by have := h.1; omega)
  have h5 := (div_iff (n := (a.1 : Rat)) (x := vA a / 2) h4).2 (by rw [h3, h1]; grind)
  rw [h5]
  grind
theorem v_half2 {a : Ang} (h : IsF a) : vA (ofQ (a.1 + a.2) (2 * a.2)) = vA a / 2 + 1 / 2 := by
  rw [v_ofQ_k (a.1 + a.2) (2 * a.2) 0 (by have := h.1; omega) (by have := h.2.1; have := h.1; omega) (by have := h.2.2.1; have := h.1; omega)]
  have h1 := vA_mul h
  have h2 := rne h.1
  have h3 : ((2 * a.2 : Int) : Rat) = 2 * (a.2 : Rat) := by rw [Rat.intCast_mul]; rfl
  have h4 : ((2 * a.2 : Int) : Rat) ≠ 0 := rne (by have := h.1; omega)
  have h5 := (div_iff (n := ((a.1 + a.2 : Int) : Rat)) (x := vA a / 2 + 1 / 2) h4).2 (by rw [h3, Rat.intCast_add, h1]; grind)
  rw [h5]
  grind
theorem v_double {a : Ang} (h : IsF a) : vA (doubleA a) = if vA a < 1 / 2 then 2 * vA a else 2 * vA a - 1 := by
  have hh : vA a < 1 / 2 ↔ a.1 * 2 < 1 * a.2 := by
    have := @div_lt_div a.1 a.2 1 2 h.1 (by omega)
    rw [show (((1 : Int) : Rat) / ((2 : Int) : Rat)) = 1 / 2 by decide +kernel] at this
    exact this
  have e : ((2 * a.1 : Int) : Rat) / (a.2 : Rat) = 2 * vA a := by
    unfold vA; rw [Rat.intCast_mul, Rat.div_def, Rat.div_def, Rat.mul_assoc]; rfl
  unfold doubleA
  have h0 := h.1
  have h2 := h.2.1
  have h3 := h.2.2.1
  split
  · rename_i h1
    rw [hh] at h1
    rw [v_ofQ_k (2 * a.1) a.2 0 h.1 (by omega) (by omega), e]
    grind
  · rename_i h1
    rw [hh] at h1
    rw [v_ofQ_k (2 * a.1) a.2 1 h.1 (by omega) (by omega), e]
    grind
theorem v_minus {a b : Ang} (ha : IsF a) (hb : IsF b) : vA (minusA a b) = if vA b ≤ vA a then vA a - vA b else vA a - vA b + 1 := by
  have p := mulPos ha.1 hb.1
  have e : ((a.1 * b.2 - b.1 * a.2 : Int) : Rat) / ((a.2 * b.2 : Int) : Rat) = vA a - vA b := by
    refine (div_iff (rne p)).2 ?_
    rw [Rat.intCast_sub, Rat.intCast_mul, Rat.intCast_mul, Rat.intCast_mul, vA_mul ha, vA_mul hb]
    grind
  have hh : vA b ≤ vA a ↔ b.1 * a.2 ≤ a.1 * b.2 := by
    have := lessA_v ha hb
    unfold lessA at this
    rw [← Rat.not_lt, ← this]; omega
  have ra := v_rng ha
  have rb := v_rng hb
  have l1 : a.1 * b.2 < a.2 * b.2 := Int.mul_lt_mul_of_pos_right ha.2.2.1 (by have := hb.1; omega)
  have l2 : b.1 * a.2 < a.2 * b.2 := by rw [Int.mul_comm a.2]; exact Int.mul_lt_mul_of_pos_right hb.2.2.1 (by have := ha.1; omega)
  have l3 : 0 ≤ a.1 * b.2 := Int.mul_nonneg ha.2.1 (by have := hb.1; omega)
  have l4 : 0 ≤ b.1 * a.2 := Int.mul_nonneg hb.2.1 (by have := ha.1; omega)
  unfold minusA
  split
  · rename_i h1
    rw [hh] at h1
    rw [v_ofQ_k _ _ 0 p (by omega) (by omega), e]
    grind
  · rename_i h1
    rw [hh] at h1
    rw [v_ofQ_k _ _ (-1) p (by omega) (by omega), e, Rat.intCast_neg]
    grind
theorem minus_f {a b : Ang} (ha : IsF a) (hb : IsF b) : IsF (minusA a b) := ofQ_f _ _ (mulPos ha.1 hb.1)
theorem v_dist {a b : Ang} (ha : IsF a) (hb : IsF b) : vA (distA a b) = if vA (minusA a b) < vA (minusA b a) then vA (minusA a b) else vA (minusA b a) := by
  have := cmpA_less (minusA a b) (minusA b a)
  rw [lessA_v (minus_f ha hb) (minus_f hb ha)] at this
  unfold distA
  by_cases h : cmpA (minusA a b) (minusA b a) < 0
  · rw [if_pos h, if_pos (this.1 h)]
  · rw [if_neg h, if_neg (fun h' => h (this.2 h'))]
theorem dist_f {a b : Ang} (ha : IsF a) (hb : IsF b) : IsF (distA a b) := by
  unfold distA; split
  · exact minus_f ha hb
  · exact minus_f hb ha
theorem double_f {a : Ang} (ha : IsF a) : IsF (doubleA a) := ofQ_f _ _ ha.1
theorem order_v {a b c : Ang} (ha : IsF a) (hb : IsF b) (hc : IsF c) :
    orderA a b c = if vA a = vA b ∨ vA b = vA c ∨ vA a = vA c then 0 else if vA (minusA b a) < vA (minusA c a) then 1 else -1 := by
  have := cmpA_less (minusA b a) (minusA c a)
  rw [lessA_v (minus_f hb ha) (minus_f hc ha)] at this
  unfold orderA
  simp only [eq_v ha hb, eq_v hb hc, eq_v ha hc]
  by_cases h0 : vA a = vA b ∨ vA b = vA c ∨ vA a = vA c
  · rw [if_pos h0, if_pos h0]
  · rw [if_neg h0, if_neg h0]
    by_cases h : cmpA (minusA b a) (minusA c a) < 0
    · rw [if_pos h, if_pos (this.1 h)]
    · rw [if_neg h, if_neg (fun h' => h (this.2 h'))]

end Go.Proofs.YtmbfflckgmdncaaDoor.Fw

/- Plain laws: pulling a leaf back past a diameter. No program. -/
namespace Go.Proofs.YtmbfflckgmdncaaDoor.Fw
set_option linter.unusedVariables false
set_option linter.unusedSimpArgs false

def halfA (a : Ang) : Ang := ofQ a.1 (2 * a.2)
def half2A (a : Ang) : Ang := ofQ (a.1 + a.2) (2 * a.2)
def twoL (l m : Lf) : List Lf := if 0 < cmpL l m then [m, l] else [l, m]
def wayL (l : Lf) : List Lf := twoL (leafOf (halfA l.1) (halfA l.2)) (leafOf (half2A l.1) (half2A l.2))
def way2L (l : Lf) : List Lf := twoL (leafOf (halfA l.1) (half2A l.2)) (leafOf (half2A l.1) (halfA l.2))
def LimL (l : Lf) : Prop := l.1.2 ≤ 8191 ∧ l.2.2 ≤ 8191
instance (l : Lf) : Decidable (LimL l) := by unfold LimL; infer_instance
def sTwoL (l m : Lf) : List Lf := if sLessL m l = true then [m, l] else [l, m]
def IsFL (l : Lf) : Prop := IsF l.1 ∧ IsF l.2
theorem IsL.f {l : Lf} (h : IsL l) : IsFL l := ⟨h.1.f, h.2.1.f⟩
theorem half_f {a : Ang} (h : IsF a) : IsF (halfA a) := ofQ_f _ _ (by have := h.1; omega)
theorem half2_f {a : Ang} (h : IsF a) : IsF (half2A a) := ofQ_f _ _ (by have := h.1; omega)
theorem leafOf_f {a b : Ang} (ha : IsF a) (hb : IsF b) : IsFL (leafOf a b) := by
  unfold leafOf; split
  · exact ⟨hb, ha⟩
  · exact ⟨ha, hb⟩

theorem cmpL_more {l m : Lf} (hl : IsFL l) (hm : IsFL m) : 0 < cmpL l m ↔ sLessL m l = true := by
  have he : cmpA l.1 m.1 = 0 ↔ l.1 = m.1 := by
    rw [eq_v hl.1 hm.1]
    have h1 := lessA_v hl.1 hm.1
    have h2 := lessA_v hm.1 hl.1
    have h3 := cmpI_zero (l.1.1 * m.1.2) (m.1.1 * l.1.2)
    unfold lessA at h1 h2
    rw [show cmpA l.1 m.1 = cmpI (l.1.1 * m.1.2) (m.1.1 * l.1.2) from rfl, h3]
    constructor
    · intro h
      have n1 : ¬ vA l.1 < vA m.1 := fun h' => by have := h1.2 h'; omega
      have n2 : ¬ vA m.1 < vA l.1 := fun h' => by have := h2.2 h'; omega
      grind
    · intro h
      rw [h] at h1 h2
      have n1 := mt h1.1 Rat.lt_irrefl
      have n2 := mt h2.1 Rat.lt_irrefl
      omega
  unfold cmpL sLessL
  by_cases h : l.1 = m.1
  · rw [if_pos (he.2 h), if_pos h.symm, decide_eq_true_iff]
    exact cmpA_more _ _
  · rw [if_neg (fun e => h (he.1 e)), if_neg (fun e => h e.symm), decide_eq_true_iff]
    exact cmpA_more _ _

theorem two_eq {l m : Lf} (hl : IsFL l) (hm : IsFL m) : twoL l m = sTwoL l m := by
  unfold twoL sTwoL
  by_cases h : 0 < cmpL l m
  · rw [if_pos h, if_pos ((cmpL_more hl hm).1 h)]
  · rw [if_neg h, if_neg (fun h' => h ((cmpL_more hl hm).2 h'))]
theorem two_any (p : Lf → Bool) (l m : Lf) : (twoL l m).any p = (p l || p m) := by
  unfold twoL; split
  · simp [Bool.or_comm]
  · simp
theorem two_all (p : Lf → Bool) (l m : Lf) : (twoL l m).all p = (p l && p m) := by
  unfold twoL; split
  · simp [Bool.and_comm]
  · simp
theorem cross_leafOf (d : Lf) (a b : Ang) : crossL d (leafOf a b) = crossL d (a, b) := by
  unfold leafOf; split
  · unfold crossL; rw [Int.mul_comm]
  · rfl
theorem lim_leafOf (a b : Ang) : LimL (leafOf a b) ↔ a.2 ≤ 8191 ∧ b.2 ≤ 8191 := by
  unfold leafOf LimL; split
  · exact And.comm
  · rfl

/-- The other end of a diameter lies half a turn away. -/
theorem dia_v {d : Lf} (hd : IsL d) (h : sDiaL d = true) : vA d.2 = vA d.1 + 1 / 2 ∧ vA d.1 < 1 / 2 := by
  obtain ⟨h1, h2, h3⟩ := hd
  unfold sDiaL at h
  rw [decide_eq_true_iff, eq_v (double_f h1.f) (double_f h2.f), v_double h1.f, v_double h2.f] at h
  rw [lessA_v h1.f h2.f] at h3
  have := v_rng h1.f
  have := v_rng h2.f
  grind

theorem side_a {D X d2 : Ang} (h1 : IsF D) (hx : IsF X) (h2 : IsF d2) (e : vA d2 = vA D + 1 / 2) (hd : vA D < 1 / 2) (hX : vA X < 1 / 2) (hn : vA X ≠ vA D) :
    orderA D X d2 = if vA D < vA X then 1 else -1 := by
  rw [order_v h1 hx h2, v_minus hx h1, v_minus h2 h1]
  have := v_rng h1
  have := v_rng hx
  grind
theorem side_b {D X d2 : Ang} (h1 : IsF D) (hx : IsF X) (h2 : IsF d2) (e : vA d2 = vA D + 1 / 2) (hd : vA D < 1 / 2) (hX : 1 / 2 ≤ vA X) (hn : vA X ≠ vA d2) :
    orderA D X d2 = if vA X < vA d2 then 1 else -1 := by
  rw [order_v h1 hx h2, v_minus hx h1, v_minus h2 h1]
  have := v_rng h1
  have := v_rng hx
  grind

theorem past_any {l d : Lf} (hl : IsL l) (hd : IsL d) (hdia : sDiaL d = true) (n1 : l.1 ≠ doubleA d.1) (n2 : l.2 ≠ doubleA d.1) :
    (wayL l).any (crossL d) = !(sWithinA (halfA l.1) d.1 d.2 == sWithinA (halfA l.2) d.1 d.2) := by
  obtain ⟨e1, e2⟩ := dia_v hd hdia
  obtain ⟨a, b⟩ := l
  obtain ⟨x, y⟩ := d
  have ha := hl.1.f
  have hb := hl.2.1.f
  have hx := hd.1.f
  have hy := hd.2.1.f
  simp only at *
  rw [ne_eq, eq_v ha (double_f hx), v_double hx, if_pos e2] at n1
  rw [ne_eq, eq_v hb (double_f hx), v_double hx, if_pos e2] at n2
  have r1 := v_rng ha
  have r2 := v_rng hb
  have r3 := v_rng hx
  have hxy : lessA x y := (lessA_v hx hy).2 (by grind)
  unfold wayL
  have va : vA (halfA a) = vA a / 2 := v_half ha
  have vb : vA (halfA b) = vA b / 2 := v_half hb
  have va2 : vA (half2A a) = vA a / 2 + 1 / 2 := v_half2 ha
  have vb2 : vA (half2A b) = vA b / 2 + 1 / 2 := v_half2 hb
  rw [two_any, cross_leafOf, cross_leafOf]
  unfold crossL sWithinA
  simp only [if_pos hxy]
  rw [side_a hx (half_f ha) hy e1 e2 (by grind) (by grind), side_a hx (half_f hb) hy e1 e2 (by grind) (by grind),
    side_b hx (half2_f ha) hy e1 e2 (by grind) (by grind), side_b hx (half2_f hb) hy e1 e2 (by grind) (by grind)]
  simp only [lessA_v hx (half_f ha), lessA_v (half_f ha) hy, lessA_v hx (half_f hb), lessA_v (half_f hb) hy, va, vb, va2, vb2, e1]
  by_cases c1 : vA x < vA a / 2 <;> by_cases c2 : vA x < vA b / 2 <;>
    by_cases c3 : vA a / 2 + 1 / 2 < vA x + 1 / 2 <;> by_cases c4 : vA b / 2 + 1 / 2 < vA x + 1 / 2 <;>
    by_cases c5 : vA a / 2 < vA x + 1 / 2 <;> by_cases c6 : vA b / 2 < vA x + 1 / 2 <;>
    first
      | (exfalso; clear e1 va vb va2 vb2 hl hd hdia ha hb hx hy hxy; grind)
      | (simp [c1, c2, c3, c4, c5, c6]; done)

/-- What the program pulls back. -/
def pastW (l d : Lf) : List Lf := if (wayL l).any (crossL d) = true then way2L l else wayL l
/-- What the reference pulls back. -/
def sPastW (l d : Lf) : List Lf :=
  if sWithinA (halfA l.1) d.1 d.2 = sWithinA (halfA l.2) d.1 d.2 then sTwoL (leafOf (halfA l.1) (halfA l.2)) (leafOf (half2A l.1) (half2A l.2))
  else sTwoL (leafOf (halfA l.1) (half2A l.2)) (leafOf (half2A l.1) (halfA l.2))
def okHalf (a : Ang) : Prop := (halfA a).2 ≤ 8191 ∧ (half2A a).2 ≤ 8191
instance (a : Ang) : Decidable (okHalf a) := by unfold okHalf; infer_instance

theorem past_eq {l d : Lf} (hl : IsL l) (hd : IsL d) (hdia : sDiaL d = true) (n1 : l.1 ≠ doubleA d.1) (n2 : l.2 ≠ doubleA d.1) : pastW l d = sPastW l d := by
  have fa := half_f hl.1.f
  have fa2 := half2_f hl.1.f
  have fb := half_f hl.2.1.f
  have fb2 := half2_f hl.2.1.f
  unfold pastW sPastW wayL way2L
  have h := past_any hl hd hdia n1 n2
  unfold wayL at h
  rw [h, two_eq (leafOf_f fa fb) (leafOf_f fa2 fb2), two_eq (leafOf_f fa fb2) (leafOf_f fa2 fb)]
  by_cases hc : sWithinA (halfA l.1) d.1 d.2 = sWithinA (halfA l.2) d.1 d.2
  · simp [hc]
  · simp [hc]
theorem past_lim (l d : Lf) : (pastW l d).all (fun l => decide (LimL l)) = true ↔ okHalf l.1 ∧ okHalf l.2 := by
  unfold pastW okHalf
  split
  · unfold way2L; rw [two_all, Bool.and_eq_true, decide_eq_true_iff, decide_eq_true_iff, lim_leafOf, lim_leafOf]; grind
  · unfold wayL; rw [two_all, Bool.and_eq_true, decide_eq_true_iff, decide_eq_true_iff, lim_leafOf, lim_leafOf]; grind

end Go.Proofs.YtmbfflckgmdncaaDoor.Fw

/- Plain laws: majors of a leaf, and the conditions of minor leaves. No program. -/
namespace Go.Proofs.YtmbfflckgmdncaaDoor.Fw
set_option linter.unusedVariables false
set_option linter.unusedSimpArgs false

/-- The program's ends in the order in which one goes forward. -/
def endsA (l : Lf) : Lf := if minusA l.2 l.1 = sizeL l then l else (l.2, l.1)
def sEndsA (l : Lf) : Lf := if (minusA l.2 l.1).2 < 2 * (minusA l.2 l.1).1 then (l.2, l.1) else l
def majL (l : Lf) : List Lf := twoL (leafOf (halfA (endsA l).2) (half2A (endsA l).1)) (leafOf (halfA (endsA l).1) (half2A (endsA l).2))
def sMajL (l : Lf) : List Lf := sTwoL (leafOf (halfA (sEndsA l).2) (half2A (sEndsA l).1)) (leafOf (halfA (sEndsA l).1) (half2A (sEndsA l).2))
def ShortL (l : Lf) : Prop := ¬ 0 < cmpA (sizeL l) (1, 3)
instance (l : Lf) : Decidable (ShortL l) := by unfold ShortL; infer_instance

theorem v_lt_half {a : Ang} (h : IsF a) : 1 / 2 < vA a ↔ a.2 < 2 * a.1 := by
  have := @div_lt_div 1 2 a.1 a.2 (by omega) h.1
  rw [show (((1 : Int) : Rat) / ((2 : Int) : Rat)) = 1 / 2 by decide +kernel] at this
  unfold vA
  rw [this]
  omega
theorem v_third {a : Ang} (h : IsF a) : 0 < cmpA a (1, 3) ↔ a.2 < 3 * a.1 := by
  rw [cmpA_more]
  unfold lessA
  simp only
  omega
theorem ends_eq {l : Lf} (h : IsL l) : endsA l = sEndsA l := by
  obtain ⟨h1, h2, h3⟩ := h
  have f1 := h1.f
  have f2 := h2.f
  rw [lessA_v f1 f2] at h3
  have fm := minus_f f2 f1
  have r1 := v_rng f1
  have r2 := v_rng f2
  have e1 := v_minus f2 f1
  have e2 := v_minus f1 f2
  have key : minusA l.2 l.1 = sizeL l ↔ ¬ (minusA l.2 l.1).2 < 2 * (minusA l.2 l.1).1 := by
    rw [← v_lt_half fm, sizeL, eq_v fm (dist_f f1 f2), v_dist f1 f2]
    grind
  unfold endsA sEndsA
  by_cases hc : minusA l.2 l.1 = sizeL l
  · rw [if_pos hc, if_neg (key.1 hc)]
  · rw [if_neg hc, if_pos (Decidable.not_not.1 (fun h' => hc (key.2 h')))]
theorem ends_isA {l : Lf} (h : IsL l) : IsA (endsA l).1 ∧ IsA (endsA l).2 := by
  unfold endsA; split
  · exact ⟨h.1, h.2.1⟩
  · exact ⟨h.2.1, h.1⟩
theorem maj_eq {l : Lf} (h : IsL l) : majL l = sMajL l := by
  have he := ends_isA h
  unfold majL sMajL
  rw [two_eq (leafOf_f (half_f he.2.f) (half2_f he.1.f)) (leafOf_f (half_f he.1.f) (half2_f he.2.f)), ends_eq h]
theorem maj_lim {l : Lf} (h : IsL l) : (majL l).all (fun l => decide (LimL l)) = true ↔ okHalf (sEndsA l).1 ∧ okHalf (sEndsA l).2 := by
  unfold majL okHalf
  rw [two_all, Bool.and_eq_true, decide_eq_true_iff, decide_eq_true_iff, lim_leafOf, lim_leafOf, ends_eq h]; grind
theorem leafOf_isL2 {a b : Ang} (ha : IsF a) (hb : IsF b) (h : a ≠ b) (hl : LimL (leafOf a b)) : IsL (leafOf a b) := by
  rw [lim_leafOf] at hl
  have isa {x : Ang} (hx : IsF x) (h : x.2 ≤ 8191) : IsA x := ⟨⟨hx.1, h⟩, ⟨hx.2.1, by have := hx.2.2.1; omega⟩, by rw [hx.2.2.2]; rfl⟩
  rw [ne_eq, eq_v ha hb] at h
  unfold leafOf
  split
  · rename_i hc
    rw [cmpA_more, lessA_v hb ha] at hc
    exact ⟨isa hb hl.2, isa ha hl.1, (lessA_v hb ha).2 hc⟩
  · rename_i hc
    rw [cmpA_more, lessA_v hb ha] at hc
    exact ⟨isa ha hl.1, isa hb hl.2, (lessA_v ha hb).2 (by grind)⟩
theorem two_memL {l m x : Lf} (h : x ∈ twoL l m) : x = l ∨ x = m := by
  unfold twoL at h
  split at h
  · simp at h; exact h.symm
  · simpa using h
theorem maj_isL {l : Lf} (h : IsL l) (hl : (majL l).all (fun l => decide (LimL l)) = true) : ∀ x ∈ majL l, IsL x := fun x hx => by
  have hlx : LimL x := by have := List.all_eq_true.1 hl x hx; exact of_decide_eq_true this
  have he := ends_isA h
  have f1 := he.1.f
  have f2 := he.2.f
  have r1 := v_rng f1
  have r2 := v_rng f2
  have e1 : vA (halfA (endsA l).1) = vA (endsA l).1 / 2 := v_half f1
  have e2 : vA (halfA (endsA l).2) = vA (endsA l).2 / 2 := v_half f2
  have e3 : vA (half2A (endsA l).1) = vA (endsA l).1 / 2 + 1 / 2 := v_half2 f1
  have e4 : vA (half2A (endsA l).2) = vA (endsA l).2 / 2 + 1 / 2 := v_half2 f2
  rcases two_memL hx with rfl | rfl
  · exact leafOf_isL2 (half_f f2) (half2_f f1) (fun h' => by have := congrArg vA h'; grind) hlx
  · exact leafOf_isL2 (half_f f1) (half2_f f2) (fun h' => by have := congrArg vA h'; grind) hlx

end Go.Proofs.YtmbfflckgmdncaaDoor.Fw

/- Plain laws: the conditions of minor leaves. No program. -/
namespace Go.Proofs.YtmbfflckgmdncaaDoor.Fw
set_option linter.unusedVariables false
set_option linter.unusedSimpArgs false

theorem sCross_irr (l : Lf) : sCrossL l l = false := by unfold sCrossL; simp
theorem sCross_v {l m : Lf} (hl : IsFL l) (hm : IsFL m) (h1 : vA l.1 < vA l.2) (h2 : vA m.1 < vA m.2) : sCrossL l m = true ↔
    (vA l.1 < vA m.1 ∧ vA m.1 < vA l.2 ∧ vA l.2 < vA m.2) ∨ (vA m.1 < vA l.1 ∧ vA l.1 < vA m.2 ∧ vA m.2 < vA l.2) := by
  unfold sCrossL sWithinA
  simp only [eq_v hl.1 hm.1, eq_v hl.1 hm.2, eq_v hl.2 hm.1, eq_v hl.2 hm.2, lessA_v hm.1 hm.2, lessA_v hm.1 hl.1, lessA_v hl.1 hm.2, lessA_v hm.1 hl.2, lessA_v hl.2 hm.2, if_pos h2]
  by_cases c1 : vA l.1 = vA m.1 ∨ vA l.1 = vA m.2 ∨ vA l.2 = vA m.1 ∨ vA l.2 = vA m.2
  · rw [if_pos c1]; simp only [Bool.false_eq_true, false_iff]; grind
  · rw [if_neg c1, Bool.not_eq_true', beq_eq_false_iff_ne, ne_eq, ← Bool.decide_and, ← Bool.decide_and, decide_eq_decide]; grind
theorem sCross_symm {l m : Lf} (hl : IsL l) (hm : IsL m) : sCrossL l m = sCrossL m l := by
  have h1 := (lessA_v hl.1.f hl.2.1.f).1 hl.2.2
  have h2 := (lessA_v hm.1.f hm.2.1.f).1 hm.2.2
  rw [Bool.eq_iff_iff, sCross_v hl.f hm.f h1 h2, sCross_v hm.f hl.f h2 h1, or_comm]

/-- A leaf of the first list crosses one of the second. -/
def haveL (xs ys : List Lf) : Bool := xs.any fun l => ys.any (crossL l)
def sSelf (xs : List Lf) : Bool := (List.range xs.length).any fun i => (xs.take i).any (sCrossL (xs.getD i dL))
theorem have_self {xs : List Lf} (h : ∀ x ∈ xs, IsL x) : haveL xs xs = sSelf xs := by
  unfold haveL sSelf
  rw [Bool.eq_iff_iff, List.any_eq_true, List.any_eq_true]
  constructor
  · rintro ⟨l, hl, h2⟩
    rw [List.any_eq_true] at h2
    obtain ⟨m, hm, h3⟩ := h2
    rw [cross_eq (h l hl) (h m hm)] at h3
    obtain ⟨i, hi, rfl⟩ := List.mem_iff_getElem.1 hl
    obtain ⟨k, hk, rfl⟩ := List.mem_iff_getElem.1 hm
    have gi : xs.getD i dL = xs[i] := by rw [List.getD_eq_getElem?_getD, List.getElem?_eq_getElem hi]; rfl
    have gk : xs.getD k dL = xs[k] := by rw [List.getD_eq_getElem?_getD, List.getElem?_eq_getElem hk]; rfl
    rcases Nat.lt_trichotomy i k with hik | hik | hik
    · refine ⟨k, List.mem_range.2 hk, List.any_eq_true.2 ⟨xs[i], List.mem_iff_getElem.2 ⟨i, by simp; omega, by simp⟩, ?_⟩⟩
      rw [gk, sCross_symm (h _ hm) (h _ hl)]; exact h3
    · subst hik; rw [sCross_irr] at h3; cases h3
    · refine ⟨i, List.mem_range.2 hi, List.any_eq_true.2 ⟨xs[k], List.mem_iff_getElem.2 ⟨k, by simp; omega, by simp⟩, ?_⟩⟩
      rw [gi]; exact h3
  · rintro ⟨i, hi, h2⟩
    have hi := List.mem_range.1 hi
    have gi : xs.getD i dL = xs[i] := by rw [List.getD_eq_getElem?_getD, List.getElem?_eq_getElem hi]; rfl
    rw [List.any_eq_true] at h2
    obtain ⟨m, hm, h3⟩ := h2
    have hm' := List.mem_of_mem_take hm
    rw [gi] at h3
    refine ⟨xs[i], List.getElem_mem hi, List.any_eq_true.2 ⟨m, hm', ?_⟩⟩
    rw [cross_eq (h _ (List.getElem_mem hi)) (h m hm')]; exact h3

def lessLen (m l : Lf) : Bool := decide (cmpA (sizeL l) (sizeL m) < 0)
def sLessLen (m l : Lf) : Bool := decide (lessA (sDistA l.1 l.2) (sDistA m.1 m.2))
theorem lessLen_eq {m l : Lf} (hm : IsL m) (hl : IsL l) : lessLen m l = sLessLen m l := by
  unfold lessLen sLessLen sizeL
  rw [sDist_eq hm.1 hm.2.1, sDist_eq hl.1 hl.2.1, decide_eq_decide]
  exact cmpA_less _ _
theorem any_congr {xs : List Lf} {p q : Lf → Bool} (h : ∀ x ∈ xs, p x = q x) : xs.any p = xs.any q := by
  rw [Bool.eq_iff_iff, List.any_eq_true, List.any_eq_true]
  exact ⟨fun ⟨x, hx, h2⟩ => ⟨x, hx, by rw [← h x hx]; exact h2⟩, fun ⟨x, hx, h2⟩ => ⟨x, hx, by rw [h x hx]; exact h2⟩⟩
def sMaj0 (l : Lf) : Lf := (sMajL l).getD 0 dL
def sMaj1 (l : Lf) : Lf := (sMajL l).getD 1 dL
theorem sMaj_two (l : Lf) : sMajL l = [sMaj0 l, sMaj1 l] := by
  unfold sMaj0 sMaj1 sMajL sTwoL
  split <;> rfl
def sWithMaj (m l : Lf) : Bool := sCrossL l (sMaj0 m) || sCrossL l (sMaj1 m)
theorem have_maj {m : Lf} {xs : List Lf} (h : ∀ x ∈ xs, IsL x) (hm : ∀ x ∈ sMajL m, IsL x) : haveL xs (sMajL m) = xs.any (sWithMaj m) := by
  unfold haveL
  refine any_congr fun x hx => ?_
  rw [sMaj_two] at hm ⊢
  simp only [List.any_cons, List.any_nil, Bool.or_false, sWithMaj]
  rw [cross_eq (h x hx) (hm _ (by simp)), cross_eq (h x hx) (hm _ (by simp))]

theorem imgs_isL : ∀ (n : Nat) (xs : List Lf) (l : Lf) (ys : List Lf), IsL l → (∀ x ∈ xs, IsL x) → imgs isDiaL n xs l = some ys → ∀ y ∈ ys, IsL y
  | 0, _, _, _, _, _, h => by cases h
  | n + 1, xs, l, ys, hl, hx, h => by
    unfold imgs at h
    have hxl : ∀ x ∈ xs ++ [l], IsL x := fun x hx' => by
      rcases List.mem_append.1 hx' with h' | h'
      · exact hx x h'
      · rw [List.mem_singleton.1 h']; exact hl
    split at h
    · cases h; exact hx
    · split at h
      · cases h
      · split at h
        · cases h; exact hxl
        · rename_i hd
          rw [dia_eq hl] at hd
          exact imgs_isL n _ _ _ (leafOf_isL hl.1.double hl.2.1.double fun h' => hd (by unfold sDiaL; rw [decide_eq_true_iff]; exact h')) hxl h
theorem imgL_isL {l : Lf} (hl : IsL l) : ∀ x ∈ imgL isDiaL l, IsL x := by
  unfold imgL
  cases h : imgs isDiaL 65 [] l with
  | none => simp
  | some ys => exact imgs_isL 65 [] l ys hl (by simp) h

/-- The number of the first condition that fails. -/
def failN (m : Lf) (images majors : List Lf) : Int :=
  if haveL images images = true then 2 else if images.any (lessLen m) = true then 3 else if haveL images majors = true then 4 else 0
def sFailN (m : Lf) (images : List Lf) : Int :=
  if sSelf images = true then 2 else if images.any (sLessLen m) = true then 3 else if images.any (sWithMaj m) = true then 4 else 0
theorem fail_eq {m : Lf} (hm : IsL m) (hl : (majL m).all (fun l => decide (LimL l)) = true) : failN m (imgL isDiaL m) (majL m) = sFailN m (imgL isDiaL m) := by
  have hi := imgL_isL hm
  have hj := maj_isL hm hl
  unfold failN sFailN
  rw [have_self hi, any_congr (fun x hx => lessLen_eq hm (hi x hx)), maj_eq hm, have_maj hi (by rw [← maj_eq hm]; exact hj)]

end Go.Proofs.YtmbfflckgmdncaaDoor.Fw
