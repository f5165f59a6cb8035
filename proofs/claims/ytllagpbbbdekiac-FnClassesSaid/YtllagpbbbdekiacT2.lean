/- Plain laws for the walks over classes; the closure over itineraries. -/
import Derived.Test.YtllagpbbbdekiacT0
import Derived.Test.YtllagpbbbdekiacT1
namespace Go.Proofs.Ytllagpbbbdekiac.Fw
open Go Go.RowKit
set_option linter.unusedVariables false
set_option linter.unusedSimpArgs false
set_option maxRecDepth 100000
set_option maxHeartbeats 2000000
theorem odd_table : (List.range 64).all (fun m => (m % 2 == 0) || (List.range 64).any fun n => decide (1 ≤ n ∧ n ≤ m) && (2 ^ n % m == 1 % m)) = true := by decide +kernel
theorem odd_ord {m : Nat} (h : m < 64) (ho : m % 2 = 1) : ∃ n, 1 ≤ n ∧ n ≤ m ∧ 2 ^ n % m = 1 % m := by
  have := List.all_eq_true.1 odd_table m (List.mem_range.2 h)
  rw [Bool.or_eq_true] at this
  rcases this with h1 | h1
  · rw [beq_iff_eq] at h1; omega
  · obtain ⟨n, _, hn⟩ := List.any_eq_true.1 h1
    rw [Bool.and_eq_true, decide_eq_true_iff, beq_iff_eq] at hn
    exact ⟨n, hn.1.1, hn.1.2, hn.2⟩
theorem it_one (a : Ang) (n : Nat) : itA a (n + 1) = itA (doubleA a) n := by
  have h := itA_add a 1 n
  rw [Nat.add_comm]
  exact h
theorem stop_small : ∀ (p : Nat) (a : Ang), IsF a → preA a = p → a.2 ≤ 63 → ∃ N : Nat, preA a < N ∧ (N : Int) ≤ a.2 ∧ itA a N = itA a (preA a)
  | 0, a, hf, hp, h63 => by
    have ho := (preA_zero hf).1 hp
    have h1 := hf.1
    obtain ⟨n, n1, n2, n3⟩ := odd_ord (m := a.2.toNat) (by omega) (by omega)
    refine ⟨n, by omega, by omega, ?_⟩
    rw [hp, it_num hf ho n]
    show _ = a
    refine Prod.ext ?_ rfl
    show (2 ^ n * a.1) % a.2 = a.1
    have e2 : (2 : Int) ^ n % a.2 = 1 % a.2 := by
      have : ((2 ^ n % a.2.toNat : Nat) : Int) = ((1 % a.2.toNat : Nat) : Int) := by rw [n3]
      rw [Int.natCast_emod, Int.natCast_emod, Int.natCast_pow] at this
      rw [show ((a.2.toNat : Nat) : Int) = a.2 by omega] at this
      exact this
    rw [Int.mul_emod, e2, ← Int.mul_emod, Int.one_mul, Int.emod_eq_of_lt hf.2.1 hf.2.2.1]
  | p + 1, a, hf, hp, h63 => by
    have h1 := hf.1
    have he : a.2 % 2 = 0 := by
      rcases Int.emod_two_eq a.2 with h | h
      · exact h
      · have := (preA_zero hf).2 h
        omega
    have hd := double_f hf
    have e := dbl_even hf he
    have h2 : (doubleA a).2 = a.2 / 2 := by rw [e]
    have hp' : preA (doubleA a) = p := by have := preA_even hf he; omega
    obtain ⟨N, h3, h4, h5⟩ := stop_small p (doubleA a) hd hp' (by omega)
    refine ⟨N + 1, by omega, by rw [h2] at h4; omega, ?_⟩
    rw [it_one, h5, hp', hp, it_one]
theorem orb_small {a : Ang} (hf : IsF a) (h : a.2 ≤ 63) : orbB a = true := by
  obtain ⟨N, h1, h2, h3⟩ := stop_small _ a hf rfl h
  unfold orbB lenA
  rw [List.find?_isSome]
  exact ⟨N, List.mem_range.2 (by omega), stop_yes ⟨h1, h3⟩⟩
theorem part_isA (m n : Int) (h1 : 1 ≤ n) (h2 : n ≤ 63) : IsA (ofQ m n) ∧ orbB (ofQ m n) = true := by
  have hf := ofQ_f m n h1
  have hb := ofQ_bd m n h1
  refine ⟨⟨⟨hf.1, by omega⟩, ⟨hf.2.1, by have := hf.2.2.1; omega⟩, by rw [hf.2.2.2]; rfl⟩, orb_small hf (by omega)⟩
noncomputable def qI (t : Ang) (n s : Int) (k : Nat) : Sq := itR (ofQ (s * k) n) t
def itn1C : PCtr := fun _ rg _ vals k => match vals with
  | [.int .i64 i, .ele r0 0 0 1, .ele r1 0 0 1, .ele r2 0 0 2] => rowC iT1 (rg r0) fun ss => rowC iT1 (rg r1) fun ns => rowC aT (rg r2) fun ts => (match (ss : List Int), (ns : List Int), (ts : List Ang) with
    | [s], [n], [t] => (((IsA t ∧ (1 ≤ n ∧ n ≤ 63)) ∧ (0 ≤ i ∧ i < n)) ∧ (s = 1 ∨ s = -1)) ∧ ∀ q : Sq, q = qI t n s i.toNat → k [] (.agg [.str q.1, .str q.2])
    | _, _, _ => False)
  | _ => False
theorem itn1_inv {rg : Nat → Option Row} {i : Int} {r0 r1 r2 : Nat} {X : Sq → Prop} (h : rowC iT1 (rg r0) fun ss => rowC iT1 (rg r1) fun ns => rowC aT (rg r2) fun ts => (match (ss : List Int), (ns : List Int), (ts : List Ang) with
    | [s], [n], [t] => (((IsA t ∧ (1 ≤ n ∧ n ≤ 63)) ∧ (0 ≤ i ∧ i < n)) ∧ (s = 1 ∨ s = -1)) ∧ ∀ q : Sq, q = qI t n s i.toNat → X q
    | _, _, _ => False)) : ∃ (e0 : TypeId) (o0 : Bool) (e1 : TypeId) (o1 : Bool) (e2 : TypeId) (o2 : Bool) (s n : Int) (t : Ang), rg r0 = some ⟨iT1, e0, o0, [s]⟩ ∧ rg r1 = some ⟨iT1, e1, o1, [n]⟩ ∧ rg r2 = some ⟨aT, e2, o2, [t]⟩ ∧ (((IsA t ∧ (1 ≤ n ∧ n ≤ 63)) ∧ (0 ≤ i ∧ i < n)) ∧ (s = 1 ∨ s = -1)) ∧ X (qI t n s i.toNat) := by
  obtain ⟨e0, o0, ss, hi0, h⟩ := rowC_inv h
  obtain ⟨e1, o1, ns, hi1, h⟩ := rowC_inv h
  obtain ⟨e2, o2, ts, hi2, h⟩ := rowC_inv h
  split at h
  case h_2 => exact h.elim
  obtain ⟨hc, hk⟩ := h
  exact ⟨e0, o0, e1, o1, e2, o2, _, _, _, hi0, hi1, hi2, hc, hk _ rfl⟩
theorem itn1_ok : PCtrOk Try.prog 66 itn1C where
  enter := enter_ok Try.func66 (by kernel_rfl) rfl
  calls := by
    intro hg rg lr vals k h
    unfold itn1C at h
    split at h
    case h_2 => exact h.elim
    rename_i i r0 r1 r2
    obtain ⟨e0, o0, e1, o1, e2, o2, s, n, t, hi0, hi1, hi2, ⟨⟨⟨ht, hn1, hn2⟩, hi0', hi1'⟩, hs⟩, hk⟩ := itn1_inv h
    refine ⟨_, _, hk, fun A w hB hR => ?_⟩
    refine enter T_ok (GOk.cons angle_ok (GOk.cons it_ok .nil)) Try.func66 rfl (K := (· < w.heap.size)) (fun _ h => h) (A := A.pick [] [r0, r1, r2]) (vals := [.int .i64 i, .ele 0 0 0 1, .ele 1 0 0 1, .ele 2 0 0 2]) (n0 := 0) (b0 := 0) (rows := [some ⟨iT1, e0, false, [s]⟩, some ⟨iT1, e1, false, [n]⟩, some ⟨aT, e2, false, [t]⟩]) (hp := []) rfl (Nat.zero_le _) no_box rfl (three_rows (hR r0 _ hi0) (hR r1 _ hi1) (hR r2 _ hi2)) rfl rfl (Nat.le_of_ble_eq_true rfl) ?_
    conv => whnf
    repeat (refine V_step T_ok (GOk.cons angle_ok (GOk.cons it_ok .nil)) rfl ?_; conv => whnf)
    have hsi : -63 ≤ s * i ∧ s * i ≤ 63 := by rcases hs with rfl | rfl <;> omega
    have hpa := part_isA (s * i) n hn1 hn2
    have hit : (((i.toNat : Nat) : Int)) = i := by omega
    have hr1 : Rng .i64 (s * i) := by simp only [Rng]; omega
    have hr2 : (0 < n ∧ n ≤ 4611686018427387904) ∧ (-4611686018427387904 ≤ s * i ∧ s * i ≤ 4611686018427387904) := by omega
    repeat (any_goals (first
      | (refine V_step T_ok (GOk.cons angle_ok (GOk.cons it_ok .nil)) rfl ?_; conv => whnf)
      | (refine V_drawN T_ok (GOk.cons angle_ok (GOk.cons it_ok .nil)) mixed (by kernel_rfl) ?_; conv => whnf)
      | (refine bcond_split (fun hc => ?_) (fun hc => ?_) <;> (try simp only [decide_eq_true_eq, decide_eq_false_iff_not, Bool.not_eq_true', Bool.not_eq_false', Bool.and_eq_true, Bool.or_eq_true, Bool.and_eq_false_imp, Bool.or_eq_false_iff, ne_eq, Decidable.not_not] at hc) <;> conv => whnf)
      | (intro ysK hysK; have hysl := congrArg List.length hysK; (try simp only [List.length_set, List.length_append, List.length_cons, List.length_nil, List.length_take, List.length_drop, List.length_replicate] at hysl); conv => whnf)
      | (intro bK hbK; have hbl := congrArg ByteArray.size hbK; conv => whnf)
      | (intro sK hsK; conv => whnf)
      | (refine And.intro (by first | (first | exact True.intro | omega | exact hr1 | exact hr2 | (simp only [Rng]; omega) | exact ⟨⟨hpa.1, ht⟩, hpa.2⟩) | exact True.intro | exact ⟨rfl, True.intro, fun _ _ => rfl⟩ | exact Nat.le_of_ble_eq_true rfl | (refine ⟨by (try simp only [List.length_cons, List.length_nil]); omega, Int.le_trans (Int.mul_le_mul_of_nonneg_left (show (TInfo.bytes _ : Int) ≤ 64 from Int.ofNat_le.2 (Nat.le_of_ble_eq_true rfl)) (by omega)) (by (try simp only [List.length_cons, List.length_nil]); omega)⟩)) ?_; conv => whnf)))
    all_goals exact leaf0 rfl (by rw [show sK = qI t n s i.toNat by unfold qI; rw [hit, itR_t hpa.2]; exact hsK]) rfl
def fillG (n g : Nat) : List Int := (List.range n).map fun i => if i < g then (i : Int) else 0
theorem fillG_len (n g : Nat) : (fillG n g).length = n := by unfold fillG; simp
theorem fillG_zero (n : Nat) : fillG n 0 = List.replicate n 0 := by
  unfold fillG
  refine List.ext_getElem (by simp) fun i h1 h2 => ?_
  simp
theorem fillG_all (n : Nat) : fillG n n = rngI n := by
  unfold fillG rngI
  refine List.map_congr_left fun i hi => ?_
  rw [List.mem_range] at hi
  rw [if_pos hi]
theorem mrgG_ext {c d : List Int} (hl : d.length = c.length) (h : ∀ i, i < c.length → d.getD i 0 = c.getD i 0) : d = c := by
  refine List.ext_getElem hl fun i h1 h2 => ?_
  have := h i h2
  rw [List.getD_eq_getElem?_getD, List.getD_eq_getElem?_getD, List.getElem?_eq_getElem h1, List.getElem?_eq_getElem h2] at this
  exact this
theorem fillG_at {n g i : Nat} (h : i < n) : (fillG n g).getD i 0 = if i < g then (i : Int) else 0 := by
  unfold fillG
  rw [List.getD_eq_getElem?_getD, List.getElem?_map, List.getElem?_range h]; rfl
theorem fillG_set {n g : Nat} (h : g < n) : (fillG n g).set g (g : Int) = fillG n (g + 1) := by
  refine mrgG_ext (by simp [fillG_len]) fun i hi => ?_
  rw [fillG_len] at hi
  rw [fillG_at hi]
  by_cases e : i = g
  · subst e
    rw [List.getD_eq_getElem?_getD, List.getElem?_set_self (by rw [fillG_len]; exact hi), if_pos (by omega)]; rfl
  · rw [List.getD_eq_getElem?_getD, List.getElem?_set_ne (fun h => e h.symm), ← List.getD_eq_getElem?_getD, fillG_at hi]
    split <;> split <;> first | rfl | omega
def mrgG (c : List Int) (a b : Int) (g : Nat) : List Int := (c.take g).map (mrg a b) ++ c.drop g
theorem mrgG_zero (c : List Int) (a b : Int) : mrgG c a b 0 = c := by simp [mrgG]
theorem mrgG_len (c : List Int) (a b : Int) (g : Nat) : (mrgG c a b g).length = c.length := by simp [mrgG]; omega
theorem mrgG_all (c : List Int) (a b : Int) : mrgG c a b c.length = c.map (mrg a b) := by simp [mrgG]
theorem mrgG_at {c : List Int} {a b : Int} {g i : Nat} (hi : i < c.length) : (mrgG c a b g).getD i 0 = if i < g then mrg a b (lab c i) else lab c i := by
  unfold mrgG lab
  rw [List.getD_eq_getElem?_getD, List.getD_eq_getElem?_getD]
  split
  · rename_i h
    rw [List.getElem?_append_left (by simp; omega), List.getElem?_map, List.getElem?_take, if_pos h, List.getElem?_eq_getElem hi]; rfl
  · rename_i h
    rw [List.getElem?_append_right (by simp; omega), List.getElem?_drop]
    congr 2
    simp
    omega
theorem mrgG_set {c : List Int} {a b : Int} {g : Nat} (hg : g < c.length) (he : lab c g = b) : (mrgG c a b g).set g a = mrgG c a b (g + 1) := by
  refine mrgG_ext (by simp [mrgG_len]) fun i hi => ?_
  rw [mrgG_len] at hi
  rw [mrgG_at hi]
  by_cases e : i = g
  · subst e
    rw [List.getD_eq_getElem?_getD, List.getElem?_set_self (by rw [mrgG_len]; exact hi), if_pos (by omega)]
    unfold mrg; rw [if_pos he]; rfl
  · rw [List.getD_eq_getElem?_getD, List.getElem?_set_ne (fun h => e h.symm), ← List.getD_eq_getElem?_getD, mrgG_at hi]
    split <;> split <;> first | rfl | omega
theorem mrgG_skip {c : List Int} {a b : Int} {g : Nat} (hg : g < c.length) (he : lab c g ≠ b) : mrgG c a b g = mrgG c a b (g + 1) := by
  refine mrgG_ext (by rw [mrgG_len, mrgG_len]) fun i hi => ?_
  rw [mrgG_len] at hi
  rw [mrgG_at hi, mrgG_at hi]
  by_cases e : i = g
  · subst e
    rw [if_neg (by omega), if_pos (by omega)]
    unfold mrg; rw [if_neg he]
  · split <;> split <;> first | rfl | omega
theorem ownL_len (c : List Int) (g h : Nat) : (ownL c g h).length ≤ h := by
  unfold ownL
  rw [List.length_map]
  have := List.length_filter_le (fun l => decide (lab c l = (g : Int))) (List.range h)
  rw [List.length_range] at this
  exact this
theorem clsG_len (n : Nat) (c : List Int) (g : Nat) : (clsG n c g).length ≤ g := by
  unfold clsG
  rw [List.length_map]
  have := List.length_filter_le (fun k => decide (lab c k = (k : Int))) (List.range g)
  rw [List.length_range] at this
  exact this
theorem hapI {b : Int} (h0 : 0 ≤ b) (h1 : b ≤ 64) (x y : Nat) (hx : x ≤ 5000) (hy : y ≤ 5000) : (x : Int) + (y : Int) ≤ 9223372036854775807 ∧ ((x : Int) + (y : Int)) * b ≤ 140737488355328 := by
  refine ⟨by omega, ?_⟩
  have h2 : ((x : Int) + (y : Int)) * b ≤ 10000 * 64 := Int.mul_le_mul (by omega) h1 h0 (by omega)
  omega
theorem mn_eq (x y : Int) : (if y < x then y else x) = min x y := by rw [Int.min_def]; split <;> split <;> omega
theorem mx_eq (x y : Int) : (if y > x then y else x) = max x y := by rw [Int.max_def]; split <;> split <;> omega
end Go.Proofs.Ytllagpbbbdekiac.Fw
