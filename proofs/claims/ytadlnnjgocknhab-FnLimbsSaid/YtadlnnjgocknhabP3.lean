/- Contracts: the program's ray pairs up to a period. -/
import Derived.Test.YtadlnnjgocknhabP2
namespace Go.Proofs.Ytadlnnjgocknhab.Fw
open Go Go.RowKit
set_option linter.unusedVariables false
set_option linter.unusedSimpArgs false
set_option maxRecDepth 100000
set_option maxHeartbeats 2000000
/-- A row behind elements a to b of its part that begins at lo and has n elements have been struck. -/
def delX {α : Type} (d : α) (xs : List α) (lo n a b : Nat) : List α := xs.take (lo + a) ++ ((xs.drop (lo + b)).take (n - b) ++ (List.replicate (b - a) d ++ xs.drop (lo + n)))
theorem delX_len {α : Type} {d : α} {xs : List α} {lo n a b : Nat} (h1 : a ≤ b) (h2 : b ≤ n) (h3 : lo + n ≤ xs.length) : (delX d xs lo n a b).length = xs.length := by
  unfold delX; simp; omega
theorem delX_get {α : Type} {d : α} {xs : List α} {lo n a b : Nat} (h1 : a ≤ b) (h2 : b ≤ n) (h3 : lo + n ≤ xs.length) (j : Nat) :
    (delX d xs lo n a b)[j]? = if j < lo + a then xs[j]? else if j < lo + n - (b - a) then xs[j + (b - a)]? else if j < lo + n then some d else xs[j]? := by
  unfold delX
  rw [List.getElem?_append, List.length_take]
  split
  · rw [List.getElem?_take, if_pos (by omega), if_pos (by omega)]
  · rw [if_neg (by omega), List.getElem?_append]
    simp only [List.length_take, List.length_drop]
    split
    · rw [if_pos (by omega), List.getElem?_take, if_pos (by omega), List.getElem?_drop]; congr 1; omega
    · rw [if_neg (by omega), List.getElem?_append, List.length_replicate]
      split
      · rw [if_pos (by omega), List.getElem?_replicate, if_pos (by omega)]
      · rw [if_neg (by omega), List.getElem?_drop]; congr 1; omega
def delC : MCtr := fun hg rg _ vals k => match vals with
  | [.vw i lo n 2, .int .i64 a, .int .i64 b] => rowO aT (rg i) fun e xs => ((0 ≤ a ∧ a < b ∧ b ≤ (n : Int)) ∧ lo + n ≤ (xs : List Ang).length ∧ (lo = 0 ∨ lo + n < (xs : List Ang).length)) ∧
    k [(i, some ⟨aT, e, true, delX aT.dflt (xs : List Ang) lo n a.toNat b.toNat⟩)] [] (.vw i lo (n - (b.toNat - a.toNat)) 2)
  | _ => False
theorem del_ok : MCtrOk Try.prog 130 delC where
  enter := enter_ok Try.func130 (by kernel_rfl) rfl
  calls := by
    intro hg rg lr vals k h
    unfold delC at h
    split at h
    case h_2 => exact h.elim
    rename_i i lo n a b
    obtain ⟨e, xs, hi, h⟩ : ∃ e, ∃ (xs : List Ang), _ := rowO_inv h
    obtain ⟨⟨⟨ha, hab, hb⟩, hl, hl2⟩, hk⟩ := h
    refine ⟨_, _, _, hk, (ups_one hi rfl (fun r' hr' => by cases hr'; exact ⟨rfl, rfl, rfl⟩)), fun A w hM => ?_⟩
    have hO := One.of hi rfl
    have hcap : (List.length (α := Ang) xs : Int) ≤ 9223372036854775807 := by
      have h1 := (hM.row i _ hi).1.len
      have h2 := (hM.row i _ hi).1.cap
      have h3 := (hM.row i _ hi).1.max
      simp only at h1
      have : maxLen = 9223372036854775807 := rfl
      omega
    refine enterM T_ok .nil Try.func130 rfl (w := w) (A := A.pick [] [i]) (vals := [.vw 0 lo n 2, .int .i64 a, .int .i64 b]) (n0 := 1) (b0 := 0) (rows := [some ⟨aT, e, true, xs⟩]) (hp := []) rfl (Nat.le_refl _) (hM.one hi) rfl rfl rfl (Nat.le_of_ble_eq_true rfl) ?_
    conv => whnf
    repeat (refine V_step T_ok .nil rfl ?_; conv => whnf)
    repeat (any_goals (first
      | (refine V_step T_ok .nil rfl ?_; conv => whnf)
      | (refine V_drawA T_ok .nil mixed (by kernel_rfl) ?_; conv => whnf)
      | (refine bcond_split (fun hc => ?_) (fun hc => ?_) <;> (try simp only [decide_eq_true_eq, decide_eq_false_iff_not, Bool.not_eq_true', Bool.not_eq_false', Bool.and_eq_true, Bool.or_eq_true, Bool.and_eq_false_imp, Bool.or_eq_false_iff, ne_eq, Decidable.not_not] at hc) <;> conv => whnf)
      | (intro ysK hysK; have hysl := congrArg List.length hysK; (try simp only [List.length_set, List.length_append, List.length_cons, List.length_nil, List.length_take, List.length_drop, List.length_replicate] at hysl); conv => whnf)
      | (refine And.intro (by first | (first | exact True.intro | omega | (simp only [Rng]; omega) | exact ⟨by omega, by omega, by omega, by omega, hl⟩) | exact True.intro | exact ⟨rfl, True.intro, fun _ _ => rfl⟩ | exact Nat.le_of_ble_eq_true rfl | (refine ⟨by (try simp only [List.length_cons, List.length_nil]); omega, Int.le_trans (Int.mul_le_mul_of_nonneg_left (show (TInfo.bytes _ : Int) ≤ 64 from Int.ofNat_le.2 (Nat.le_of_ble_eq_true rfl)) (by omega)) (by (try simp only [List.length_cons, List.length_nil]); omega)⟩)) ?_; conv => whnf)))
    · exact absurd hc (by omega)
    · refine Or.inl ?_
      conv => whnf
      repeat (any_goals (first
        | (refine V_step T_ok .nil rfl ?_; conv => whnf)
        | (refine V_drawA T_ok .nil mixed (by kernel_rfl) ?_; conv => whnf)
        | (refine bcond_split (fun hc => ?_) (fun hc => ?_) <;> (try simp only [decide_eq_true_eq, decide_eq_false_iff_not, Bool.not_eq_true', Bool.not_eq_false', Bool.and_eq_true, Bool.or_eq_true, Bool.and_eq_false_imp, Bool.or_eq_false_iff, ne_eq, Decidable.not_not] at hc) <;> conv => whnf)
        | (intro ysK hysK; have hysl := congrArg List.length hysK; (try simp only [List.length_set, List.length_append, List.length_cons, List.length_nil, List.length_take, List.length_drop, List.length_replicate] at hysl); conv => whnf)
        | (refine And.intro (by first | (first | exact True.intro | omega | (simp only [Rng]; omega) | exact ⟨by omega, by omega, by omega, by omega, hl⟩ | (simp only [List.length_take, List.length_drop]; omega) | (simp only [List.length_take, List.length_drop] at *; omega)) | exact True.intro | exact ⟨rfl, True.intro, fun _ _ => rfl⟩ | exact Nat.le_of_ble_eq_true rfl | (refine ⟨by (try simp only [List.length_cons, List.length_nil]); omega, Int.le_trans (Int.mul_le_mul_of_nonneg_left (show (TInfo.bytes _ : Int) ≤ 64 from Int.ofNat_le.2 (Nat.le_of_ble_eq_true rfl)) (by omega)) (by (try simp only [List.length_cons, List.length_nil]); omega)⟩)) ?_; conv => whnf)))
      rename_i y1 hy1 hl1
      have hm : a.toNat - 0 + (List.take (n - b.toNat) (List.drop (lo + b.toNat) xs)).length = n - (b.toNat - a.toNat) := by simp; omega
      have hK : ysK = delX aT.dflt xs lo n a.toNat b.toNat := by
        have hy1 : y1 = (xs.take (lo + a.toNat) ++ (xs.drop (lo + b.toNat)).take (n - b.toNat)) ++ xs.drop (lo + a.toNat + (n - b.toNat)) := by
          rw [List.append_assoc]
          have e : ((xs.drop (lo + b.toNat)).take (n - b.toNat)).length = n - b.toNat := by simp; omega
          have := hy1
          rw [e] at this
          exact this
        have h2 : ysK = y1.take (lo + (n - (b.toNat - a.toNat))) ++ (List.replicate (n - (n - (b.toNat - a.toNat))) aT.dflt ++ y1.drop (lo + (n - (b.toNat - a.toNat)) + (n - (n - (b.toNat - a.toNat))))) := by
          have := hysK
          rw [hm] at this
          exact this
        have e1 : y1.take (lo + (n - (b.toNat - a.toNat))) = xs.take (lo + a.toNat) ++ (xs.drop (lo + b.toNat)).take (n - b.toNat) := by
          rw [hy1, List.take_left' (by simp; omega)]
        have e2 : y1.drop (lo + (n - (b.toNat - a.toNat)) + (n - (n - (b.toNat - a.toNat)))) = xs.drop (lo + n) := by
          rw [hy1, List.drop_append, List.drop_of_length_le (by simp; omega), List.nil_append, List.drop_drop]
          congr 1
          simp; omega
        rw [h2, e1, e2, List.append_assoc]
        unfold delX
        rw [show n - (n - (b.toNat - a.toNat)) = b.toNat - a.toNat by omega]
      rw [← hK]
      refine leafMW hO Nat.zero_lt_one rfl rfl rfl (fun B C h => ?_)
      rw [hm]; simp [AVal.den, h] <;> rfl
/-! ### the pairs up to a period -/
def upToC : PCtr := fun _ _ lr vals k => match vals with
  | [.int .i64 n] => (2 ≤ n ∧ n ≤ 8) ∧ k [⟨lT, 28, true, prN (n.toNat - 1)⟩] (.row lr)
  | _ => False
theorem prN_len {m : Nat} (h : m ≤ 7) : (prN m).length ≤ 2000 := by
  have : m = 0 ∨ m = 1 ∨ m = 2 ∨ m = 3 ∨ m = 4 ∨ m = 5 ∨ m = 6 ∨ m = 7 := by omega
  rcases this with rfl | rfl | rfl | rfl | rfl | rfl | rfl | rfl <;> decide +kernel
theorem toNat_one : Int.toNat 1 = 1 := rfl
theorem toNat_zero' : Int.toNat 0 = 0 := rfl
/-- What is known while the pairs of one period are found: so far, and the angles left. -/
structure UpS (T out : List Lf) (zs : List Ang) (lo n : Nat) : Prop where
  fit : lo + n ≤ zs.length
  room : lo = 0 ∨ lo + n < zs.length
  asc : Asc ((zs.drop lo).take n)
  isL : ∀ x ∈ out, IsL x
  res : gr freeQ n out ((zs.drop lo).take n) = T
  ok : okG freeQ n out ((zs.drop lo).take n) = true
  small : out.length + n ≤ 2300
theorem UpS.cons {T out : List Lf} {zs : List Ang} {lo n : Nat} (h : UpS T out zs lo n) (h0 : 0 < n) : (zs.drop lo).take n = zs.getD lo aT.dflt :: (zs.drop (lo + 1)).take (n - 1) := by
  have hf := h.fit
  obtain ⟨m, rfl⟩ : ∃ m, n = m + 1 := ⟨n - 1, by omega⟩
  rw [List.drop_eq_getElem_cons (by omega), List.take_succ_cons, List.getD_eq_getElem?_getD, List.getElem?_eq_getElem (by omega)]
  rfl
theorem UpS.sm {T out : List Lf} {zs : List Ang} {lo n : Nat} (h : UpS T out zs lo n) (h0 : 0 < n) : Sm (zs.getD lo aT.dflt) ∧ (∀ p ∈ out, SmL p) ∧ ∀ x ∈ (zs.drop (lo + 1)).take (n - 1), Sm x := by
  have ha := h.asc
  rw [h.cons h0] at ha
  exact ⟨(ha.isA _ (by simp)).sm, fun p hp => (h.isL p hp).sm, fun x hx => (ha.isA x (by simp [hx])).sm⟩
theorem UpS.step {T out : List Lf} {zs : List Ang} {lo n : Nat} (h : UpS T out zs lo n) (h0 : 0 < n) : ∃ K : Nat, idxP (frP zs lo out) ((zs.drop (lo + 1)).take (n - 1)) = (K : Int) ∧ K + 1 < n ∧
    UpS T (out ++ [(zs.getD lo aT.dflt, zs.getD (lo + (1 + K)) aT.dflt)]) (delX aT.dflt zs lo n (1 + K) (1 + K + 1)) (lo + 1) (n - 2) := by
  have hc := h.cons h0
  have hf := h.fit
  have hasc := h.asc
  have hok := h.ok
  have hres := h.res
  rw [hc] at hasc hok hres
  have hll : ((zs.drop (lo + 1)).take (n - 1)).length = n - 1 := by simp; omega
  have hlg : ∀ j, ((zs.drop (lo + 1)).take (n - 1))[j]? = if j < n - 1 then zs[lo + 1 + j]? else none := fun j => by rw [List.getElem?_take, List.getElem?_drop]
  generalize hL : (zs.drop (lo + 1)).take (n - 1) = l at *
  generalize hA : zs.getD lo aT.dflt = a at *
  obtain ⟨m, rfl⟩ : ∃ m, n = m + 1 := ⟨n - 1, by omega⟩
  rw [okG] at hok
  rw [gr] at hres
  have hcg : popP (freeQ out a) l = popP (freeI out a) l := popP_congr fun b hb => (freeI_Q out a b h.isL (hasc.isL hb)).symm
  rw [hcg, popP_idx aT.dflt] at hok hres
  by_cases hi : 0 ≤ idxP (freeI out a) l
  · rw [if_pos hi] at hok hres
    simp only at hok hres
    obtain ⟨K, hK, hK2, hK3, _⟩ : ∃ n : Nat, idxP (freeI out a) l = (n : Int) ∧ n < l.length ∧ freeI out a (l.getD n aT.dflt) = true ∧ ∀ x ∈ l.take n, freeI out a x = false := by
      rcases idxP_cases (freeI out a) aT.dflt l with ⟨h1, _⟩ | h1
      · omega
      · exact h1
    have eK : (idxP (freeI out a) l).toNat = K := by omega
    rw [eK] at hok hres
    have hfr : (frP zs lo out) = freeI out a := by funext x; rw [← hA]; rfl
    have hgb : l.getD K aT.dflt = zs.getD (lo + (1 + K)) aT.dflt := by
      rw [List.getD_eq_getElem?_getD, hlg, if_pos (by omega), ← List.getD_eq_getElem?_getD, Nat.add_assoc]
    have hleft : ((delX aT.dflt zs lo (m + 1) (1 + K) (1 + K + 1)).drop (lo + 1)).take (m + 1 - 2) = l.eraseIdx K := by
      apply List.ext_getElem?
      intro j
      rw [List.getElem?_take, List.getElem?_drop, delX_get (by omega) (by omega) (by omega), List.getElem?_eraseIdx]
      by_cases h1 : j < m + 1 - 2
      · rw [if_pos h1]
        by_cases h2 : j < K
        · rw [if_pos (by omega), if_pos h2, hlg, if_pos (by omega)]
        · rw [if_neg (by omega), if_pos (by omega), if_neg h2, hlg, if_pos (by omega)]; congr 1; omega
      · rw [if_neg h1, if_neg (by omega), hlg, if_neg (by omega)]
    have hel : (l.eraseIdx K).length = m + 1 - 2 := by rw [List.length_eraseIdx]; rw [if_pos hK2]; omega
    refine ⟨K, by rw [hfr]; exact hK, by omega, ?_⟩
    have hdl := delX_len (d := aT.dflt) (xs := zs) (lo := lo) (n := m + 1) (a := 1 + K) (b := 1 + K + 1) (by omega) (by omega) hf
    refine ⟨by rw [hdl]; omega, .inr (by rw [hdl]; omega), by rw [hleft]; exact hasc.tail.sub (List.eraseIdx_sublist ..), snoc_isL h.isL (by rw [← hgb]; exact hasc.isL (getD_mem hK2)), ?_, ?_, by
      have := h.small; simp; omega⟩
    · rw [hleft, ← hgb, gr_fuel freeQ (m + 1 - 2) m _ _ (by omega) (by omega)]; exact hres
    · rw [hleft, ← hgb, okG_fuel freeQ (m + 1 - 2) m _ _ (by omega) (by omega)]; exact hok
  · rw [if_neg hi] at hok; cases hok
theorem UpS.done {T out : List Lf} {zs : List Ang} {lo : Nat} (h : UpS T out zs lo 0) : out = T := by
  have := h.res
  rwa [gr] at this
theorem UpS.start {m : Nat} (h : m < 7) : UpS (prN (m + 1)) (prN m) (angsN (m + 2)) 0 (angsN (m + 2)).length := by
  have hl := angs_len (m + 2) (by omega)
  have ha := angs_asc (n := m + 2) (by omega) (by omega)
  refine ⟨by omega, .inl rfl, by simpa using ha, prN_isL (by omega), ?_, ?_, by have := prN_len (m := m) (by omega); omega⟩
  · rw [List.drop_zero, List.take_length, gr_fuel freeQ _ 256 _ _ (Nat.le_refl _) hl]; rfl
  · rw [List.drop_zero, List.take_length, okG_fuel freeQ _ 256 _ _ (Nat.le_refl _) hl]; exact ok_at h
abbrev GUP := GOk.cons angsOf_ok (GOk.cons frx_ok (GOk.mcons del_ok .nil))
theorem upTo_ok : PCtrOk Try.prog 94 upToC where
  enter := enter_ok Try.func94 (by kernel_rfl) rfl
  calls := by
    intro hg rg lr vals k h
    unfold upToC at h
    split at h
    case h_2 => exact h.elim
    rename_i n
    obtain ⟨hn, hk⟩ := h
    refine ⟨_, _, hk, fun A w _ _ => ?_⟩
    refine enter T_ok GUP Try.func94 rfl (K := (· < w.heap.size)) (fun _ h => h) (A := A) (n0 := 0) (b0 := 0) (rows := []) (hp := []) rfl (Nat.zero_le _) (fun k r h => by cases h) rfl (fun k r h => by cases h) rfl rfl (Nat.le_of_ble_eq_true rfl) ?_
    conv => whnf
    repeat (refine V_step T_ok GUP rfl ?_; conv => whnf)
    obtain ⟨N, rfl⟩ : ∃ N : Nat, n = (N : Int) := ⟨n.toNat, by omega⟩
    refine V_loopP (γ := Nat) (fun m => m ≤ N - 1) (fun m => N - m)
      (fun m => [(4, .int .i64 ((m : Int) + 2))]) (fun _ => [(0, [.row 0])]) (fun _ => []) (fun m => [some ⟨lT, 28, true, prN m⟩]) 0 (Nat.zero_le _) ?_ ?_
    · conv => whnf
      refine ⟨?_, by (conv => whnf); repeat (first | exact True.intro | (refine And.intro rfl ?_; conv => whnf)), by (conv => whnf); repeat (first | exact True.intro | (refine And.intro (by first | rfl | (subst_vars; rfl)) ?_; conv => whnf)), rfl, rfl, rfl, rfl, rfl, rfl, rfl, Nat.le_of_ble_eq_true rfl, Nat.le_of_ble_eq_true rfl⟩
      conv => whnf
      repeat (first | exact True.intro | (refine And.intro (by first | rfl | ((conv => whnf); exact congrArg (AVal.int .i64) (by omega)) | ((conv => whnf); exact congrArg (AVal.int .i64) (by simp only [Int.natCast_add, Int.natCast_one]; omega)) | ((conv => whnf); exact congrArg (AVal.irow _) (by first | omega | assumption | (simp only; omega)))) ?_; conv => whnf))
    · rintro m hm
      conv => whnf
      refine vcCode_sound T_ok GUP _ _ _ _ _ ?_
      conv => whnf
      repeat (refine V_step T_ok GUP rfl ?_; conv => whnf)
      repeat (any_goals (first
        | (refine V_step T_ok GUP rfl ?_; conv => whnf)
        | (refine V_drawA T_ok GUP mixed (by kernel_rfl) ?_; conv => whnf)
        | (refine bcond_split (fun hc => ?_) (fun hc => ?_) <;> (try simp only [decide_eq_true_eq, decide_eq_false_iff_not, Bool.not_eq_true', Bool.not_eq_false', Bool.and_eq_true, Bool.or_eq_true, Bool.and_eq_false_imp, Bool.or_eq_false_iff, ne_eq, Decidable.not_not] at hc) <;> conv => whnf)
        | (intro ysK hysK; have hysl := congrArg List.length hysK; (try simp only [List.length_set, List.length_append, List.length_cons, List.length_nil, List.length_take, List.length_drop, List.length_replicate] at hysl); conv => whnf)
        | (refine And.intro (by first | (first | exact True.intro | omega | (simp only [Rng]; omega)) | exact True.intro | exact ⟨rfl, True.intro, fun _ _ => rfl⟩ | exact Nat.le_of_ble_eq_true rfl | (refine ⟨by (try simp only [List.length_cons, List.length_nil]); omega, Int.le_trans (Int.mul_le_mul_of_nonneg_left (show (TInfo.bytes _ : Int) ≤ 64 from Int.ofNat_le.2 (Nat.le_of_ble_eq_true rfl)) (by omega)) (by (try simp only [List.length_cons, List.length_nil]); omega)⟩)) ?_; conv => whnf)))
      · have hm2 : (m : Int) + 2 ≤ (N : Int) := hc
        refine V_loopH (γ := List Lf × (List Ang × (Nat × Nat))) (fun g => UpS (prN (m + 1)) g.1 g.2.1 g.2.2.1 g.2.2.2) (fun g => g.2.2.2)
          (fun _ => []) (fun g => [(0, [.row 0]), (1, [.vw 1 g.2.2.1 g.2.2.2 2])]) (fun g => [(0, some ⟨lT, 28, true, g.1⟩), (1, some ⟨aT, 25, true, g.2.1⟩)]) (prN m, (angsN (m + 2), (0, (angsN (m + 2)).length))) (UpS.start (by omega)) ?_ ?_
        · conv => whnf
          refine ⟨?_, by (conv => whnf); repeat (first | exact True.intro | (refine And.intro rfl ?_; conv => whnf)), by (conv => whnf); repeat (first | exact True.intro | (refine And.intro (by first | rfl | (subst_vars; rfl)) ?_; conv => whnf)), rfl, rfl, rfl, rfl, rfl, rfl, rfl, Nat.le_of_ble_eq_true rfl, Nat.le_of_ble_eq_true rfl⟩
          conv => whnf
          repeat (first | exact True.intro | (refine And.intro (by first | rfl | ((conv => whnf); exact congrArg (AVal.int .i64) (by omega)) | ((conv => whnf); exact congrArg (AVal.int .i64) (by simp only [Int.natCast_add, Int.natCast_one]; omega)) | ((conv => whnf); exact congrArg (AVal.irow _) (by first | omega | assumption | (simp only; omega)))) ?_; conv => whnf))
        · rintro ⟨out, zs, lo, n⟩ hU
          simp only at hU
          conv => whnf
          refine vcCode_sound T_ok GUP _ _ _ _ _ ?_
          conv => whnf
          repeat (refine V_step T_ok GUP rfl ?_; conv => whnf)
          rcases Nat.eq_zero_or_pos n with h0 | h0
          · skip
            repeat (any_goals (first
              | (refine V_step T_ok GUP rfl ?_; conv => whnf)
              | (refine V_drawA T_ok GUP mixed (by kernel_rfl) ?_; conv => whnf)
              | (refine bcond_split (fun hc => ?_) (fun hc => ?_) <;> (try simp only [decide_eq_true_eq, decide_eq_false_iff_not, Bool.not_eq_true', Bool.not_eq_false', Bool.and_eq_true, Bool.or_eq_true, Bool.and_eq_false_imp, Bool.or_eq_false_iff, ne_eq, Decidable.not_not] at hc) <;> conv => whnf)
              | (intro ysK hysK; have hysl := congrArg List.length hysK; (try simp only [List.length_set, List.length_append, List.length_cons, List.length_nil, List.length_take, List.length_drop, List.length_replicate] at hysl); conv => whnf)
              | (refine And.intro (by first | (first | exact True.intro | omega | (simp only [Rng]; omega)) | exact True.intro | exact ⟨rfl, True.intro, fun _ _ => rfl⟩ | exact Nat.le_of_ble_eq_true rfl | (refine ⟨by (try simp only [List.length_cons, List.length_nil]); omega, Int.le_trans (Int.mul_le_mul_of_nonneg_left (show (TInfo.bytes _ : Int) ≤ 64 from Int.ofNat_le.2 (Nat.le_of_ble_eq_true rfl)) (by omega)) (by (try simp only [List.length_cons, List.length_nil]); omega)⟩)) ?_; conv => whnf)))
            · exact absurd hc (by omega)
            · subst h0
              have hd := hU.done
              refine ⟨m + 1, by omega, by omega, ?_⟩
              rw [← hd]
              conv => whnf
              refine ⟨?_, by (conv => whnf); repeat (first | exact True.intro | (refine And.intro rfl ?_; conv => whnf)), by (conv => whnf); repeat (first | exact True.intro | (refine And.intro (by first | rfl | (subst_vars; rfl)) ?_; conv => whnf)), rfl, rfl, rfl, rfl, rfl, rfl, rfl, Nat.le_of_ble_eq_true rfl, Nat.le_of_ble_eq_true rfl⟩
              conv => whnf
              repeat (first | exact True.intro | (refine And.intro (by first | rfl | ((conv => whnf); exact congrArg (AVal.int .i64) (by omega)) | ((conv => whnf); exact congrArg (AVal.int .i64) (by simp only [Int.natCast_add, Int.natCast_one]; omega)) | ((conv => whnf); exact congrArg (AVal.irow _) (by first | omega | assumption | (simp only; omega)))) ?_; conv => whnf))
          · obtain ⟨K, hK, hK2, hS⟩ := hU.step h0
            have hs := hU.sm h0
            have hf := hU.fit
            have hsm := hU.small
            have hroom := hU.room
            have hol : (List.length (α := Lf) out : Int) ≤ 2300 := by omega
            have hT1 : (1 + (K : Int)).toNat = 1 + K := by omega
            have hT2 : (1 + (K : Int) + 1).toNat = 1 + K + 1 := by omega
            have hT3 : n - (1 + K + 1 - (1 + K)) - 1 = n - 2 := by omega
            have hr2 : (1 : Int).toNat = 0 ∨ lo = 0 ∨ lo + (1 : Int).toNat < List.length (α := Ang) zs := by
              rcases hU.room with h | h
              · exact .inr (.inl h)
              · exact .inr (.inr (by omega))
            have hdl := delX_len (d := aT.dflt) (xs := zs) (lo := lo) (n := n) (a := 1 + K) (b := 1 + K + 1) (by omega) (by omega) hf
            repeat (any_goals (first
              | (refine V_step T_ok GUP rfl ?_; conv => whnf)
              | (refine V_drawA T_ok GUP mixed (by kernel_rfl) ?_; conv => whnf)
              | (refine bcond_split (fun hc => ?_) (fun hc => ?_) <;> (try simp only [decide_eq_true_eq, decide_eq_false_iff_not, Bool.not_eq_true', Bool.not_eq_false', Bool.and_eq_true, Bool.or_eq_true, Bool.and_eq_false_imp, Bool.or_eq_false_iff, ne_eq, Decidable.not_not] at hc) <;> conv => whnf)
              | (intro ysK hysK; have hysl := congrArg List.length hysK; (try simp only [List.length_set, List.length_append, List.length_cons, List.length_nil, List.length_take, List.length_drop, List.length_replicate] at hysl); conv => whnf)
              | (refine And.intro (by first | (first | exact True.intro | exact hr2 | exact ⟨⟨⟨h0, hf⟩, hs.1, hs.2.1⟩, hs.2.2⟩ | omega | (simp only [Rng, toNat_one, hK, hT1, hT2, hdl]; omega) | (simp only [Rng]; omega)) | exact True.intro | exact ⟨rfl, True.intro, fun _ _ => rfl⟩ | exact Nat.le_of_ble_eq_true rfl | (refine ⟨by (try simp only [List.length_cons, List.length_nil]); omega, Int.le_trans (Int.mul_le_mul_of_nonneg_left (show (TInfo.bytes _ : Int) ≤ 64 from Int.ofNat_le.2 (Nat.le_of_ble_eq_true rfl)) (by omega)) (by (try simp only [List.length_cons, List.length_nil]); omega)⟩)) ?_; conv => whnf)))
            · simp only [toNat_one, toNat_zero', Nat.add_zero, hK, hT1, hT2, hT3] at hysK ⊢
              subst hysK
              refine ⟨(_, (_, (_, _))), hS, by simp only; omega, ?_⟩
              conv => whnf
              refine ⟨?_, by (conv => whnf); repeat (first | exact True.intro | (refine And.intro rfl ?_; conv => whnf)), by (conv => whnf); repeat (first | exact True.intro | (refine And.intro (by first | rfl | (subst_vars; rfl)) ?_; conv => whnf)), rfl, rfl, rfl, rfl, rfl, rfl, rfl, Nat.le_of_ble_eq_true rfl, Nat.le_of_ble_eq_true rfl⟩
              conv => whnf
              repeat (first | exact True.intro | (refine And.intro (by first | rfl | ((conv => whnf); exact congrArg (AVal.int .i64) (by omega)) | ((conv => whnf); exact congrArg (AVal.int .i64) (by simp only [Int.natCast_add, Int.natCast_one]; omega)) | ((conv => whnf); exact congrArg (AVal.irow _) (by first | omega | assumption | (simp only; omega)))) ?_; conv => whnf))
            · exact absurd h0 (by omega)
      · have hc : ¬ (m : Int) + 2 ≤ (N : Int) := hc
        have e : m = N - 1 := by omega
        refine leaf1 0 rfl rfl ?_ rfl (fun B C h => ?_)
        · show (⟨lT, 28, true, prN m⟩ : Row) = ⟨lT, 28, true, prN (N - 1)⟩
          rw [e]
        · simp [AVal.den, h]
end Go.Proofs.Ytadlnnjgocknhab.Fw
