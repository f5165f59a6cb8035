/- The law of classes, walked. -/
import Derived.Test.YtllagpbbbdekiacTG
import Derived.Test.YtllagpbbbdekiacT15
namespace Go.Proofs.Ytllagpbbbdekiac.Fw
open Go Go.RowKit
set_option linter.unusedVariables false
set_option linter.unusedSimpArgs false
set_option maxRecDepth 100000
set_option maxHeartbeats 40000000
def bigC : PCtr := fun _ rg _ vals k => match vals with
  | [.row i] => rowC bT (rg i) fun xs => True ∧ k [] (.bool (decide (4096 < (List.length (α := Int) xs : Int))))
  | _ => False
theorem big_ok : PCtrOk Try.prog 4 bigC where
  enter := enter_ok Try.func4 (by kernel_rfl) rfl
  calls := by
    intro hg rg lr vals k h
    unfold bigC at h
    split at h
    case h_2 => exact h.elim
    rename_i i
    obtain ⟨e, own, xs, hi, h⟩ : ∃ e own, ∃ (xs : List Int), _ := rowC_inv h
    have hk := h.2
    refine ⟨_, _, hk, fun A w hB hR => ?_⟩
    refine enter T_ok .nil Try.func4 rfl (K := (· < w.heap.size)) (fun _ h => h) (A := A.pick [] [i]) (vals := [.row 0]) (n0 := 0) (b0 := 0) (rows := [some ⟨bT, e, false, xs⟩]) (hp := []) rfl (Nat.zero_le _) no_box rfl (one_row (hR i _ hi)) rfl rfl (Nat.le_of_ble_eq_true rfl) ?_
    conv => whnf
    repeat (refine V_step T_ok .nil rfl ?_; conv => whnf)
    repeat (any_goals (first
      | (refine V_step T_ok .nil rfl ?_; conv => whnf)
      | (refine V_drawA T_ok .nil mixed (by kernel_rfl) ?_; conv => whnf)
      | (refine bcond_split (fun hc => ?_) (fun hc => ?_) <;> (try simp only [decide_eq_true_eq, decide_eq_false_iff_not, Bool.not_eq_true', Bool.not_eq_false', Bool.and_eq_true, Bool.or_eq_true, Bool.and_eq_false_imp, Bool.or_eq_false_iff, ne_eq, Decidable.not_not] at hc) <;> conv => whnf)
      | (intro ysK hysK; have hysl := congrArg List.length hysK; (try simp only [List.length_set, List.length_append, List.length_cons, List.length_nil, List.length_take, List.length_drop, List.length_replicate] at hysl); conv => whnf)
      | (intro bK hbK; have hbl := congrArg ByteArray.size hbK; conv => whnf)
      | (intro sK hsK; conv => whnf)
      | (refine And.intro (by first | exact True.intro | (with_reducible assumption) | omega | (simp only [Rng]; omega) | exact Nat.le_of_ble_eq_true rfl | exact True.intro | exact ⟨rfl, True.intro, fun _ _ => rfl⟩ | exact Nat.le_of_ble_eq_true rfl | (refine ⟨by (try simp only [List.length_cons, List.length_nil]); omega, Int.le_trans (Int.mul_le_mul_of_nonneg_left (show (TInfo.bytes _ : Int) ≤ 64 from Int.ofNat_le.2 (Nat.le_of_ble_eq_true rfl)) (by omega)) (by (try simp only [List.length_cons, List.length_nil]); omega)⟩)) ?_; conv => whnf)))
    all_goals exact leaf0 rfl rfl rfl
theorem clo_nil {t : Ang} {n : Int} {C : List (List Int)} {one : Int} (h : (C, one) = cloR t n) (h1 : ¬ one = 0) : (List.length (α := List Int) C : Int) = 0 := by
  by_cases a : IsA t
  · by_cases b : OkN n
    · rw [cloR_t a b] at h; exact absurd (congrArg Prod.snd h) h1
    · rw [cloR_r a b] at h; rw [show C = [] from congrArg Prod.fst h]; rfl
  · rw [cloR_i a] at h; rw [show C = [] from congrArg Prod.fst h]; rfl
theorem clo_zero {t : Ang} {n : Int} {C : List (List Int)} {one : Int} (h : (C, one) = cloR t n) (h1 : one = 0) : (IsA t ∧ OkN n) ∧ C = cls1 t n := by
  by_cases a : IsA t
  · by_cases b : OkN n
    · rw [cloR_t a b] at h; exact ⟨⟨a, b⟩, congrArg Prod.fst h⟩
    · rw [cloR_r a b] at h; rw [show one = 2 from congrArg Prod.snd h] at h1; cases h1
  · rw [cloR_i a] at h; rw [show one = 1 from congrArg Prod.snd h] at h1; cases h1
theorem totG_le {L : List (List Int)} (h : ∀ r ∈ L, r.length ≤ 63) (hl : L.length ≤ 63) : ∀ g, g ≤ L.length → totG L g ≤ 63 * g
  | 0, _ => Nat.le_refl _
  | g + 1, hg => by
    have ih := totG_le h hl g (by omega)
    rw [totG_next L (by omega)]
    have := h _ (getD_mem (l := L) (i := g) (d := []) (by omega))
    omega
def lawClC : PCtr := fun _ rg _ vals k => match vals with
  | [.row i] => rowC bT (rg i) fun code => Bts code ∧ k [] (.bool true)
  | _ => False
abbrev GLfc := GOk.cons big_ok (GOk.rcons dCls_ok (GOk.cons classesOf_ok (GOk.cons sClo_ok (GOk.cons lists9_ok (GOk.rcons dJoc_ok (GOk.cons joinedClasses_ok (GOk.cons sJoc_ok (GOk.rcons dAj_ok (GOk.cons aj_ok (GOk.cons sAj_ok (GOk.cons lc_ok (GOk.cons sLc_ok (GOk.cons ci_ok (GOk.cons sCi_ok (GOk.cons likeI_ok (GOk.cons cy_ok (GOk.cons sCy_ok (GOk.cons angO_ok (GOk.cons ltO_ok .nil)))))))))))))))))))
theorem lawCl_ok : PCtrOk Try.prog 3 lawClC where
  enter := enter_ok Try.func3 (by kernel_rfl) rfl
  calls := by
    intro hg rg lr vals k h
    unfold lawClC at h
    split at h
    case h_2 => exact h.elim
    rename_i i
    obtain ⟨e, own, code, hi, h⟩ : ∃ e own, ∃ (xs : List Int), _ := rowC_inv h
    obtain ⟨hb, hk⟩ := h
    refine ⟨_, _, hk, fun A w hB hR => ?_⟩
    refine enter T_ok GLfc Try.func3 rfl (K := (· < w.heap.size)) (fun _ h => h) (A := A.pick [] [i]) (vals := [.row 0]) (n0 := 0) (b0 := 0) (rows := [some ⟨bT, e, false, code⟩]) (hp := []) rfl (Nat.zero_le _) no_box rfl (one_row (hR i _ hi)) rfl rfl (Nat.le_of_ble_eq_true rfl) ?_
    conv => whnf
    repeat (refine V_step T_ok GLfc rfl ?_; conv => whnf)
    repeat (any_goals (first
      | (refine V_step T_ok GLfc rfl ?_; conv => whnf)
      | (refine V_drawN T_ok GLfc mixed (by kernel_rfl) ?_; conv => whnf)
      | (refine bcond_split (fun hc => ?_) (fun hc => ?_) <;> (try simp only [decide_eq_true_eq, decide_eq_false_iff_not, Bool.not_eq_true', Bool.not_eq_false', Bool.and_eq_true, Bool.or_eq_true, Bool.and_eq_false_imp, Bool.or_eq_false_iff, ne_eq, Decidable.not_not] at hc) <;> conv => whnf)
      | (intro ysK hysK; have hysl := congrArg List.length hysK; (try simp only [List.length_set, List.length_append, List.length_cons, List.length_nil, List.length_take, List.length_drop, List.length_replicate] at hysl); conv => whnf)
      | (intro bK hbK; have hbl := congrArg ByteArray.size hbK; conv => whnf)
      | (intro sK hsK; conv => whnf)
      | (refine And.intro (by first | (first | exact True.intro | exact hb) | exact True.intro | exact ⟨rfl, True.intro, fun _ _ => rfl⟩ | exact Nat.le_of_ble_eq_true rfl | (refine ⟨by (try simp only [List.length_cons, List.length_nil]); omega, Int.le_trans (Int.mul_le_mul_of_nonneg_left (show (TInfo.bytes _ : Int) ≤ 64 from Int.ofNat_le.2 (Nat.le_of_ble_eq_true rfl)) (by omega)) (by (try simp only [List.length_cons, List.length_nil]); omega)⟩)) ?_; conv => whnf)))
    · exact leaf0 rfl rfl rfl
    · rename_i hx
      exact absurd (congrArg Prod.snd (hx.trans hsK.symm)) hc
    rename_i q _ x hx
    obtain ⟨⟨a1, a2⟩, n1⟩ := q
    have hx : x = cloR (a1, a2) n1 := hx
    have hsK : sK = cloR (a1, a2) n1 := hsK
    have hxs : x = sK := hx.trans hsK.symm
    subst hxs
    clear hsK
    have hll : ∀ x : List (List Int), eqLL x x = true := eqLL_self
    have hli : ∀ x : List Int, eqLI x x = true := eqLI_self
    have z1 := (cloR_small (a1, a2) n1).eq
    rw [← hx] at z1
    have z1s := cloR_small (a1, a2) n1
    rw [← hx] at z1s
    clear hc
    obtain ⟨C, one⟩ := x
    repeat (any_goals (first
      | (refine V_step T_ok GLfc rfl ?_; conv => whnf)
      | (refine V_drawN T_ok GLfc mixed (by kernel_rfl) ?_; conv => whnf)
      | (refine bcond_split (fun hc => ?_) (fun hc => ?_) <;> (try simp only [decide_eq_true_eq, decide_eq_false_iff_not, Bool.not_eq_true', Bool.not_eq_false', Bool.and_eq_true, Bool.or_eq_true, Bool.and_eq_false_imp, Bool.or_eq_false_iff, ne_eq, Decidable.not_not] at hc) <;> conv => whnf)
      | (intro ysK hysK; have hysl := congrArg List.length hysK; (try simp only [List.length_set, List.length_append, List.length_cons, List.length_nil, List.length_take, List.length_drop, List.length_replicate] at hysl); conv => whnf)
      | (intro bK hbK; have hbl := congrArg ByteArray.size hbK; conv => whnf)
      | (intro sK hsK; conv => whnf)
      | (refine And.intro (by first | (first | exact True.intro | exact hb | with_reducible exact z1) | exact True.intro | exact ⟨rfl, True.intro, fun _ _ => rfl⟩ | exact Nat.le_of_ble_eq_true rfl | (refine ⟨by (try simp only [List.length_cons, List.length_nil]); omega, Int.le_trans (Int.mul_le_mul_of_nonneg_left (show (TInfo.bytes _ : Int) ≤ 64 from Int.ofNat_le.2 (Nat.le_of_ble_eq_true rfl)) (by omega)) (by (try simp only [List.length_cons, List.length_nil]); omega)⟩)) ?_; conv => whnf)))
    · rw [hll] at hc; cases hc
    · rename_i hx
      exact absurd (congrArg Prod.snd (hx.trans hsK.symm)) hc
    rename_i q _ x hx2
    obtain ⟨⟨b1, b2⟩, ⟨c1, c2⟩, m⟩ := q
    have hx2 : x = jocR (b1, b2) (c1, c2) m := hx2
    have hsK : sK = jocR (b1, b2) (c1, c2) m := hsK
    have hxs : x = sK := hx2.trans hsK.symm
    subst hxs
    clear hsK
    have z2 := (jocR_small (b1, b2) (c1, c2) m).eq
    rw [← hx2] at z2
    have z2s := jocR_small (b1, b2) (c1, c2) m
    rw [← hx2] at z2s
    clear hc
    obtain ⟨J, two⟩ := x
    have z3 := (cyL_small (a1, a2) n1).eq
    have z4 : (List.length (α := Int) (ciR (a1, a2) n1).1 ≤ 100000 ∧ List.length (α := Int) (ciR (a1, a2) n1).1 ≤ 100000) := by
      have := ciR_len (a1, a2) n1
      exact ⟨by omega, by omega⟩
    have z5 : ∀ x y : List Int × Int, x = ciR (a1, a2) n1 → y = ciR (a1, a2) n1 → (List.length (α := Int) x.1 ≤ 100000 ∧ List.length (α := Int) y.1 ≤ 100000) := fun x y hx hy => by subst hx hy; exact z4
    have z6 : ∀ x y : List (List Int) × Int, x = cyL (ciR (a1, a2) n1) → y = cyL (ciR (a1, a2) n1) → ((List.length (α := List Int) x.1 ≤ 100000 ∧ List.length (α := List Int) y.1 ≤ 100000) ∧ (∀ r ∈ x.1, List.length (α := Int) r ≤ 100000) ∧ (∀ r ∈ y.1, List.length (α := Int) r ≤ 100000)) := fun x y hx hy => by subst hx hy; exact z3
    have jb : ∀ g : Nat, g < List.length (α := List Int) J → List.length (α := Int) (@List.getD (List Int) J g []) ≤ 63 := fun g h => z2s.2 _ (getD_mem h)
    have jl : List.length (α := List Int) J ≤ 63 := z2s.1
    repeat (any_goals (first
      | (refine V_step T_ok GLfc rfl ?_; conv => whnf)
      | (refine V_drawN T_ok GLfc mixed (by kernel_rfl) ?_; conv => whnf)
      | (refine bcond_split (fun hc => ?_) (fun hc => ?_) <;> (try simp only [decide_eq_true_eq, decide_eq_false_iff_not, Bool.not_eq_true', Bool.not_eq_false', Bool.and_eq_true, Bool.or_eq_true, Bool.and_eq_false_imp, Bool.or_eq_false_iff, ne_eq, Decidable.not_not] at hc) <;> conv => whnf)
      | (intro ysK hysK; have hysl := congrArg List.length hysK; (try simp only [List.length_set, List.length_append, List.length_cons, List.length_nil, List.length_take, List.length_drop, List.length_replicate] at hysl); conv => whnf)
      | (intro bK hbK; have hbl := congrArg ByteArray.size hbK; conv => whnf)
      | (intro sK hsK; conv => whnf)
      | (refine And.intro (by first | (first | exact True.intro | exact hb | with_reducible exact z2 | exact z5 _ _ (by assumption) (by assumption) | exact z6 _ _ (by assumption) (by assumption)) | exact True.intro | exact ⟨rfl, True.intro, fun _ _ => rfl⟩ | exact Nat.le_of_ble_eq_true rfl | (refine ⟨by (try simp only [List.length_cons, List.length_nil]); omega, Int.le_trans (Int.mul_le_mul_of_nonneg_left (show (TInfo.bytes _ : Int) ≤ 64 from Int.ofNat_le.2 (Nat.le_of_ble_eq_true rfl)) (by omega)) (by (try simp only [List.length_cons, List.length_nil]); omega)⟩)) ?_; conv => whnf)))
    · rw [hll] at hc; cases hc
    · rename_i hx
      exact absurd (congrArg Prod.snd (hx.trans hsK.symm)) hc
    · rename_i hx _
      obtain rfl := hx.trans hsK.symm
      simp at hc
    · rename_i hx
      exact absurd (congrArg Prod.snd (hx.trans hsK.symm)) hc
    · rename_i hx _
      exact absurd (congrArg Prod.fst (hx.trans hsK.symm)) hc
    · rename_i hx
      exact absurd (congrArg Prod.snd (hx.trans hsK.symm)) hc
    · rename_i hx _
      obtain rfl := hx.trans hsK.symm
      rw [hli] at hc; cases hc
    · rename_i hx
      exact absurd (congrArg Prod.snd (hx.trans hsK.symm)) hc
    · rename_i hx _
      obtain rfl := hx.trans hsK.symm
      rw [hll] at hc; cases hc
    · rename_i h2
      have h0 := joc_zero (show (jocR (b1, b2) (c1, c2) m).2 = 0 by rw [← hx2]; exact h2)
      have hs : sK = cloR (b1, b2) m := hsK
      rw [hs, cloR_t h0.1.1 h0.2] at hc
      exact absurd rfl hc
    · rename_i h2 _
      have h0 := joc_zero (show (jocR (b1, b2) (c1, c2) m).2 = 0 by rw [← hx2]; exact h2)
      have hs : sK = cloR (b1, b2) m := hsK
      have hJ : J = cls2 (b1, b2) (c1, c2) m := by have := congrArg Prod.fst hx2; rw [jocR_t h0.1 h0.2] at this; exact this
      rw [hs, cloR_t h0.1.1 h0.2, hJ] at hc
      have := joined_len (b1, b2) (c1, c2) m
      have hc : (List.length (α := List Int) (cls1 (b1, b2) m) : Int) < (List.length (α := List Int) (cls2 (b1, b2) (c1, c2) m) : Int) := hc
      omega
    · rename_i lc hlc lc2 hlc2 _ _ im him im2 him2 _ _ cy hcy cy2 hcy2 _ _ h2 _
      have h0 := joc_zero (show (jocR (b1, b2) (c1, c2) m).2 = 0 by rw [← hx2]; exact h2)
      have hs : sK = cloR (b1, b2) m := hsK
      have hJ : J = cls2 (b1, b2) (c1, c2) m := by have := congrArg Prod.fst hx2; rw [jocR_t h0.1 h0.2] at this; exact this
      have him : im = ciR (a1, a2) n1 := him
      have hcy : cy = cyL (ciR (a1, a2) n1) := hcy
      have hlc : lc = lcR (b1, b2) (c1, c2) m := hlc
      have hlcv : lc.1 = bigG J (List.length (α := List Int) J) := by rw [hlc, lcR_t h0.1 h0.2, hJ]
      rw [cloR_t h0.1.1 h0.2] at hs
      have hO : sK.1 = cls1 (b1, b2) m := by rw [hs]
      have oe := fun (g : Nat) (h : (g : Int) < (List.length (α := List Int) sK.1 : Int)) => joined_ends (b1, b2) (c1, c2) h0.1 h0.2 (i := g) (by rw [hO] at h; show g < (cls1 (b1, b2) m).length; exact Int.ofNat_lt.1 h)
      rw [← hO] at oe
      clear hlc2 him2 hcy2
      refine V_loopH (γ := Nat) (fun g => g ≤ List.length (α := List Int) sK.1) (fun g => List.length (α := List Int) sK.1 - g)
        (fun g => [(39, .int .i64 g)]) (fun _ => []) (fun _ => []) 0 (Nat.zero_le _) ?_ ?_
      · clear oe jb z1 z2 z3 z4 z5 z6
        conv => whnf
        refine ⟨?_, by (conv => whnf); repeat (first | exact True.intro | (refine And.intro rfl ?_; conv => whnf)), by (conv => whnf); repeat (first | exact True.intro | (refine And.intro (by first | rfl | (subst_vars; rfl)) ?_; conv => whnf)), rfl, rfl, rfl, rfl, rfl, rfl, rfl, Nat.le_of_ble_eq_true rfl, Nat.le_of_ble_eq_true rfl⟩
        conv => whnf
        repeat (first | exact True.intro | (refine And.intro (by first | rfl | ((conv => whnf); exact congrArg (AVal.int .i64) (by omega)) | ((conv => whnf); exact congrArg (AVal.int .i64) (by simp only [Int.natCast_add, Int.natCast_one]; omega)) | ((conv => whnf); exact congrArg (AVal.irow _) (by first | omega | assumption | (simp only; omega)))) ?_; conv => whnf))
      · rintro g hg
        have oe := oe g
        have o1 : (g : Int) < (List.length (α := List Int) sK.1 : Int) → (0 ≤ (0 : Int) ∧ (0 : Int) < (List.length (α := Int) (List.getD (α := List Int) sK.1 (g : Int).toNat []) : Int) ∧ (g : Int).toNat < List.length (α := List Int) sK.1) := fun h => by
          have := (oe h).1
          refine ⟨Int.le_refl _, ?_, by omega⟩
          show (0 : Int) < (List.length (α := Int) (List.getD (α := List Int) sK.1 g []) : Int)
          omega
        have o2 : (g : Int) < (List.length (α := List Int) sK.1 : Int) → (0 ≤ (List.length (α := Int) (List.getD (α := List Int) sK.1 (g : Int).toNat []) : Int) - 1 ∧ (List.length (α := Int) (List.getD (α := List Int) sK.1 (g : Int).toNat []) : Int) - 1 < (List.length (α := Int) (List.getD (α := List Int) sK.1 (g : Int).toNat []) : Int) ∧ (g : Int).toNat < List.length (α := List Int) sK.1) := fun h => by
          have := (o1 h).2.1
          refine ⟨by omega, by omega, by omega⟩
        have o3 : (g : Int) < (List.length (α := List Int) sK.1 : Int) → Rng .i64 ((List.length (α := Int) (List.getD (α := List Int) sK.1 (g : Int).toNat []) : Int) - 1) := fun h => by
          have h1 : List.length (α := Int) (List.getD (α := List Int) sK.1 (g : Int).toNat []) ≤ 63 := by rw [hO]; exact (cls1_small (b1, b2) h0.2).2 _ (getD_mem (by rw [hO] at h; exact (Int.ofNat_lt.1 h)))
          simp only [Rng]; omega
        have hOl : List.length (α := List Int) sK.1 ≤ 63 := by rw [hO]; exact (cls1_small (b1, b2) h0.2).1
        have o4 : (g : Int) < (List.length (α := List Int) sK.1 : Int) → ajR (b1, b2) (c1, c2) m (List.getD (α := Int) (List.getD (α := List Int) sK.1 (g : Int).toNat []) (0 : Int).toNat 0) (List.getD (α := Int) (List.getD (α := List Int) sK.1 (g : Int).toNat []) ((List.length (α := Int) (List.getD (α := List Int) sK.1 (g : Int).toNat []) : Int) - 1).toNat 0) = (true, 0) := fun h => by
          have h1 := (oe h).2
          have h2 := (oe h).1
          have e : ((List.length (α := Int) (List.getD (α := List Int) sK.1 (g : Int).toNat []) : Int) - 1).toNat = (List.getD (α := List Int) sK.1 g []).length - 1 := by
            show ((List.length (α := Int) (List.getD (α := List Int) sK.1 g []) : Int) - 1).toNat = _
            omega
          rw [e]; exact h1
        clear oe
        conv => whnf
        refine vcCode_sound T_ok GLfc _ _ _ _ _ ?_
        conv => whnf
        repeat (refine V_step T_ok GLfc rfl ?_; conv => whnf)
        repeat (any_goals (first
          | (refine V_step T_ok GLfc rfl ?_; conv => whnf)
          | (refine V_drawN T_ok GLfc mixed (by kernel_rfl) ?_; conv => whnf)
          | (refine bcond_split (fun hc => ?_) (fun hc => ?_) <;> (try simp only [decide_eq_true_eq, decide_eq_false_iff_not, Bool.not_eq_true', Bool.not_eq_false', Bool.and_eq_true, Bool.or_eq_true, Bool.and_eq_false_imp, Bool.or_eq_false_iff, ne_eq, Decidable.not_not] at hc) <;> conv => whnf)
          | (intro ysK hysK; have hysl := congrArg List.length hysK; (try simp only [List.length_set, List.length_append, List.length_cons, List.length_nil, List.length_take, List.length_drop, List.length_replicate] at hysl); conv => whnf)
          | (intro bK hbK; have hbl := congrArg ByteArray.size hbK; conv => whnf)
          | (intro sK hsK; conv => whnf)
          | (refine And.intro (by first | (first | exact True.intro | omega | exact o1 (by assumption) | exact o2 (by assumption) | exact o3 (by assumption) | (simp only [Rng]; omega)) | exact True.intro | exact ⟨rfl, True.intro, fun _ _ => rfl⟩ | exact Nat.le_of_ble_eq_true rfl | (refine ⟨by (try simp only [List.length_cons, List.length_nil]); omega, Int.le_trans (Int.mul_le_mul_of_nonneg_left (show (TInfo.bytes _ : Int) ≤ 64 from Int.ofNat_le.2 (Nat.le_of_ble_eq_true rfl)) (by omega)) (by (try simp only [List.length_cons, List.length_nil]); omega)⟩)) ?_; conv => whnf)))
        · have e := hsK.trans (o4 (by assumption))
          rw [e] at hc; exact absurd rfl hc
        · have e := hsK.trans (o4 (by assumption))
          rw [e] at hc; cases hc
        · refine ⟨g + 1, by omega, by omega, ?_⟩
          conv => whnf
          refine ⟨?_, by (conv => whnf); repeat (first | exact True.intro | (refine And.intro rfl ?_; conv => whnf)), by (conv => whnf); repeat (first | exact True.intro | (refine And.intro (by first | rfl | (subst_vars; rfl)) ?_; conv => whnf)), rfl, rfl, rfl, rfl, rfl, rfl, rfl, Nat.le_of_ble_eq_true rfl, Nat.le_of_ble_eq_true rfl⟩
          conv => whnf
          repeat (first | exact True.intro | (refine And.intro (by first | rfl | ((conv => whnf); exact congrArg (AVal.int .i64) (by omega)) | ((conv => whnf); exact congrArg (AVal.int .i64) (by simp only [Int.natCast_add, Int.natCast_one]; omega)) | ((conv => whnf); exact congrArg (AVal.irow _) (by first | omega | assumption | (simp only; omega)))) ?_; conv => whnf))
        refine V_loopH (γ := Nat × Int) (fun g => g.1 ≤ List.length (α := List Int) J ∧ g.2 = bigG J g.1) (fun g => List.length (α := List Int) J - g.1)
          (fun g => [(43, .int .i64 g.1), (42, .int .i64 g.2)]) (fun _ => []) (fun _ => []) (0, 0) ⟨Nat.zero_le _, rfl⟩ ?_ ?_
        · conv => whnf
          refine ⟨?_, by (conv => whnf); repeat (first | exact True.intro | (refine And.intro rfl ?_; conv => whnf)), by (conv => whnf); repeat (first | exact True.intro | (refine And.intro (by first | rfl | (subst_vars; rfl)) ?_; conv => whnf)), rfl, rfl, rfl, rfl, rfl, rfl, rfl, Nat.le_of_ble_eq_true rfl, Nat.le_of_ble_eq_true rfl⟩
          conv => whnf
          repeat (first | exact True.intro | (refine And.intro (by first | rfl | ((conv => whnf); exact congrArg (AVal.int .i64) (by omega)) | ((conv => whnf); exact congrArg (AVal.int .i64) (by simp only [Int.natCast_add, Int.natCast_one]; omega)) | ((conv => whnf); exact congrArg (AVal.irow _) (by first | omega | assumption | (simp only; omega)))) ?_; conv => whnf))
        · rintro ⟨u, b⟩ ⟨hu, hbg⟩
          simp only at hu hbg
          conv => whnf
          refine vcCode_sound T_ok GLfc _ _ _ _ _ ?_
          conv => whnf
          repeat (refine V_step T_ok GLfc rfl ?_; conv => whnf)
          repeat (any_goals (first
            | (refine V_step T_ok GLfc rfl ?_; conv => whnf)
            | (refine V_drawN T_ok GLfc mixed (by kernel_rfl) ?_; conv => whnf)
            | (refine bcond_split (fun hc => ?_) (fun hc => ?_) <;> (try simp only [decide_eq_true_eq, decide_eq_false_iff_not, Bool.not_eq_true', Bool.not_eq_false', Bool.and_eq_true, Bool.or_eq_true, Bool.and_eq_false_imp, Bool.or_eq_false_iff, ne_eq, Decidable.not_not] at hc) <;> conv => whnf)
            | (intro ysK hysK; have hysl := congrArg List.length hysK; (try simp only [List.length_set, List.length_append, List.length_cons, List.length_nil, List.length_take, List.length_drop, List.length_replicate] at hysl); conv => whnf)
            | (intro bK hbK; have hbl := congrArg ByteArray.size hbK; conv => whnf)
            | (intro sK hsK; conv => whnf)
            | (refine And.intro (by first | (first | exact True.intro | omega | (simp only [Rng]; omega)) | exact True.intro | exact ⟨rfl, True.intro, fun _ _ => rfl⟩ | exact Nat.le_of_ble_eq_true rfl | (refine ⟨by (try simp only [List.length_cons, List.length_nil]); omega, Int.le_trans (Int.mul_le_mul_of_nonneg_left (show (TInfo.bytes _ : Int) ≤ 64 from Int.ofNat_le.2 (Nat.le_of_ble_eq_true rfl)) (by omega)) (by (try simp only [List.length_cons, List.length_nil]); omega)⟩)) ?_; conv => whnf)))
          · have hlt : u < List.length (α := List Int) J := by omega
            refine ⟨(u + 1, if (List.length (α := Int) (List.getD (α := List Int) J u []) : Int) > b then (List.length (α := Int) (List.getD (α := List Int) J u []) : Int) else b), ⟨by simp only; omega, by simp only; rw [bigG_next _ hlt, ← hbg]; exact mx_eq _ _⟩, by simp only; omega, ?_⟩
            conv => whnf
            refine ⟨?_, by (conv => whnf); repeat (first | exact True.intro | (refine And.intro rfl ?_; conv => whnf)), by (conv => whnf); repeat (first | exact True.intro | (refine And.intro (by first | rfl | (subst_vars; rfl)) ?_; conv => whnf)), rfl, rfl, rfl, rfl, rfl, rfl, rfl, Nat.le_of_ble_eq_true rfl, Nat.le_of_ble_eq_true rfl⟩
            conv => whnf
            repeat (first | exact True.intro | (refine And.intro (by first | rfl | ((conv => whnf); exact congrArg (AVal.int .i64) (by omega)) | ((conv => whnf); exact congrArg (AVal.int .i64) (by simp only [Int.natCast_add, Int.natCast_one]; omega)) | ((conv => whnf); exact congrArg (AVal.irow _) (by first | omega | assumption | (simp only; omega)))) ?_; conv => whnf))
          · have hgl : u = List.length (α := List Int) J := by omega
            exact absurd (by rw [hlcv, hbg, hgl]) hc
          · exact leaf0 rfl (congrArg AVal.bool (decide_eq_true (clo_nil hx hc))) rfl
          have hcz := clo_zero hx (by assumption)
          have hA := hcz.1.1
          have hN1 := hcz.1.2
          obtain ⟨N, hN⟩ : ∃ N : Nat, n1 = N := ⟨n1.toNat, by have := hN1.1; omega⟩
          have hC : C = clsL N (lab1 (a1, a2) n1) := by rw [hcz.2]; unfold cls1; rw [show n1.toNat = N by omega]
          have hcan : Can N (lab1 (a1, a2) n1) := by have := lab1_can (a1, a2) n1; rw [show n1.toNat = N by omega] at this; exact this
          have himA : im.1 = imgA (a1, a2) n1 := by rw [him, ciR_t hA hN1]
          have hci0 : (ciR (a1, a2) n1).2 = 0 := by rw [ciR_t hA hN1]
          have hnums : Nums im.1 := by rw [him]; exact ciR_nums hci0
          have hcyA : cy.1 = cycG (nxF im.1) (List.length (α := Int) im.1) := by rw [hcy, cyL_0 hci0, him]
          have hmk : (0 ≤ n1 ∧ n1 = n1 ∧ (ti2.bytes : Int) * n1 ≤ 281474976710656 ∧ n1 ≤ 9223372036854775807) := by
            have := hN1.1
            have := hN1.2
            refine ⟨by omega, rfl, ?_, by omega⟩
            show (8 : Int) * n1 ≤ _
            omega
          have cb : ∀ g : Nat, g < List.length (α := List Int) C → List.length (α := Int) (@List.getD (List Int) C g []) ≤ 63 := fun g h => z1s.2 _ (getD_mem h)
          have cl : List.length (α := List Int) C ≤ 63 := z1s.1
          repeat (any_goals (first
            | (refine V_step T_ok GLfc rfl ?_; conv => whnf)
            | (refine V_drawN T_ok GLfc mixed (by kernel_rfl) ?_; conv => whnf)
            | (refine bcond_split (fun hc => ?_) (fun hc => ?_) <;> (try simp only [decide_eq_true_eq, decide_eq_false_iff_not, Bool.not_eq_true', Bool.not_eq_false', Bool.and_eq_true, Bool.or_eq_true, Bool.and_eq_false_imp, Bool.or_eq_false_iff, ne_eq, Decidable.not_not] at hc) <;> conv => whnf)
            | (intro ysK hysK; have hysl := congrArg List.length hysK; (try simp only [List.length_set, List.length_append, List.length_cons, List.length_nil, List.length_take, List.length_drop, List.length_replicate] at hysl); conv => whnf)
            | (intro bK hbK; have hbl := congrArg ByteArray.size hbK; conv => whnf)
            | (intro sK hsK; conv => whnf)
            | (refine And.intro (by first | (first | exact True.intro | with_reducible exact hmk | omega | (simp only [Rng]; omega)) | exact True.intro | exact ⟨rfl, True.intro, fun _ _ => rfl⟩ | exact Nat.le_of_ble_eq_true rfl | (refine ⟨by (try simp only [List.length_cons, List.length_nil]); omega, Int.le_trans (Int.mul_le_mul_of_nonneg_left (show (TInfo.bytes _ : Int) ≤ 64 from Int.ofNat_le.2 (Nat.le_of_ble_eq_true rfl)) (by omega)) (by (try simp only [List.length_cons, List.length_nil]); omega)⟩)) ?_; conv => whnf)))
          have hrep : List.replicate (Int.toNat n1) (0 : Int) = List.replicate N 0 := by rw [show n1.toNat = N by omega]
          have hW0 : WhI C N 0 0 (List.replicate (Int.toNat n1) (0 : Int)) := by
            rw [hrep]
            refine WhI.start C N fun x hx => ?_
            rw [hC]
            obtain ⟨i', _, _, h2, _⟩ := cls_of hcan hx
            rw [h2]; omega
          refine V_loopH (γ := Nat × List Int) (fun g => g.1 ≤ List.length (α := List Int) C ∧ WhI C N g.1 0 g.2) (fun g => List.length (α := List Int) C - g.1)
            (fun g => [(46, .int .i64 g.1), (45, .int .i64 (totG C g.1))]) (fun _ => []) (fun g => [(10, some ⟨iT, 2, true, g.2⟩)]) (0, List.replicate (Int.toNat n1) (0 : Int)) ⟨Nat.zero_le _, hW0⟩ ?_ ?_
          · clear cb z1 z2 z3 z4 z5 z6
            conv => whnf
            refine ⟨?_, by (conv => whnf); repeat (first | exact True.intro | (refine And.intro rfl ?_; conv => whnf)), by (conv => whnf); repeat (first | exact True.intro | (refine And.intro (by first | rfl | (subst_vars; rfl)) ?_; conv => whnf)), rfl, rfl, rfl, rfl, rfl, rfl, rfl, Nat.le_of_ble_eq_true rfl, Nat.le_of_ble_eq_true rfl⟩
            conv => whnf
            repeat (first | exact True.intro | (refine And.intro (by first | rfl | ((conv => whnf); exact congrArg (AVal.int .i64) (by omega)) | ((conv => whnf); exact congrArg (AVal.int .i64) (by simp only [Int.natCast_add, Int.natCast_one]; omega)) | ((conv => whnf); exact congrArg (AVal.irow _) (by first | omega | assumption | (simp only; omega)))) ?_; conv => whnf))
          rintro ⟨x, wh⟩ ⟨x1, x2⟩
          simp only at x1 x2
          have x3 := totG_le z1s.2 z1s.1 x x1
          simp only at x3
          have x4 := cb x
          conv => whnf
          refine vcCode_sound T_ok GLfc _ _ _ _ _ ?_
          conv => whnf
          repeat (refine V_step T_ok GLfc rfl ?_; conv => whnf)
          repeat (any_goals (first
            | (refine V_step T_ok GLfc rfl ?_; conv => whnf)
            | (refine V_drawN T_ok GLfc mixed (by kernel_rfl) ?_; conv => whnf)
            | (refine bcond_split (fun hc => ?_) (fun hc => ?_) <;> (try simp only [decide_eq_true_eq, decide_eq_false_iff_not, Bool.not_eq_true', Bool.not_eq_false', Bool.and_eq_true, Bool.or_eq_true, Bool.and_eq_false_imp, Bool.or_eq_false_iff, ne_eq, Decidable.not_not] at hc) <;> conv => whnf)
            | (intro ysK hysK; have hysl := congrArg List.length hysK; (try simp only [List.length_set, List.length_append, List.length_cons, List.length_nil, List.length_take, List.length_drop, List.length_replicate] at hysl); conv => whnf)
            | (intro bK hbK; have hbl := congrArg ByteArray.size hbK; conv => whnf)
            | (intro sK hsK; conv => whnf)
            | (refine And.intro (by first | (first | exact True.intro | omega | (have x5 := x4 (by omega); simp only [Rng, Int.toNat_natCast]; omega) | (simp only [Rng]; omega)) | exact True.intro | exact ⟨rfl, True.intro, fun _ _ => rfl⟩ | exact Nat.le_of_ble_eq_true rfl | (refine ⟨by (try simp only [List.length_cons, List.length_nil]); omega, Int.le_trans (Int.mul_le_mul_of_nonneg_left (show (TInfo.bytes _ : Int) ≤ 64 from Int.ofNat_le.2 (Nat.le_of_ble_eq_true rfl)) (by omega)) (by (try simp only [List.length_cons, List.length_nil]); omega)⟩)) ?_; conv => whnf)))
          · have x6 : x < List.length (α := List Int) C := by omega
            have hat : ∀ j : Nat, j < List.length (α := Int) (@List.getD (List Int) C x []) → (0 ≤ @List.getD Int (@List.getD (List Int) C x []) j 0 ∧ @List.getD Int (@List.getD (List Int) C x []) j 0 < N) ∧ lab (lab1 (a1, a2) n1) (@List.getD Int (@List.getD (List Int) C x []) j 0).toNat = @List.getD Int (@List.getD (List Int) C x []) 0 0 := by
              rw [hC] at x6 ⊢
              exact fun j hj => ⟨(cls_at hcan x6 hj).1, (cls_at hcan x6 hj).2.2⟩
            have hst : ∀ (j : Nat) (w2 : List Int), WhI C N x j w2 → j < List.length (α := Int) (@List.getD (List Int) C x []) → WhI C N x (j + 1) (w2.set (@List.getD Int (@List.getD (List Int) C x []) j 0).toNat (x : Int)) := by
              rw [hC] at x6 ⊢
              exact fun j w2 h h2 => WhI.step hcan h x6 h2
            have hnx : ∀ w2 : List Int, WhI C N x (List.length (α := Int) (@List.getD (List Int) C x [])) w2 → WhI C N (x + 1) 0 w2 := by
              rw [hC] at x6 ⊢
              exact fun w2 h => WhI.next hcan h x6
            have hlet : ∀ j : Nat, j < List.length (α := Int) (@List.getD (List Int) C x []) → ltO (ofQ (@List.getD Int (@List.getD (List Int) C x []) j 0) n1) (a1, a2) = ltO (ofQ (@List.getD Int (@List.getD (List Int) C x []) 0 0) n1) (a1, a2) := fun j hj => by
              have q1 := hat j hj
              have q2 := hat 0 (by omega)
              have q3 := lab1_let (a1, a2) hN1 (x := (@List.getD Int (@List.getD (List Int) C x []) j 0).toNat) (y := (@List.getD Int (@List.getD (List Int) C x []) 0 0).toNat) (by omega) (by omega) (q1.2.trans q2.2.symm)
              rw [Int.toNat_of_nonneg q1.1.1, Int.toNat_of_nonneg q2.1.1] at q3
              exact ltO_lb (part_isA _ n1 hN1.1 hN1.2).1 (part_isA _ n1 hN1.1 hN1.2).1 hA q3
            have hlt0 : ∀ v : Int, (ltO (ofQ v n1) (a1, a2)).2 = 0 := fun v => by rw [ltO_t ⟨(part_isA _ n1 hN1.1 hN1.2).1, hA⟩]
            have hang : ∀ j : Nat, j < List.length (α := Int) (@List.getD (List Int) C x []) → angO (@List.getD Int (@List.getD (List Int) C x []) j 0) n1 = (ofQ (@List.getD Int (@List.getD (List Int) C x []) j 0) n1, 0) := fun j hj => by
              have q1 := hat j hj
              exact angO_part _ n1 hN1.1 hN1.2 ⟨q1.1.1, by omega⟩
            have x7 := x4 x6
            clear jb z1 z2 z3 z4 z5 z6 cb x4 hmk hnums
            refine V_loopH (γ := Nat × List Int × ByteArray) (fun g => g.1 ≤ List.length (α := Int) (@List.getD (List Int) C x []) ∧ WhI C N x g.1 g.2.1 ∧ (g.1 ≠ 0 → g.2.2 = (ltO (ofQ (@List.getD Int (@List.getD (List Int) C x []) 0 0) n1) (a1, a2)).1)) (fun g => List.length (α := Int) (@List.getD (List Int) C x []) - g.1)
              (fun g => [(48, .int .i64 g.1), (47, .str g.2.2)]) (fun _ => []) (fun g => [(10, some ⟨iT, 2, true, g.2.1⟩)]) (0, wh, ⟨#[]⟩) ⟨Nat.zero_le _, x2, fun h => absurd rfl h⟩ ?_ ?_
            · clear hat hst hnx hlet hlt0 hang
              conv => whnf
              refine ⟨?_, by (conv => whnf); repeat (first | exact True.intro | (refine And.intro rfl ?_; conv => whnf)), by (conv => whnf); repeat (first | exact True.intro | (refine And.intro (by first | rfl | (subst_vars; rfl)) ?_; conv => whnf)), rfl, rfl, rfl, rfl, rfl, rfl, rfl, Nat.le_of_ble_eq_true rfl, Nat.le_of_ble_eq_true rfl⟩
              conv => whnf
              repeat (first | exact True.intro | (refine And.intro (by first | rfl | ((conv => whnf); exact congrArg (AVal.int .i64) (by omega)) | ((conv => whnf); exact congrArg (AVal.int .i64) (by simp only [Int.natCast_add, Int.natCast_one]; omega)) | ((conv => whnf); exact congrArg (AVal.irow _) (by first | omega | assumption | (simp only; omega)))) ?_; conv => whnf))
            rintro ⟨j, w2, f⟩ ⟨j1, j2, j3⟩
            simp only at j1 j2 j3
            have hat1 := hat j
            have j4 := j2.len
            have s1 : (j : Int) < (List.length (α := Int) (@List.getD (List Int) C (x : Int).toNat []) : Int) → (0 ≤ (j : Int) ∧ (j : Int) < (List.length (α := Int) (@List.getD (List Int) C (x : Int).toNat []) : Int) ∧ (x : Int).toNat < List.length (α := List Int) C) := fun h => ⟨by omega, h, by omega⟩
            have s2 : (j : Int) < (List.length (α := Int) (@List.getD (List Int) C (x : Int).toNat []) : Int) → (0 ≤ @List.getD Int (@List.getD (List Int) C (x : Int).toNat []) (j : Int).toNat 0 ∧ @List.getD Int (@List.getD (List Int) C (x : Int).toNat []) (j : Int).toNat 0 < (List.length (α := Int) w2 : Int)) := fun h => by
              have h1 := (hat1 (Int.ofNat_lt.1 h)).1
              rw [j4]; exact h1
            have s3 : (j : Int) < (List.length (α := Int) (@List.getD (List Int) C (x : Int).toNat []) : Int) → (@List.getD Int (@List.getD (List Int) C (x : Int).toNat []) (j : Int).toNat 0).toNat < List.length (α := Int) w2 := fun h => by
              have h1 := (hat1 (Int.ofNat_lt.1 h)).1
              show (@List.getD Int (@List.getD (List Int) C x []) j 0).toNat < List.length (α := Int) w2
              omega
            conv => whnf
            refine vcCode_sound T_ok GLfc _ _ _ _ _ ?_
            conv => whnf
            repeat (refine V_step T_ok GLfc rfl ?_; conv => whnf)
            repeat (any_goals (first
              | (refine V_step T_ok GLfc rfl ?_; conv => whnf)
              | (refine V_drawN T_ok GLfc mixed (by kernel_rfl) ?_; conv => whnf)
              | (refine bcond_split (fun hc => ?_) (fun hc => ?_) <;> (try simp only [decide_eq_true_eq, decide_eq_false_iff_not, Bool.not_eq_true', Bool.not_eq_false', Bool.and_eq_true, Bool.or_eq_true, Bool.and_eq_false_imp, Bool.or_eq_false_iff, ne_eq, Decidable.not_not] at hc) <;> conv => whnf)
              | (intro ysK hysK; have hysl := congrArg List.length hysK; (try simp only [List.length_set, List.length_append, List.length_cons, List.length_nil, List.length_take, List.length_drop, List.length_replicate] at hysl); conv => whnf)
              | (intro bK hbK; have hbl := congrArg ByteArray.size hbK; conv => whnf)
              | (intro sK hsK; conv => whnf)
              | (refine And.intro (by first | (first | exact True.intro | exact s1 (by assumption) | exact s2 (by assumption) | exact s3 (by assumption) | omega | (simp only [Rng]; omega)) | exact True.intro | exact ⟨rfl, True.intro, fun _ _ => rfl⟩ | exact Nat.le_of_ble_eq_true rfl | (refine ⟨by (try simp only [List.length_cons, List.length_nil]); omega, Int.le_trans (Int.mul_le_mul_of_nonneg_left (show (TInfo.bytes _ : Int) ≤ 64 from Int.ofNat_le.2 (Nat.le_of_ble_eq_true rfl)) (by omega)) (by (try simp only [List.length_cons, List.length_nil]); omega)⟩)) ?_; conv => whnf)))
            · rename_i hj y1 hy1
              have e : y1 = _ := hy1.trans (hang j (Int.ofNat_lt.1 hj))
              exact absurd (by rw [e]) hc
            · rename_i hj y1 hy1 _
              have e : y1 = _ := hy1.trans (hang j (Int.ofNat_lt.1 hj))
              have e2 : sK = ltO (ofQ (@List.getD Int (@List.getD (List Int) C x []) j 0) n1) (a1, a2) := hsK.trans (by rw [e])
              exact absurd (by rw [e2, hlt0]) hc
            · rename_i hj y1 hy1 _ _ hj0
              have e : y1 = _ := hy1.trans (hang j (Int.ofNat_lt.1 hj))
              have e2 : sK = ltO (ofQ (@List.getD Int (@List.getD (List Int) C x []) j 0) n1) (a1, a2) := hsK.trans (by rw [e])
              refine absurd ?_ hc
              rw [e2, hlet j (Int.ofNat_lt.1 hj), j3 (by omega)]
            · rename_i hj y1 hy1 _ _ hj0
              have e : y1 = _ := hy1.trans (hang j (Int.ofNat_lt.1 hj))
              have e2 : sK = ltO (ofQ (@List.getD Int (@List.getD (List Int) C x []) j 0) n1) (a1, a2) := hsK.trans (by rw [e])
              have e3 : sK.1 = (ltO (ofQ (@List.getD Int (@List.getD (List Int) C x []) 0 0) n1) (a1, a2)).1 := by rw [e2, hlet j (Int.ofNat_lt.1 hj)]
              have e4 := hst j w2 j2 (Int.ofNat_lt.1 hj)
              have e5 : ysK = w2.set (@List.getD Int (@List.getD (List Int) C x []) j 0).toNat (x : Int) := hysK
              rw [← e5] at e4
              refine ⟨(j + 1, ysK, sK.1), ⟨Int.ofNat_lt.1 hj, e4, fun _ => e3⟩, Nat.sub_lt_sub_left (Int.ofNat_lt.1 hj) (Nat.lt_succ_self j), ?_⟩
              clear e2 e3 e4 e5 hat hst hnx hlet hlt0 hang
              conv => whnf
              refine ⟨?_, by (conv => whnf); repeat (first | exact True.intro | (refine And.intro rfl ?_; conv => whnf)), by (conv => whnf); repeat (first | exact True.intro | (refine And.intro (by first | rfl | (subst_vars; rfl)) ?_; conv => whnf)), rfl, rfl, rfl, rfl, rfl, rfl, rfl, Nat.le_of_ble_eq_true rfl, Nat.le_of_ble_eq_true rfl⟩
              conv => whnf
              repeat (first | exact True.intro | (refine And.intro (by first | rfl | ((conv => whnf); exact congrArg (AVal.int .i64) (by omega)) | ((conv => whnf); exact congrArg (AVal.int .i64) (by simp only [Int.natCast_add, Int.natCast_one]; omega)) | ((conv => whnf); exact congrArg (AVal.irow _) (by first | omega | assumption | (simp only; omega)))) ?_; conv => whnf))
            · rename_i hj y1 hy1 _ _
              have e : y1 = _ := hy1.trans (hang j (Int.ofNat_lt.1 hj))
              have e2 : sK = ltO (ofQ (@List.getD Int (@List.getD (List Int) C x []) j 0) n1) (a1, a2) := hsK.trans (by rw [e])
              have e3 : sK.1 = (ltO (ofQ (@List.getD Int (@List.getD (List Int) C x []) 0 0) n1) (a1, a2)).1 := by rw [e2, hlet j (Int.ofNat_lt.1 hj)]
              have e4 := hst j w2 j2 (Int.ofNat_lt.1 hj)
              have e5 : ysK = w2.set (@List.getD Int (@List.getD (List Int) C x []) j 0).toNat (x : Int) := hysK
              rw [← e5] at e4
              refine ⟨(j + 1, ysK, sK.1), ⟨Int.ofNat_lt.1 hj, e4, fun _ => e3⟩, Nat.sub_lt_sub_left (Int.ofNat_lt.1 hj) (Nat.lt_succ_self j), ?_⟩
              clear e2 e3 e4 e5 hat hst hnx hlet hlt0 hang
              conv => whnf
              refine ⟨?_, by (conv => whnf); repeat (first | exact True.intro | (refine And.intro rfl ?_; conv => whnf)), by (conv => whnf); repeat (first | exact True.intro | (refine And.intro (by first | rfl | (subst_vars; rfl)) ?_; conv => whnf)), rfl, rfl, rfl, rfl, rfl, rfl, rfl, Nat.le_of_ble_eq_true rfl, Nat.le_of_ble_eq_true rfl⟩
              conv => whnf
              repeat (first | exact True.intro | (refine And.intro (by first | rfl | ((conv => whnf); exact congrArg (AVal.int .i64) (by omega)) | ((conv => whnf); exact congrArg (AVal.int .i64) (by simp only [Int.natCast_add, Int.natCast_one]; omega)) | ((conv => whnf); exact congrArg (AVal.irow _) (by first | omega | assumption | (simp only; omega)))) ?_; conv => whnf))
            · have hjl : j = List.length (α := Int) (@List.getD (List Int) C x []) := Nat.le_antisymm j1 (Nat.le_of_not_lt fun h => hc (Int.ofNat_lt.2 h))
              have e4 := hnx w2 (by rw [← hjl]; exact j2)
              have htot : ((totG C (x + 1) : Nat) : Int) = (totG C x : Int) + (List.length (α := Int) (@List.getD (List Int) C (x : Int).toNat []) : Int) := by
                show _ = (totG C x : Int) + (List.length (α := Int) (@List.getD (List Int) C x []) : Int)
                rw [totG_next C x6]; omega
              refine ⟨(x + 1, w2), ⟨x6, e4⟩, Nat.sub_lt_sub_left x6 (Nat.lt_succ_self x), ?_⟩
              clear e4 hat hst hnx hlet hlt0 hang
              simp only [htot]
              conv => whnf
              refine ⟨?_, by (conv => whnf); repeat (first | exact True.intro | (refine And.intro rfl ?_; conv => whnf)), by (conv => whnf); repeat (first | exact True.intro | (refine And.intro (by first | rfl | (subst_vars; rfl)) ?_; conv => whnf)), rfl, rfl, rfl, rfl, rfl, rfl, rfl, Nat.le_of_ble_eq_true rfl, Nat.le_of_ble_eq_true rfl⟩
              conv => whnf
              repeat (first | exact True.intro | (refine And.intro (by first | rfl | ((conv => whnf); exact congrArg (AVal.int .i64) (by omega)) | ((conv => whnf); exact congrArg (AVal.int .i64) (by simp only [Int.natCast_add, Int.natCast_one]; omega)) | ((conv => whnf); exact congrArg (AVal.irow _) (by first | omega | assumption | (simp only; omega)))) ?_; conv => whnf))
          · have hgl : x = List.length (α := List Int) C := by omega
            refine absurd ?_ hc
            rw [hgl, hC, cls_total hcan, hN]
          · refine absurd ?_ hc
            rw [himA, hcz.2]
            unfold imgA
            rw [imgG_full]
          · have hgl : x = List.length (α := List Int) C := by omega
            have hfin : ∀ x : Nat, x < n1.toNat → List.getD (α := Int) wh x 0 = cix (cls1 (a1, a2) n1) x := by
              rw [← hcz.2, show n1.toNat = N by omega]
              rw [hgl] at x2
              rw [hC] at x2 ⊢
              exact WhI.done hcan x2
            have hwl : List.length (α := Int) wh = N := x2.len
            have him9 : ∀ x : Nat, x < N → List.getD (α := Int) wh (2 * (x : Int) % n1).toNat 0 = List.getD (α := Int) im.1 (List.getD (α := Int) wh x 0).toNat 0 ∧ (0 ≤ List.getD (α := Int) wh x 0 ∧ List.getD (α := Int) wh x 0 < (List.length (α := Int) im.1 : Int)) := fun x hx => by
              have := img_law (a1, a2) hN1 hfin (x := x) (by omega)
              rw [← himA] at this
              exact this
            have hcyr : ∀ g : Nat, g < List.length (α := List Int) cy.1 → ∀ j : Nat, j < List.length (α := Int) (@List.getD (List Int) cy.1 g []) → (0 ≤ List.getD (α := Int) (@List.getD (List Int) cy.1 g []) j 0 ∧ List.getD (α := Int) (@List.getD (List Int) cy.1 g []) j 0 < (List.length (α := Int) im.1 : Int)) ∧ List.getD (α := Int) im.1 (List.getD (α := Int) (@List.getD (List Int) cy.1 g []) j 0).toNat 0 = List.getD (α := Int) (@List.getD (List Int) cy.1 g []) ((j + 1) % List.length (α := Int) (@List.getD (List Int) cy.1 g [])) 0 := fun g hg j hj =>
              cyc_law hnums (r := @List.getD (List Int) cy.1 g []) (by rw [← hcyA]; exact getD_mem hg) hj
            have hcys := cyL_small (a1, a2) n1
            rw [← hcy] at hcys
            clear cb z1 z2 z3 z4 z5 z6 x3 x4 x1 x2 jb hmk
            have hn0 := hN1.1
            have hn63 := hN1.2
            refine V_loopH (γ := Nat) (fun g => g ≤ N) (fun g => N - g)
              (fun g => [(53, .int .i64 g)]) (fun _ => []) (fun _ => []) 0 (Nat.zero_le _) ?_ ?_
            · clear him9 hcyr hfin
              conv => whnf
              refine ⟨?_, by (conv => whnf); repeat (first | exact True.intro | (refine And.intro rfl ?_; conv => whnf)), by (conv => whnf); repeat (first | exact True.intro | (refine And.intro (by first | rfl | (subst_vars; rfl)) ?_; conv => whnf)), rfl, rfl, rfl, rfl, rfl, rfl, rfl, Nat.le_of_ble_eq_true rfl, Nat.le_of_ble_eq_true rfl⟩
              conv => whnf
              repeat (first | exact True.intro | (refine And.intro (by first | rfl | ((conv => whnf); exact congrArg (AVal.int .i64) (by omega)) | ((conv => whnf); exact congrArg (AVal.int .i64) (by simp only [Int.natCast_add, Int.natCast_one]; omega)) | ((conv => whnf); exact congrArg (AVal.irow _) (by first | omega | assumption | (simp only; omega)))) ?_; conv => whnf))
            rintro u u1
            have him9 := him9 u
            have tm : Int.tmod (2 * (u : Int)) n1 = 2 * (u : Int) % n1 := Int.tmod_eq_emod_of_nonneg (by omega)
            have tm1 : 0 ≤ 2 * (u : Int) % n1 := Int.emod_nonneg _ (by omega)
            have tm2 : 2 * (u : Int) % n1 < n1 := Int.emod_lt_of_pos _ (by omega)
            have r1 : 0 ≤ Int.tmod (2 * (u : Int)) n1 ∧ Int.tmod (2 * (u : Int)) n1 < (List.length (α := Int) wh : Int) := by rw [tm, hwl, ← hN]; exact ⟨tm1, tm2⟩
            have r2 : (Int.tmod (2 * (u : Int)) n1).toNat < List.length (α := Int) wh := by have := r1.1; have := r1.2; omega
            have r3 : (u : Int) < n1 → (0 ≤ (u : Int) ∧ (u : Int) < (List.length (α := Int) wh : Int)) := fun h => by rw [hwl, ← hN]; exact ⟨by omega, h⟩
            have r4 : (u : Int) < n1 → (u : Int).toNat < List.length (α := Int) wh := fun h => by rw [hwl]; omega
            have r5 : (u : Int) < n1 → (0 ≤ List.getD (α := Int) wh (u : Int).toNat 0 ∧ List.getD (α := Int) wh (u : Int).toNat 0 < (List.length (α := Int) im.1 : Int)) := fun h => (him9 (by omega)).2
            have r6 : (u : Int) < n1 → (List.getD (α := Int) wh (u : Int).toNat 0).toNat < List.length (α := Int) im.1 := fun h => by have := r5 h; omega
            have r7 : Rng .i64 (2 * (u : Int)) := by simp only [Rng]; omega
            have r8 : n1 ≠ 0 := by omega
            have r9 : Rng .i64 (Int.tmod (2 * (u : Int)) n1) := by rw [tm]; simp only [Rng]; omega
            conv => whnf
            refine vcCode_sound T_ok GLfc _ _ _ _ _ ?_
            conv => whnf
            repeat (refine V_step T_ok GLfc rfl ?_; conv => whnf)
            repeat (any_goals (first
              | (refine V_step T_ok GLfc rfl ?_; conv => whnf)
              | (refine V_drawN T_ok GLfc mixed (by kernel_rfl) ?_; conv => whnf)
              | (refine bcond_split (fun hc => ?_) (fun hc => ?_) <;> (try simp only [decide_eq_true_eq, decide_eq_false_iff_not, Bool.not_eq_true', Bool.not_eq_false', Bool.and_eq_true, Bool.or_eq_true, Bool.and_eq_false_imp, Bool.or_eq_false_iff, ne_eq, Decidable.not_not] at hc) <;> conv => whnf)
              | (intro ysK hysK; have hysl := congrArg List.length hysK; (try simp only [List.length_set, List.length_append, List.length_cons, List.length_nil, List.length_take, List.length_drop, List.length_replicate] at hysl); conv => whnf)
              | (intro bK hbK; have hbl := congrArg ByteArray.size hbK; conv => whnf)
              | (intro sK hsK; conv => whnf)
              | (refine And.intro (by first | (first | exact True.intro | exact r1 | exact r2 | exact r3 (by assumption) | exact r4 (by assumption) | exact r5 (by assumption) | exact r6 (by assumption) | exact r7 | exact r8 | exact r9 | omega | (simp only [Rng]; omega)) | exact True.intro | exact ⟨rfl, True.intro, fun _ _ => rfl⟩ | exact Nat.le_of_ble_eq_true rfl | (refine ⟨by (try simp only [List.length_cons, List.length_nil]); omega, Int.le_trans (Int.mul_le_mul_of_nonneg_left (show (TInfo.bytes _ : Int) ≤ 64 from Int.ofNat_le.2 (Nat.le_of_ble_eq_true rfl)) (by omega)) (by (try simp only [List.length_cons, List.length_nil]); omega)⟩)) ?_; conv => whnf)))
            · rename_i hu
              have q := (him9 (by omega)).1
              rw [← tm] at q
              exact absurd q hc
            · rename_i hu
              refine ⟨u + 1, by omega, by omega, ?_⟩
              clear him9 hcyr hfin
              conv => whnf
              refine ⟨?_, by (conv => whnf); repeat (first | exact True.intro | (refine And.intro rfl ?_; conv => whnf)), by (conv => whnf); repeat (first | exact True.intro | (refine And.intro (by first | rfl | (subst_vars; rfl)) ?_; conv => whnf)), rfl, rfl, rfl, rfl, rfl, rfl, rfl, Nat.le_of_ble_eq_true rfl, Nat.le_of_ble_eq_true rfl⟩
              conv => whnf
              repeat (first | exact True.intro | (refine And.intro (by first | rfl | ((conv => whnf); exact congrArg (AVal.int .i64) (by omega)) | ((conv => whnf); exact congrArg (AVal.int .i64) (by simp only [Int.natCast_add, Int.natCast_one]; omega)) | ((conv => whnf); exact congrArg (AVal.irow _) (by first | omega | assumption | (simp only; omega)))) ?_; conv => whnf))
            clear him9 tm tm1 tm2 r1 r2 r3 r4 r5 r6 r7 r8 r9 hfin
            have cyl : List.length (α := List Int) cy.1 ≤ 63 := hcys.1
            refine V_loopH (γ := Nat) (fun g => g ≤ List.length (α := List Int) cy.1) (fun g => List.length (α := List Int) cy.1 - g)
              (fun g => [(54, .int .i64 g)]) (fun _ => []) (fun _ => []) 0 (Nat.zero_le _) ?_ ?_
            · clear hcyr
              conv => whnf
              refine ⟨?_, by (conv => whnf); repeat (first | exact True.intro | (refine And.intro rfl ?_; conv => whnf)), by (conv => whnf); repeat (first | exact True.intro | (refine And.intro (by first | rfl | (subst_vars; rfl)) ?_; conv => whnf)), rfl, rfl, rfl, rfl, rfl, rfl, rfl, Nat.le_of_ble_eq_true rfl, Nat.le_of_ble_eq_true rfl⟩
              conv => whnf
              repeat (first | exact True.intro | (refine And.intro (by first | rfl | ((conv => whnf); exact congrArg (AVal.int .i64) (by omega)) | ((conv => whnf); exact congrArg (AVal.int .i64) (by simp only [Int.natCast_add, Int.natCast_one]; omega)) | ((conv => whnf); exact congrArg (AVal.irow _) (by first | omega | assumption | (simp only; omega)))) ?_; conv => whnf))
            rintro p p1
            have hcyp := hcyr p
            have cyb : p < List.length (α := List Int) cy.1 → List.length (α := Int) (@List.getD (List Int) cy.1 p []) ≤ 63 := fun h => hcys.2 _ (getD_mem h)
            clear hcyr
            conv => whnf
            refine vcCode_sound T_ok GLfc _ _ _ _ _ ?_
            conv => whnf
            repeat (refine V_step T_ok GLfc rfl ?_; conv => whnf)
            repeat (any_goals (first
              | (refine V_step T_ok GLfc rfl ?_; conv => whnf)
              | (refine V_drawN T_ok GLfc mixed (by kernel_rfl) ?_; conv => whnf)
              | (refine bcond_split (fun hc => ?_) (fun hc => ?_) <;> (try simp only [decide_eq_true_eq, decide_eq_false_iff_not, Bool.not_eq_true', Bool.not_eq_false', Bool.and_eq_true, Bool.or_eq_true, Bool.and_eq_false_imp, Bool.or_eq_false_iff, ne_eq, Decidable.not_not] at hc) <;> conv => whnf)
              | (intro ysK hysK; have hysl := congrArg List.length hysK; (try simp only [List.length_set, List.length_append, List.length_cons, List.length_nil, List.length_take, List.length_drop, List.length_replicate] at hysl); conv => whnf)
              | (intro bK hbK; have hbl := congrArg ByteArray.size hbK; conv => whnf)
              | (intro sK hsK; conv => whnf)
              | (refine And.intro (by first | (first | exact True.intro | omega | (simp only [Rng]; omega)) | exact True.intro | exact ⟨rfl, True.intro, fun _ _ => rfl⟩ | exact Nat.le_of_ble_eq_true rfl | (refine ⟨by (try simp only [List.length_cons, List.length_nil]); omega, Int.le_trans (Int.mul_le_mul_of_nonneg_left (show (TInfo.bytes _ : Int) ≤ 64 from Int.ofNat_le.2 (Nat.le_of_ble_eq_true rfl)) (by omega)) (by (try simp only [List.length_cons, List.length_nil]); omega)⟩)) ?_; conv => whnf)))
            · have hpl : p < List.length (α := List Int) cy.1 := by omega
              have cyb := cyb hpl
              have hcyp := hcyp hpl
              refine V_loopH (γ := Nat) (fun g => g ≤ List.length (α := Int) (@List.getD (List Int) cy.1 p [])) (fun g => List.length (α := Int) (@List.getD (List Int) cy.1 p []) - g)
                (fun g => [(55, .int .i64 g)]) (fun _ => []) (fun _ => []) 0 (Nat.zero_le _) ?_ ?_
              · clear hcyp
                conv => whnf
                refine ⟨?_, by (conv => whnf); repeat (first | exact True.intro | (refine And.intro rfl ?_; conv => whnf)), by (conv => whnf); repeat (first | exact True.intro | (refine And.intro (by first | rfl | (subst_vars; rfl)) ?_; conv => whnf)), rfl, rfl, rfl, rfl, rfl, rfl, rfl, Nat.le_of_ble_eq_true rfl, Nat.le_of_ble_eq_true rfl⟩
                conv => whnf
                repeat (first | exact True.intro | (refine And.intro (by first | rfl | ((conv => whnf); exact congrArg (AVal.int .i64) (by omega)) | ((conv => whnf); exact congrArg (AVal.int .i64) (by simp only [Int.natCast_add, Int.natCast_one]; omega)) | ((conv => whnf); exact congrArg (AVal.irow _) (by first | omega | assumption | (simp only; omega)))) ?_; conv => whnf))
              rintro v v1
              have hcyp := hcyp v
              have cyb2 : (List.length (α := Int) (@List.getD (List Int) cy.1 (p : Int).toNat []) : Int) ≤ 63 := Int.ofNat_le.2 cyb
              have v2 : (v : Int) ≤ (List.length (α := Int) (@List.getD (List Int) cy.1 (p : Int).toNat []) : Int) := Int.ofNat_le.2 v1
              have k1 : (v : Int) < (List.length (α := Int) (@List.getD (List Int) cy.1 (p : Int).toNat []) : Int) → (0 ≤ (v : Int) ∧ (v : Int) < (List.length (α := Int) (@List.getD (List Int) cy.1 (p : Int).toNat []) : Int) ∧ (p : Int).toNat < List.length (α := List Int) cy.1) := fun h => ⟨by omega, h, by omega⟩
              have k2 : (v : Int) < (List.length (α := Int) (@List.getD (List Int) cy.1 (p : Int).toNat []) : Int) → (0 ≤ @List.getD Int (@List.getD (List Int) cy.1 (p : Int).toNat []) (v : Int).toNat 0 ∧ @List.getD Int (@List.getD (List Int) cy.1 (p : Int).toNat []) (v : Int).toNat 0 < (List.length (α := Int) im.1 : Int)) := fun h => (hcyp (Int.ofNat_lt.1 h)).1
              have k3 : (v : Int) < (List.length (α := Int) (@List.getD (List Int) cy.1 (p : Int).toNat []) : Int) → (@List.getD Int (@List.getD (List Int) cy.1 (p : Int).toNat []) (v : Int).toNat 0).toNat < List.length (α := Int) im.1 := fun h => by have := k2 h; omega
              have tm : (v : Int) < (List.length (α := Int) (@List.getD (List Int) cy.1 (p : Int).toNat []) : Int) → Int.tmod ((v : Int) + 1) (List.length (α := Int) (@List.getD (List Int) cy.1 (p : Int).toNat []) : Int) = (((v + 1) % List.length (α := Int) (@List.getD (List Int) cy.1 (p : Int).toNat []) : Nat) : Int) := fun h => by
                rw [Int.tmod_eq_emod_of_nonneg (by omega)]; rfl
              have k4 : (v : Int) < (List.length (α := Int) (@List.getD (List Int) cy.1 (p : Int).toNat []) : Int) → (0 ≤ Int.tmod ((v : Int) + 1) (List.length (α := Int) (@List.getD (List Int) cy.1 (p : Int).toNat []) : Int) ∧ Int.tmod ((v : Int) + 1) (List.length (α := Int) (@List.getD (List Int) cy.1 (p : Int).toNat []) : Int) < (List.length (α := Int) (@List.getD (List Int) cy.1 (p : Int).toNat []) : Int) ∧ (p : Int).toNat < List.length (α := List Int) cy.1) := fun h => by
                rw [tm h]
                have := Nat.mod_lt (v + 1) (show 0 < List.length (α := Int) (@List.getD (List Int) cy.1 (p : Int).toNat []) by omega)
                exact ⟨by omega, by omega, by omega⟩
              have k5 : (v : Int) < (List.length (α := Int) (@List.getD (List Int) cy.1 (p : Int).toNat []) : Int) → (List.length (α := Int) (@List.getD (List Int) cy.1 (p : Int).toNat []) : Int) ≠ 0 := fun h => by omega
              have k6 : (v : Int) < (List.length (α := Int) (@List.getD (List Int) cy.1 (p : Int).toNat []) : Int) → Rng .i64 (Int.tmod ((v : Int) + 1) (List.length (α := Int) (@List.getD (List Int) cy.1 (p : Int).toNat []) : Int)) := fun h => by
                have := k4 h; simp only [Rng]; omega
              have k7 : (v : Int) < (List.length (α := Int) (@List.getD (List Int) cy.1 (p : Int).toNat []) : Int) → Rng .i64 ((v : Int) + 1) := fun h => by simp only [Rng]; omega
              conv => whnf
              refine vcCode_sound T_ok GLfc _ _ _ _ _ ?_
              conv => whnf
              repeat (refine V_step T_ok GLfc rfl ?_; conv => whnf)
              repeat (any_goals (first
                | (refine V_step T_ok GLfc rfl ?_; conv => whnf)
                | (refine V_drawN T_ok GLfc mixed (by kernel_rfl) ?_; conv => whnf)
                | (refine bcond_split (fun hc => ?_) (fun hc => ?_) <;> (try simp only [decide_eq_true_eq, decide_eq_false_iff_not, Bool.not_eq_true', Bool.not_eq_false', Bool.and_eq_true, Bool.or_eq_true, Bool.and_eq_false_imp, Bool.or_eq_false_iff, ne_eq, Decidable.not_not] at hc) <;> conv => whnf)
                | (intro ysK hysK; have hysl := congrArg List.length hysK; (try simp only [List.length_set, List.length_append, List.length_cons, List.length_nil, List.length_take, List.length_drop, List.length_replicate] at hysl); conv => whnf)
                | (intro bK hbK; have hbl := congrArg ByteArray.size hbK; conv => whnf)
                | (intro sK hsK; conv => whnf)
                | (refine And.intro (by first | (first | exact True.intro | exact k1 (by assumption) | exact k2 (by assumption) | exact k3 (by assumption) | exact k4 (by assumption) | exact k5 (by assumption) | exact k6 (by assumption) | exact k7 (by assumption) | omega | (simp only [Rng]; omega)) | exact True.intro | exact ⟨rfl, True.intro, fun _ _ => rfl⟩ | exact Nat.le_of_ble_eq_true rfl | (refine ⟨by (try simp only [List.length_cons, List.length_nil]); omega, Int.le_trans (Int.mul_le_mul_of_nonneg_left (show (TInfo.bytes _ : Int) ≤ 64 from Int.ofNat_le.2 (Nat.le_of_ble_eq_true rfl)) (by omega)) (by (try simp only [List.length_cons, List.length_nil]); omega)⟩)) ?_; conv => whnf)))
              · rename_i hv
                have q := (hcyp (Int.ofNat_lt.1 hv)).2
                refine absurd ?_ hc
                rw [tm hv]
                exact q
              · rename_i hv
                refine ⟨v + 1, Int.ofNat_lt.1 hv, Nat.sub_lt_sub_left (Int.ofNat_lt.1 hv) (Nat.lt_succ_self v), ?_⟩
                clear hcyp k1 k2 k3 k4 k5 k6 tm
                conv => whnf
                refine ⟨?_, by (conv => whnf); repeat (first | exact True.intro | (refine And.intro rfl ?_; conv => whnf)), by (conv => whnf); repeat (first | exact True.intro | (refine And.intro (by first | rfl | (subst_vars; rfl)) ?_; conv => whnf)), rfl, rfl, rfl, rfl, rfl, rfl, rfl, Nat.le_of_ble_eq_true rfl, Nat.le_of_ble_eq_true rfl⟩
                conv => whnf
                repeat (first | exact True.intro | (refine And.intro (by first | rfl | ((conv => whnf); exact congrArg (AVal.int .i64) (by omega)) | ((conv => whnf); exact congrArg (AVal.int .i64) (by simp only [Int.natCast_add, Int.natCast_one]; omega)) | ((conv => whnf); exact congrArg (AVal.irow _) (by first | omega | assumption | (simp only; omega)))) ?_; conv => whnf))
              · refine ⟨p + 1, hpl, Nat.sub_lt_sub_left hpl (Nat.lt_succ_self p), ?_⟩
                clear hcyp k1 k2 k3 k4 k5 k6 tm
                conv => whnf
                refine ⟨?_, by (conv => whnf); repeat (first | exact True.intro | (refine And.intro rfl ?_; conv => whnf)), by (conv => whnf); repeat (first | exact True.intro | (refine And.intro (by first | rfl | (subst_vars; rfl)) ?_; conv => whnf)), rfl, rfl, rfl, rfl, rfl, rfl, rfl, Nat.le_of_ble_eq_true rfl, Nat.le_of_ble_eq_true rfl⟩
                conv => whnf
                repeat (first | exact True.intro | (refine And.intro (by first | rfl | ((conv => whnf); exact congrArg (AVal.int .i64) (by omega)) | ((conv => whnf); exact congrArg (AVal.int .i64) (by simp only [Int.natCast_add, Int.natCast_one]; omega)) | ((conv => whnf); exact congrArg (AVal.irow _) (by first | omega | assumption | (simp only; omega)))) ?_; conv => whnf))
            · exact leaf0 rfl rfl rfl
    · exact leaf0 rfl (congrArg AVal.bool (decide_eq_true (clo_nil hx hc))) rfl
    · rename_i lc hlc lc2 hlc2 _ _ im him im2 him2 _ _ cy hcy _ _ h2
      have him : im = ciR (a1, a2) n1 := him
      have hcy : cy = cyL (ciR (a1, a2) n1) := hcy
      have hcz := clo_zero hx (by assumption)
      have hA := hcz.1.1
      have hN1 := hcz.1.2
      obtain ⟨N, hN⟩ : ∃ N : Nat, n1 = N := ⟨n1.toNat, by have := hN1.1; omega⟩
      have hC : C = clsL N (lab1 (a1, a2) n1) := by rw [hcz.2]; unfold cls1; rw [show n1.toNat = N by omega]
      have hcan : Can N (lab1 (a1, a2) n1) := by have := lab1_can (a1, a2) n1; rw [show n1.toNat = N by omega] at this; exact this
      have himA : im.1 = imgA (a1, a2) n1 := by rw [him, ciR_t hA hN1]
      have hci0 : (ciR (a1, a2) n1).2 = 0 := by rw [ciR_t hA hN1]
      have hnums : Nums im.1 := by rw [him]; exact ciR_nums hci0
      have hcyA : cy.1 = cycG (nxF im.1) (List.length (α := Int) im.1) := by rw [hcy, cyL_0 hci0, him]
      have hmk : (0 ≤ n1 ∧ n1 = n1 ∧ (ti2.bytes : Int) * n1 ≤ 281474976710656 ∧ n1 ≤ 9223372036854775807) := by
        have := hN1.1
        have := hN1.2
        refine ⟨by omega, rfl, ?_, by omega⟩
        show (8 : Int) * n1 ≤ _
        omega
      have cb : ∀ g : Nat, g < List.length (α := List Int) C → List.length (α := Int) (@List.getD (List Int) C g []) ≤ 63 := fun g h => z1s.2 _ (getD_mem h)
      have cl : List.length (α := List Int) C ≤ 63 := z1s.1
      repeat (any_goals (first
        | (refine V_step T_ok GLfc rfl ?_; conv => whnf)
        | (refine V_drawN T_ok GLfc mixed (by kernel_rfl) ?_; conv => whnf)
        | (refine bcond_split (fun hc => ?_) (fun hc => ?_) <;> (try simp only [decide_eq_true_eq, decide_eq_false_iff_not, Bool.not_eq_true', Bool.not_eq_false', Bool.and_eq_true, Bool.or_eq_true, Bool.and_eq_false_imp, Bool.or_eq_false_iff, ne_eq, Decidable.not_not] at hc) <;> conv => whnf)
        | (intro ysK hysK; have hysl := congrArg List.length hysK; (try simp only [List.length_set, List.length_append, List.length_cons, List.length_nil, List.length_take, List.length_drop, List.length_replicate] at hysl); conv => whnf)
        | (intro bK hbK; have hbl := congrArg ByteArray.size hbK; conv => whnf)
        | (intro sK hsK; conv => whnf)
        | (refine And.intro (by first | (first | exact True.intro | with_reducible exact hmk | omega | (simp only [Rng]; omega)) | exact True.intro | exact ⟨rfl, True.intro, fun _ _ => rfl⟩ | exact Nat.le_of_ble_eq_true rfl | (refine ⟨by (try simp only [List.length_cons, List.length_nil]); omega, Int.le_trans (Int.mul_le_mul_of_nonneg_left (show (TInfo.bytes _ : Int) ≤ 64 from Int.ofNat_le.2 (Nat.le_of_ble_eq_true rfl)) (by omega)) (by (try simp only [List.length_cons, List.length_nil]); omega)⟩)) ?_; conv => whnf)))
      have hrep : List.replicate (Int.toNat n1) (0 : Int) = List.replicate N 0 := by rw [show n1.toNat = N by omega]
      have hW0 : WhI C N 0 0 (List.replicate (Int.toNat n1) (0 : Int)) := by
        rw [hrep]
        refine WhI.start C N fun x hx => ?_
        rw [hC]
        obtain ⟨i', _, _, h2, _⟩ := cls_of hcan hx
        rw [h2]; omega
      refine V_loopH (γ := Nat × List Int) (fun g => g.1 ≤ List.length (α := List Int) C ∧ WhI C N g.1 0 g.2) (fun g => List.length (α := List Int) C - g.1)
        (fun g => [(46, .int .i64 g.1), (45, .int .i64 (totG C g.1))]) (fun _ => []) (fun g => [(9, some ⟨iT, 2, true, g.2⟩)]) (0, List.replicate (Int.toNat n1) (0 : Int)) ⟨Nat.zero_le _, hW0⟩ ?_ ?_
      · clear cb z1 z2 z3 z4 z5 z6
        conv => whnf
        refine ⟨?_, by (conv => whnf); repeat (first | exact True.intro | (refine And.intro rfl ?_; conv => whnf)), by (conv => whnf); repeat (first | exact True.intro | (refine And.intro (by first | rfl | (subst_vars; rfl)) ?_; conv => whnf)), rfl, rfl, rfl, rfl, rfl, rfl, rfl, Nat.le_of_ble_eq_true rfl, Nat.le_of_ble_eq_true rfl⟩
        conv => whnf
        repeat (first | exact True.intro | (refine And.intro (by first | rfl | ((conv => whnf); exact congrArg (AVal.int .i64) (by omega)) | ((conv => whnf); exact congrArg (AVal.int .i64) (by simp only [Int.natCast_add, Int.natCast_one]; omega)) | ((conv => whnf); exact congrArg (AVal.irow _) (by first | omega | assumption | (simp only; omega)))) ?_; conv => whnf))
      rintro ⟨x, wh⟩ ⟨x1, x2⟩
      simp only at x1 x2
      have x3 := totG_le z1s.2 z1s.1 x x1
      simp only at x3
      have x4 := cb x
      conv => whnf
      refine vcCode_sound T_ok GLfc _ _ _ _ _ ?_
      conv => whnf
      repeat (refine V_step T_ok GLfc rfl ?_; conv => whnf)
      repeat (any_goals (first
        | (refine V_step T_ok GLfc rfl ?_; conv => whnf)
        | (refine V_drawN T_ok GLfc mixed (by kernel_rfl) ?_; conv => whnf)
        | (refine bcond_split (fun hc => ?_) (fun hc => ?_) <;> (try simp only [decide_eq_true_eq, decide_eq_false_iff_not, Bool.not_eq_true', Bool.not_eq_false', Bool.and_eq_true, Bool.or_eq_true, Bool.and_eq_false_imp, Bool.or_eq_false_iff, ne_eq, Decidable.not_not] at hc) <;> conv => whnf)
        | (intro ysK hysK; have hysl := congrArg List.length hysK; (try simp only [List.length_set, List.length_append, List.length_cons, List.length_nil, List.length_take, List.length_drop, List.length_replicate] at hysl); conv => whnf)
        | (intro bK hbK; have hbl := congrArg ByteArray.size hbK; conv => whnf)
        | (intro sK hsK; conv => whnf)
        | (refine And.intro (by first | (first | exact True.intro | omega | (have x5 := x4 (by omega); simp only [Rng, Int.toNat_natCast]; omega) | (simp only [Rng]; omega)) | exact True.intro | exact ⟨rfl, True.intro, fun _ _ => rfl⟩ | exact Nat.le_of_ble_eq_true rfl | (refine ⟨by (try simp only [List.length_cons, List.length_nil]); omega, Int.le_trans (Int.mul_le_mul_of_nonneg_left (show (TInfo.bytes _ : Int) ≤ 64 from Int.ofNat_le.2 (Nat.le_of_ble_eq_true rfl)) (by omega)) (by (try simp only [List.length_cons, List.length_nil]); omega)⟩)) ?_; conv => whnf)))
      · have x6 : x < List.length (α := List Int) C := by omega
        have hat : ∀ j : Nat, j < List.length (α := Int) (@List.getD (List Int) C x []) → (0 ≤ @List.getD Int (@List.getD (List Int) C x []) j 0 ∧ @List.getD Int (@List.getD (List Int) C x []) j 0 < N) ∧ lab (lab1 (a1, a2) n1) (@List.getD Int (@List.getD (List Int) C x []) j 0).toNat = @List.getD Int (@List.getD (List Int) C x []) 0 0 := by
          rw [hC] at x6 ⊢
          exact fun j hj => ⟨(cls_at hcan x6 hj).1, (cls_at hcan x6 hj).2.2⟩
        have hst : ∀ (j : Nat) (w2 : List Int), WhI C N x j w2 → j < List.length (α := Int) (@List.getD (List Int) C x []) → WhI C N x (j + 1) (w2.set (@List.getD Int (@List.getD (List Int) C x []) j 0).toNat (x : Int)) := by
          rw [hC] at x6 ⊢
          exact fun j w2 h h2 => WhI.step hcan h x6 h2
        have hnx : ∀ w2 : List Int, WhI C N x (List.length (α := Int) (@List.getD (List Int) C x [])) w2 → WhI C N (x + 1) 0 w2 := by
          rw [hC] at x6 ⊢
          exact fun w2 h => WhI.next hcan h x6
        have hlet : ∀ j : Nat, j < List.length (α := Int) (@List.getD (List Int) C x []) → ltO (ofQ (@List.getD Int (@List.getD (List Int) C x []) j 0) n1) (a1, a2) = ltO (ofQ (@List.getD Int (@List.getD (List Int) C x []) 0 0) n1) (a1, a2) := fun j hj => by
          have q1 := hat j hj
          have q2 := hat 0 (by omega)
          have q3 := lab1_let (a1, a2) hN1 (x := (@List.getD Int (@List.getD (List Int) C x []) j 0).toNat) (y := (@List.getD Int (@List.getD (List Int) C x []) 0 0).toNat) (by omega) (by omega) (q1.2.trans q2.2.symm)
          rw [Int.toNat_of_nonneg q1.1.1, Int.toNat_of_nonneg q2.1.1] at q3
          exact ltO_lb (part_isA _ n1 hN1.1 hN1.2).1 (part_isA _ n1 hN1.1 hN1.2).1 hA q3
        have hlt0 : ∀ v : Int, (ltO (ofQ v n1) (a1, a2)).2 = 0 := fun v => by rw [ltO_t ⟨(part_isA _ n1 hN1.1 hN1.2).1, hA⟩]
        have hang : ∀ j : Nat, j < List.length (α := Int) (@List.getD (List Int) C x []) → angO (@List.getD Int (@List.getD (List Int) C x []) j 0) n1 = (ofQ (@List.getD Int (@List.getD (List Int) C x []) j 0) n1, 0) := fun j hj => by
          have q1 := hat j hj
          exact angO_part _ n1 hN1.1 hN1.2 ⟨q1.1.1, by omega⟩
        have x7 := x4 x6
        clear jb z1 z2 z3 z4 z5 z6 cb x4 hmk hnums
        refine V_loopH (γ := Nat × List Int × ByteArray) (fun g => g.1 ≤ List.length (α := Int) (@List.getD (List Int) C x []) ∧ WhI C N x g.1 g.2.1 ∧ (g.1 ≠ 0 → g.2.2 = (ltO (ofQ (@List.getD Int (@List.getD (List Int) C x []) 0 0) n1) (a1, a2)).1)) (fun g => List.length (α := Int) (@List.getD (List Int) C x []) - g.1)
          (fun g => [(48, .int .i64 g.1), (47, .str g.2.2)]) (fun _ => []) (fun g => [(9, some ⟨iT, 2, true, g.2.1⟩)]) (0, wh, ⟨#[]⟩) ⟨Nat.zero_le _, x2, fun h => absurd rfl h⟩ ?_ ?_
        · clear hat hst hnx hlet hlt0 hang
          conv => whnf
          refine ⟨?_, by (conv => whnf); repeat (first | exact True.intro | (refine And.intro rfl ?_; conv => whnf)), by (conv => whnf); repeat (first | exact True.intro | (refine And.intro (by first | rfl | (subst_vars; rfl)) ?_; conv => whnf)), rfl, rfl, rfl, rfl, rfl, rfl, rfl, Nat.le_of_ble_eq_true rfl, Nat.le_of_ble_eq_true rfl⟩
          conv => whnf
          repeat (first | exact True.intro | (refine And.intro (by first | rfl | ((conv => whnf); exact congrArg (AVal.int .i64) (by omega)) | ((conv => whnf); exact congrArg (AVal.int .i64) (by simp only [Int.natCast_add, Int.natCast_one]; omega)) | ((conv => whnf); exact congrArg (AVal.irow _) (by first | omega | assumption | (simp only; omega)))) ?_; conv => whnf))
        rintro ⟨j, w2, f⟩ ⟨j1, j2, j3⟩
        simp only at j1 j2 j3
        have hat1 := hat j
        have j4 := j2.len
        have s1 : (j : Int) < (List.length (α := Int) (@List.getD (List Int) C (x : Int).toNat []) : Int) → (0 ≤ (j : Int) ∧ (j : Int) < (List.length (α := Int) (@List.getD (List Int) C (x : Int).toNat []) : Int) ∧ (x : Int).toNat < List.length (α := List Int) C) := fun h => ⟨by omega, h, by omega⟩
        have s2 : (j : Int) < (List.length (α := Int) (@List.getD (List Int) C (x : Int).toNat []) : Int) → (0 ≤ @List.getD Int (@List.getD (List Int) C (x : Int).toNat []) (j : Int).toNat 0 ∧ @List.getD Int (@List.getD (List Int) C (x : Int).toNat []) (j : Int).toNat 0 < (List.length (α := Int) w2 : Int)) := fun h => by
          have h1 := (hat1 (Int.ofNat_lt.1 h)).1
          rw [j4]; exact h1
        have s3 : (j : Int) < (List.length (α := Int) (@List.getD (List Int) C (x : Int).toNat []) : Int) → (@List.getD Int (@List.getD (List Int) C (x : Int).toNat []) (j : Int).toNat 0).toNat < List.length (α := Int) w2 := fun h => by
          have h1 := (hat1 (Int.ofNat_lt.1 h)).1
          show (@List.getD Int (@List.getD (List Int) C x []) j 0).toNat < List.length (α := Int) w2
          omega
        conv => whnf
        refine vcCode_sound T_ok GLfc _ _ _ _ _ ?_
        conv => whnf
        repeat (refine V_step T_ok GLfc rfl ?_; conv => whnf)
        repeat (any_goals (first
          | (refine V_step T_ok GLfc rfl ?_; conv => whnf)
          | (refine V_drawN T_ok GLfc mixed (by kernel_rfl) ?_; conv => whnf)
          | (refine bcond_split (fun hc => ?_) (fun hc => ?_) <;> (try simp only [decide_eq_true_eq, decide_eq_false_iff_not, Bool.not_eq_true', Bool.not_eq_false', Bool.and_eq_true, Bool.or_eq_true, Bool.and_eq_false_imp, Bool.or_eq_false_iff, ne_eq, Decidable.not_not] at hc) <;> conv => whnf)
          | (intro ysK hysK; have hysl := congrArg List.length hysK; (try simp only [List.length_set, List.length_append, List.length_cons, List.length_nil, List.length_take, List.length_drop, List.length_replicate] at hysl); conv => whnf)
          | (intro bK hbK; have hbl := congrArg ByteArray.size hbK; conv => whnf)
          | (intro sK hsK; conv => whnf)
          | (refine And.intro (by first | (first | exact True.intro | exact s1 (by assumption) | exact s2 (by assumption) | exact s3 (by assumption) | omega | (simp only [Rng]; omega)) | exact True.intro | exact ⟨rfl, True.intro, fun _ _ => rfl⟩ | exact Nat.le_of_ble_eq_true rfl | (refine ⟨by (try simp only [List.length_cons, List.length_nil]); omega, Int.le_trans (Int.mul_le_mul_of_nonneg_left (show (TInfo.bytes _ : Int) ≤ 64 from Int.ofNat_le.2 (Nat.le_of_ble_eq_true rfl)) (by omega)) (by (try simp only [List.length_cons, List.length_nil]); omega)⟩)) ?_; conv => whnf)))
        · rename_i hj y1 hy1
          have e : y1 = _ := hy1.trans (hang j (Int.ofNat_lt.1 hj))
          exact absurd (by rw [e]) hc
        · rename_i hj y1 hy1 _
          have e : y1 = _ := hy1.trans (hang j (Int.ofNat_lt.1 hj))
          have e2 : sK = ltO (ofQ (@List.getD Int (@List.getD (List Int) C x []) j 0) n1) (a1, a2) := hsK.trans (by rw [e])
          exact absurd (by rw [e2, hlt0]) hc
        · rename_i hj y1 hy1 _ _ hj0
          have e : y1 = _ := hy1.trans (hang j (Int.ofNat_lt.1 hj))
          have e2 : sK = ltO (ofQ (@List.getD Int (@List.getD (List Int) C x []) j 0) n1) (a1, a2) := hsK.trans (by rw [e])
          refine absurd ?_ hc
          rw [e2, hlet j (Int.ofNat_lt.1 hj), j3 (by omega)]
        · rename_i hj y1 hy1 _ _ hj0
          have e : y1 = _ := hy1.trans (hang j (Int.ofNat_lt.1 hj))
          have e2 : sK = ltO (ofQ (@List.getD Int (@List.getD (List Int) C x []) j 0) n1) (a1, a2) := hsK.trans (by rw [e])
          have e3 : sK.1 = (ltO (ofQ (@List.getD Int (@List.getD (List Int) C x []) 0 0) n1) (a1, a2)).1 := by rw [e2, hlet j (Int.ofNat_lt.1 hj)]
          have e4 := hst j w2 j2 (Int.ofNat_lt.1 hj)
          have e5 : ysK = w2.set (@List.getD Int (@List.getD (List Int) C x []) j 0).toNat (x : Int) := hysK
          rw [← e5] at e4
          refine ⟨(j + 1, ysK, sK.1), ⟨Int.ofNat_lt.1 hj, e4, fun _ => e3⟩, Nat.sub_lt_sub_left (Int.ofNat_lt.1 hj) (Nat.lt_succ_self j), ?_⟩
          clear e2 e3 e4 e5 hat hst hnx hlet hlt0 hang
          conv => whnf
          refine ⟨?_, by (conv => whnf); repeat (first | exact True.intro | (refine And.intro rfl ?_; conv => whnf)), by (conv => whnf); repeat (first | exact True.intro | (refine And.intro (by first | rfl | (subst_vars; rfl)) ?_; conv => whnf)), rfl, rfl, rfl, rfl, rfl, rfl, rfl, Nat.le_of_ble_eq_true rfl, Nat.le_of_ble_eq_true rfl⟩
          conv => whnf
          repeat (first | exact True.intro | (refine And.intro (by first | rfl | ((conv => whnf); exact congrArg (AVal.int .i64) (by omega)) | ((conv => whnf); exact congrArg (AVal.int .i64) (by simp only [Int.natCast_add, Int.natCast_one]; omega)) | ((conv => whnf); exact congrArg (AVal.irow _) (by first | omega | assumption | (simp only; omega)))) ?_; conv => whnf))
        · rename_i hj y1 hy1 _ _
          have e : y1 = _ := hy1.trans (hang j (Int.ofNat_lt.1 hj))
          have e2 : sK = ltO (ofQ (@List.getD Int (@List.getD (List Int) C x []) j 0) n1) (a1, a2) := hsK.trans (by rw [e])
          have e3 : sK.1 = (ltO (ofQ (@List.getD Int (@List.getD (List Int) C x []) 0 0) n1) (a1, a2)).1 := by rw [e2, hlet j (Int.ofNat_lt.1 hj)]
          have e4 := hst j w2 j2 (Int.ofNat_lt.1 hj)
          have e5 : ysK = w2.set (@List.getD Int (@List.getD (List Int) C x []) j 0).toNat (x : Int) := hysK
          rw [← e5] at e4
          refine ⟨(j + 1, ysK, sK.1), ⟨Int.ofNat_lt.1 hj, e4, fun _ => e3⟩, Nat.sub_lt_sub_left (Int.ofNat_lt.1 hj) (Nat.lt_succ_self j), ?_⟩
          clear e2 e3 e4 e5 hat hst hnx hlet hlt0 hang
          conv => whnf
          refine ⟨?_, by (conv => whnf); repeat (first | exact True.intro | (refine And.intro rfl ?_; conv => whnf)), by (conv => whnf); repeat (first | exact True.intro | (refine And.intro (by first | rfl | (subst_vars; rfl)) ?_; conv => whnf)), rfl, rfl, rfl, rfl, rfl, rfl, rfl, Nat.le_of_ble_eq_true rfl, Nat.le_of_ble_eq_true rfl⟩
          conv => whnf
          repeat (first | exact True.intro | (refine And.intro (by first | rfl | ((conv => whnf); exact congrArg (AVal.int .i64) (by omega)) | ((conv => whnf); exact congrArg (AVal.int .i64) (by simp only [Int.natCast_add, Int.natCast_one]; omega)) | ((conv => whnf); exact congrArg (AVal.irow _) (by first | omega | assumption | (simp only; omega)))) ?_; conv => whnf))
        · have hjl : j = List.length (α := Int) (@List.getD (List Int) C x []) := Nat.le_antisymm j1 (Nat.le_of_not_lt fun h => hc (Int.ofNat_lt.2 h))
          have e4 := hnx w2 (by rw [← hjl]; exact j2)
          have htot : ((totG C (x + 1) : Nat) : Int) = (totG C x : Int) + (List.length (α := Int) (@List.getD (List Int) C (x : Int).toNat []) : Int) := by
            show _ = (totG C x : Int) + (List.length (α := Int) (@List.getD (List Int) C x []) : Int)
            rw [totG_next C x6]; omega
          refine ⟨(x + 1, w2), ⟨x6, e4⟩, Nat.sub_lt_sub_left x6 (Nat.lt_succ_self x), ?_⟩
          clear e4 hat hst hnx hlet hlt0 hang
          simp only [htot]
          conv => whnf
          refine ⟨?_, by (conv => whnf); repeat (first | exact True.intro | (refine And.intro rfl ?_; conv => whnf)), by (conv => whnf); repeat (first | exact True.intro | (refine And.intro (by first | rfl | (subst_vars; rfl)) ?_; conv => whnf)), rfl, rfl, rfl, rfl, rfl, rfl, rfl, Nat.le_of_ble_eq_true rfl, Nat.le_of_ble_eq_true rfl⟩
          conv => whnf
          repeat (first | exact True.intro | (refine And.intro (by first | rfl | ((conv => whnf); exact congrArg (AVal.int .i64) (by omega)) | ((conv => whnf); exact congrArg (AVal.int .i64) (by simp only [Int.natCast_add, Int.natCast_one]; omega)) | ((conv => whnf); exact congrArg (AVal.irow _) (by first | omega | assumption | (simp only; omega)))) ?_; conv => whnf))
      · have hgl : x = List.length (α := List Int) C := by omega
        refine absurd ?_ hc
        rw [hgl, hC, cls_total hcan, hN]
      · refine absurd ?_ hc
        rw [himA, hcz.2]
        unfold imgA
        rw [imgG_full]
      · have hgl : x = List.length (α := List Int) C := by omega
        have hfin : ∀ x : Nat, x < n1.toNat → List.getD (α := Int) wh x 0 = cix (cls1 (a1, a2) n1) x := by
          rw [← hcz.2, show n1.toNat = N by omega]
          rw [hgl] at x2
          rw [hC] at x2 ⊢
          exact WhI.done hcan x2
        have hwl : List.length (α := Int) wh = N := x2.len
        have him9 : ∀ x : Nat, x < N → List.getD (α := Int) wh (2 * (x : Int) % n1).toNat 0 = List.getD (α := Int) im.1 (List.getD (α := Int) wh x 0).toNat 0 ∧ (0 ≤ List.getD (α := Int) wh x 0 ∧ List.getD (α := Int) wh x 0 < (List.length (α := Int) im.1 : Int)) := fun x hx => by
          have := img_law (a1, a2) hN1 hfin (x := x) (by omega)
          rw [← himA] at this
          exact this
        have hcyr : ∀ g : Nat, g < List.length (α := List Int) cy.1 → ∀ j : Nat, j < List.length (α := Int) (@List.getD (List Int) cy.1 g []) → (0 ≤ List.getD (α := Int) (@List.getD (List Int) cy.1 g []) j 0 ∧ List.getD (α := Int) (@List.getD (List Int) cy.1 g []) j 0 < (List.length (α := Int) im.1 : Int)) ∧ List.getD (α := Int) im.1 (List.getD (α := Int) (@List.getD (List Int) cy.1 g []) j 0).toNat 0 = List.getD (α := Int) (@List.getD (List Int) cy.1 g []) ((j + 1) % List.length (α := Int) (@List.getD (List Int) cy.1 g [])) 0 := fun g hg j hj =>
          cyc_law hnums (r := @List.getD (List Int) cy.1 g []) (by rw [← hcyA]; exact getD_mem hg) hj
        have hcys := cyL_small (a1, a2) n1
        rw [← hcy] at hcys
        clear cb z1 z2 z3 z4 z5 z6 x3 x4 x1 x2 jb hmk
        have hn0 := hN1.1
        have hn63 := hN1.2
        refine V_loopH (γ := Nat) (fun g => g ≤ N) (fun g => N - g)
          (fun g => [(53, .int .i64 g)]) (fun _ => []) (fun _ => []) 0 (Nat.zero_le _) ?_ ?_
        · clear him9 hcyr hfin
          conv => whnf
          refine ⟨?_, by (conv => whnf); repeat (first | exact True.intro | (refine And.intro rfl ?_; conv => whnf)), by (conv => whnf); repeat (first | exact True.intro | (refine And.intro (by first | rfl | (subst_vars; rfl)) ?_; conv => whnf)), rfl, rfl, rfl, rfl, rfl, rfl, rfl, Nat.le_of_ble_eq_true rfl, Nat.le_of_ble_eq_true rfl⟩
          conv => whnf
          repeat (first | exact True.intro | (refine And.intro (by first | rfl | ((conv => whnf); exact congrArg (AVal.int .i64) (by omega)) | ((conv => whnf); exact congrArg (AVal.int .i64) (by simp only [Int.natCast_add, Int.natCast_one]; omega)) | ((conv => whnf); exact congrArg (AVal.irow _) (by first | omega | assumption | (simp only; omega)))) ?_; conv => whnf))
        rintro u u1
        have him9 := him9 u
        have tm : Int.tmod (2 * (u : Int)) n1 = 2 * (u : Int) % n1 := Int.tmod_eq_emod_of_nonneg (by omega)
        have tm1 : 0 ≤ 2 * (u : Int) % n1 := Int.emod_nonneg _ (by omega)
        have tm2 : 2 * (u : Int) % n1 < n1 := Int.emod_lt_of_pos _ (by omega)
        have r1 : 0 ≤ Int.tmod (2 * (u : Int)) n1 ∧ Int.tmod (2 * (u : Int)) n1 < (List.length (α := Int) wh : Int) := by rw [tm, hwl, ← hN]; exact ⟨tm1, tm2⟩
        have r2 : (Int.tmod (2 * (u : Int)) n1).toNat < List.length (α := Int) wh := by have := r1.1; have := r1.2; omega
        have r3 : (u : Int) < n1 → (0 ≤ (u : Int) ∧ (u : Int) < (List.length (α := Int) wh : Int)) := fun h => by rw [hwl, ← hN]; exact ⟨by omega, h⟩
        have r4 : (u : Int) < n1 → (u : Int).toNat < List.length (α := Int) wh := fun h => by rw [hwl]; omega
        have r5 : (u : Int) < n1 → (0 ≤ List.getD (α := Int) wh (u : Int).toNat 0 ∧ List.getD (α := Int) wh (u : Int).toNat 0 < (List.length (α := Int) im.1 : Int)) := fun h => (him9 (by omega)).2
        have r6 : (u : Int) < n1 → (List.getD (α := Int) wh (u : Int).toNat 0).toNat < List.length (α := Int) im.1 := fun h => by have := r5 h; omega
        have r7 : Rng .i64 (2 * (u : Int)) := by simp only [Rng]; omega
        have r8 : n1 ≠ 0 := by omega
        have r9 : Rng .i64 (Int.tmod (2 * (u : Int)) n1) := by rw [tm]; simp only [Rng]; omega
        conv => whnf
        refine vcCode_sound T_ok GLfc _ _ _ _ _ ?_
        conv => whnf
        repeat (refine V_step T_ok GLfc rfl ?_; conv => whnf)
        repeat (any_goals (first
          | (refine V_step T_ok GLfc rfl ?_; conv => whnf)
          | (refine V_drawN T_ok GLfc mixed (by kernel_rfl) ?_; conv => whnf)
          | (refine bcond_split (fun hc => ?_) (fun hc => ?_) <;> (try simp only [decide_eq_true_eq, decide_eq_false_iff_not, Bool.not_eq_true', Bool.not_eq_false', Bool.and_eq_true, Bool.or_eq_true, Bool.and_eq_false_imp, Bool.or_eq_false_iff, ne_eq, Decidable.not_not] at hc) <;> conv => whnf)
          | (intro ysK hysK; have hysl := congrArg List.length hysK; (try simp only [List.length_set, List.length_append, List.length_cons, List.length_nil, List.length_take, List.length_drop, List.length_replicate] at hysl); conv => whnf)
          | (intro bK hbK; have hbl := congrArg ByteArray.size hbK; conv => whnf)
          | (intro sK hsK; conv => whnf)
          | (refine And.intro (by first | (first | exact True.intro | exact r1 | exact r2 | exact r3 (by assumption) | exact r4 (by assumption) | exact r5 (by assumption) | exact r6 (by assumption) | exact r7 | exact r8 | exact r9 | omega | (simp only [Rng]; omega)) | exact True.intro | exact ⟨rfl, True.intro, fun _ _ => rfl⟩ | exact Nat.le_of_ble_eq_true rfl | (refine ⟨by (try simp only [List.length_cons, List.length_nil]); omega, Int.le_trans (Int.mul_le_mul_of_nonneg_left (show (TInfo.bytes _ : Int) ≤ 64 from Int.ofNat_le.2 (Nat.le_of_ble_eq_true rfl)) (by omega)) (by (try simp only [List.length_cons, List.length_nil]); omega)⟩)) ?_; conv => whnf)))
        · rename_i hu
          have q := (him9 (by omega)).1
          rw [← tm] at q
          exact absurd q hc
        · rename_i hu
          refine ⟨u + 1, by omega, by omega, ?_⟩
          clear him9 hcyr hfin
          conv => whnf
          refine ⟨?_, by (conv => whnf); repeat (first | exact True.intro | (refine And.intro rfl ?_; conv => whnf)), by (conv => whnf); repeat (first | exact True.intro | (refine And.intro (by first | rfl | (subst_vars; rfl)) ?_; conv => whnf)), rfl, rfl, rfl, rfl, rfl, rfl, rfl, Nat.le_of_ble_eq_true rfl, Nat.le_of_ble_eq_true rfl⟩
          conv => whnf
          repeat (first | exact True.intro | (refine And.intro (by first | rfl | ((conv => whnf); exact congrArg (AVal.int .i64) (by omega)) | ((conv => whnf); exact congrArg (AVal.int .i64) (by simp only [Int.natCast_add, Int.natCast_one]; omega)) | ((conv => whnf); exact congrArg (AVal.irow _) (by first | omega | assumption | (simp only; omega)))) ?_; conv => whnf))
        clear him9 tm tm1 tm2 r1 r2 r3 r4 r5 r6 r7 r8 r9 hfin
        have cyl : List.length (α := List Int) cy.1 ≤ 63 := hcys.1
        refine V_loopH (γ := Nat) (fun g => g ≤ List.length (α := List Int) cy.1) (fun g => List.length (α := List Int) cy.1 - g)
          (fun g => [(54, .int .i64 g)]) (fun _ => []) (fun _ => []) 0 (Nat.zero_le _) ?_ ?_
        · clear hcyr
          conv => whnf
          refine ⟨?_, by (conv => whnf); repeat (first | exact True.intro | (refine And.intro rfl ?_; conv => whnf)), by (conv => whnf); repeat (first | exact True.intro | (refine And.intro (by first | rfl | (subst_vars; rfl)) ?_; conv => whnf)), rfl, rfl, rfl, rfl, rfl, rfl, rfl, Nat.le_of_ble_eq_true rfl, Nat.le_of_ble_eq_true rfl⟩
          conv => whnf
          repeat (first | exact True.intro | (refine And.intro (by first | rfl | ((conv => whnf); exact congrArg (AVal.int .i64) (by omega)) | ((conv => whnf); exact congrArg (AVal.int .i64) (by simp only [Int.natCast_add, Int.natCast_one]; omega)) | ((conv => whnf); exact congrArg (AVal.irow _) (by first | omega | assumption | (simp only; omega)))) ?_; conv => whnf))
        rintro p p1
        have hcyp := hcyr p
        have cyb : p < List.length (α := List Int) cy.1 → List.length (α := Int) (@List.getD (List Int) cy.1 p []) ≤ 63 := fun h => hcys.2 _ (getD_mem h)
        clear hcyr
        conv => whnf
        refine vcCode_sound T_ok GLfc _ _ _ _ _ ?_
        conv => whnf
        repeat (refine V_step T_ok GLfc rfl ?_; conv => whnf)
        repeat (any_goals (first
          | (refine V_step T_ok GLfc rfl ?_; conv => whnf)
          | (refine V_drawN T_ok GLfc mixed (by kernel_rfl) ?_; conv => whnf)
          | (refine bcond_split (fun hc => ?_) (fun hc => ?_) <;> (try simp only [decide_eq_true_eq, decide_eq_false_iff_not, Bool.not_eq_true', Bool.not_eq_false', Bool.and_eq_true, Bool.or_eq_true, Bool.and_eq_false_imp, Bool.or_eq_false_iff, ne_eq, Decidable.not_not] at hc) <;> conv => whnf)
          | (intro ysK hysK; have hysl := congrArg List.length hysK; (try simp only [List.length_set, List.length_append, List.length_cons, List.length_nil, List.length_take, List.length_drop, List.length_replicate] at hysl); conv => whnf)
          | (intro bK hbK; have hbl := congrArg ByteArray.size hbK; conv => whnf)
          | (intro sK hsK; conv => whnf)
          | (refine And.intro (by first | (first | exact True.intro | omega | (simp only [Rng]; omega)) | exact True.intro | exact ⟨rfl, True.intro, fun _ _ => rfl⟩ | exact Nat.le_of_ble_eq_true rfl | (refine ⟨by (try simp only [List.length_cons, List.length_nil]); omega, Int.le_trans (Int.mul_le_mul_of_nonneg_left (show (TInfo.bytes _ : Int) ≤ 64 from Int.ofNat_le.2 (Nat.le_of_ble_eq_true rfl)) (by omega)) (by (try simp only [List.length_cons, List.length_nil]); omega)⟩)) ?_; conv => whnf)))
        · have hpl : p < List.length (α := List Int) cy.1 := by omega
          have cyb := cyb hpl
          have hcyp := hcyp hpl
          refine V_loopH (γ := Nat) (fun g => g ≤ List.length (α := Int) (@List.getD (List Int) cy.1 p [])) (fun g => List.length (α := Int) (@List.getD (List Int) cy.1 p []) - g)
            (fun g => [(55, .int .i64 g)]) (fun _ => []) (fun _ => []) 0 (Nat.zero_le _) ?_ ?_
          · clear hcyp
            conv => whnf
            refine ⟨?_, by (conv => whnf); repeat (first | exact True.intro | (refine And.intro rfl ?_; conv => whnf)), by (conv => whnf); repeat (first | exact True.intro | (refine And.intro (by first | rfl | (subst_vars; rfl)) ?_; conv => whnf)), rfl, rfl, rfl, rfl, rfl, rfl, rfl, Nat.le_of_ble_eq_true rfl, Nat.le_of_ble_eq_true rfl⟩
            conv => whnf
            repeat (first | exact True.intro | (refine And.intro (by first | rfl | ((conv => whnf); exact congrArg (AVal.int .i64) (by omega)) | ((conv => whnf); exact congrArg (AVal.int .i64) (by simp only [Int.natCast_add, Int.natCast_one]; omega)) | ((conv => whnf); exact congrArg (AVal.irow _) (by first | omega | assumption | (simp only; omega)))) ?_; conv => whnf))
          rintro v v1
          have hcyp := hcyp v
          have cyb2 : (List.length (α := Int) (@List.getD (List Int) cy.1 (p : Int).toNat []) : Int) ≤ 63 := Int.ofNat_le.2 cyb
          have v2 : (v : Int) ≤ (List.length (α := Int) (@List.getD (List Int) cy.1 (p : Int).toNat []) : Int) := Int.ofNat_le.2 v1
          have k1 : (v : Int) < (List.length (α := Int) (@List.getD (List Int) cy.1 (p : Int).toNat []) : Int) → (0 ≤ (v : Int) ∧ (v : Int) < (List.length (α := Int) (@List.getD (List Int) cy.1 (p : Int).toNat []) : Int) ∧ (p : Int).toNat < List.length (α := List Int) cy.1) := fun h => ⟨by omega, h, by omega⟩
          have k2 : (v : Int) < (List.length (α := Int) (@List.getD (List Int) cy.1 (p : Int).toNat []) : Int) → (0 ≤ @List.getD Int (@List.getD (List Int) cy.1 (p : Int).toNat []) (v : Int).toNat 0 ∧ @List.getD Int (@List.getD (List Int) cy.1 (p : Int).toNat []) (v : Int).toNat 0 < (List.length (α := Int) im.1 : Int)) := fun h => (hcyp (Int.ofNat_lt.1 h)).1
          have k3 : (v : Int) < (List.length (α := Int) (@List.getD (List Int) cy.1 (p : Int).toNat []) : Int) → (@List.getD Int (@List.getD (List Int) cy.1 (p : Int).toNat []) (v : Int).toNat 0).toNat < List.length (α := Int) im.1 := fun h => by have := k2 h; omega
          have tm : (v : Int) < (List.length (α := Int) (@List.getD (List Int) cy.1 (p : Int).toNat []) : Int) → Int.tmod ((v : Int) + 1) (List.length (α := Int) (@List.getD (List Int) cy.1 (p : Int).toNat []) : Int) = (((v + 1) % List.length (α := Int) (@List.getD (List Int) cy.1 (p : Int).toNat []) : Nat) : Int) := fun h => by
            rw [Int.tmod_eq_emod_of_nonneg (by omega)]; rfl
          have k4 : (v : Int) < (List.length (α := Int) (@List.getD (List Int) cy.1 (p : Int).toNat []) : Int) → (0 ≤ Int.tmod ((v : Int) + 1) (List.length (α := Int) (@List.getD (List Int) cy.1 (p : Int).toNat []) : Int) ∧ Int.tmod ((v : Int) + 1) (List.length (α := Int) (@List.getD (List Int) cy.1 (p : Int).toNat []) : Int) < (List.length (α := Int) (@List.getD (List Int) cy.1 (p : Int).toNat []) : Int) ∧ (p : Int).toNat < List.length (α := List Int) cy.1) := fun h => by
            rw [tm h]
            have := Nat.mod_lt (v + 1) (show 0 < List.length (α := Int) (@List.getD (List Int) cy.1 (p : Int).toNat []) by omega)
            exact ⟨by omega, by omega, by omega⟩
          have k5 : (v : Int) < (List.length (α := Int) (@List.getD (List Int) cy.1 (p : Int).toNat []) : Int) → (List.length (α := Int) (@List.getD (List Int) cy.1 (p : Int).toNat []) : Int) ≠ 0 := fun h => by omega
          have k6 : (v : Int) < (List.length (α := Int) (@List.getD (List Int) cy.1 (p : Int).toNat []) : Int) → Rng .i64 (Int.tmod ((v : Int) + 1) (List.length (α := Int) (@List.getD (List Int) cy.1 (p : Int).toNat []) : Int)) := fun h => by
            have := k4 h; simp only [Rng]; omega
          have k7 : (v : Int) < (List.length (α := Int) (@List.getD (List Int) cy.1 (p : Int).toNat []) : Int) → Rng .i64 ((v : Int) + 1) := fun h => by simp only [Rng]; omega
          conv => whnf
          refine vcCode_sound T_ok GLfc _ _ _ _ _ ?_
          conv => whnf
          repeat (refine V_step T_ok GLfc rfl ?_; conv => whnf)
          repeat (any_goals (first
            | (refine V_step T_ok GLfc rfl ?_; conv => whnf)
            | (refine V_drawN T_ok GLfc mixed (by kernel_rfl) ?_; conv => whnf)
            | (refine bcond_split (fun hc => ?_) (fun hc => ?_) <;> (try simp only [decide_eq_true_eq, decide_eq_false_iff_not, Bool.not_eq_true', Bool.not_eq_false', Bool.and_eq_true, Bool.or_eq_true, Bool.and_eq_false_imp, Bool.or_eq_false_iff, ne_eq, Decidable.not_not] at hc) <;> conv => whnf)
            | (intro ysK hysK; have hysl := congrArg List.length hysK; (try simp only [List.length_set, List.length_append, List.length_cons, List.length_nil, List.length_take, List.length_drop, List.length_replicate] at hysl); conv => whnf)
            | (intro bK hbK; have hbl := congrArg ByteArray.size hbK; conv => whnf)
            | (intro sK hsK; conv => whnf)
            | (refine And.intro (by first | (first | exact True.intro | exact k1 (by assumption) | exact k2 (by assumption) | exact k3 (by assumption) | exact k4 (by assumption) | exact k5 (by assumption) | exact k6 (by assumption) | exact k7 (by assumption) | omega | (simp only [Rng]; omega)) | exact True.intro | exact ⟨rfl, True.intro, fun _ _ => rfl⟩ | exact Nat.le_of_ble_eq_true rfl | (refine ⟨by (try simp only [List.length_cons, List.length_nil]); omega, Int.le_trans (Int.mul_le_mul_of_nonneg_left (show (TInfo.bytes _ : Int) ≤ 64 from Int.ofNat_le.2 (Nat.le_of_ble_eq_true rfl)) (by omega)) (by (try simp only [List.length_cons, List.length_nil]); omega)⟩)) ?_; conv => whnf)))
          · rename_i hv
            have q := (hcyp (Int.ofNat_lt.1 hv)).2
            refine absurd ?_ hc
            rw [tm hv]
            exact q
          · rename_i hv
            refine ⟨v + 1, Int.ofNat_lt.1 hv, Nat.sub_lt_sub_left (Int.ofNat_lt.1 hv) (Nat.lt_succ_self v), ?_⟩
            clear hcyp k1 k2 k3 k4 k5 k6 tm
            conv => whnf
            refine ⟨?_, by (conv => whnf); repeat (first | exact True.intro | (refine And.intro rfl ?_; conv => whnf)), by (conv => whnf); repeat (first | exact True.intro | (refine And.intro (by first | rfl | (subst_vars; rfl)) ?_; conv => whnf)), rfl, rfl, rfl, rfl, rfl, rfl, rfl, Nat.le_of_ble_eq_true rfl, Nat.le_of_ble_eq_true rfl⟩
            conv => whnf
            repeat (first | exact True.intro | (refine And.intro (by first | rfl | ((conv => whnf); exact congrArg (AVal.int .i64) (by omega)) | ((conv => whnf); exact congrArg (AVal.int .i64) (by simp only [Int.natCast_add, Int.natCast_one]; omega)) | ((conv => whnf); exact congrArg (AVal.irow _) (by first | omega | assumption | (simp only; omega)))) ?_; conv => whnf))
          · refine ⟨p + 1, hpl, Nat.sub_lt_sub_left hpl (Nat.lt_succ_self p), ?_⟩
            clear hcyp k1 k2 k3 k4 k5 k6 tm
            conv => whnf
            refine ⟨?_, by (conv => whnf); repeat (first | exact True.intro | (refine And.intro rfl ?_; conv => whnf)), by (conv => whnf); repeat (first | exact True.intro | (refine And.intro (by first | rfl | (subst_vars; rfl)) ?_; conv => whnf)), rfl, rfl, rfl, rfl, rfl, rfl, rfl, Nat.le_of_ble_eq_true rfl, Nat.le_of_ble_eq_true rfl⟩
            conv => whnf
            repeat (first | exact True.intro | (refine And.intro (by first | rfl | ((conv => whnf); exact congrArg (AVal.int .i64) (by omega)) | ((conv => whnf); exact congrArg (AVal.int .i64) (by simp only [Int.natCast_add, Int.natCast_one]; omega)) | ((conv => whnf); exact congrArg (AVal.irow _) (by first | omega | assumption | (simp only; omega)))) ?_; conv => whnf))
        · exact leaf0 rfl rfl rfl
end Go.Proofs.Ytllagpbbbdekiac.Fw
