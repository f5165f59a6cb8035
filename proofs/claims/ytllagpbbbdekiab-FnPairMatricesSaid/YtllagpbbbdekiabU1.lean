/- Contracts: the source of drawn numbers. -/
import Derived.Test.YtllagpbbbdekiabHA
import Derived.Test.YtllagpbbbdekiabU0
namespace Go.Proofs.Ytllagpbbbdekiab.Fw
open Go Go.RowKit
set_option linter.unusedVariables false
set_option linter.unusedSimpArgs false
set_option maxRecDepth 100000
set_option maxHeartbeats 2000000
theorem and24 (x : Int) : 0 ≤ IntKind.u64.wrap ((BitVec.ofInt IntKind.u64.bits x &&& BitVec.ofInt IntKind.u64.bits 16777215).toNat : Int) ∧ IntKind.u64.wrap ((BitVec.ofInt IntKind.u64.bits x &&& BitVec.ofInt IntKind.u64.bits 16777215).toNat : Int) ≤ 16777215 := by
  have h1 : (BitVec.ofInt IntKind.u64.bits x &&& BitVec.ofInt IntKind.u64.bits 16777215).toNat ≤ 16777215 := by
    rw [BitVec.toNat_and]
    exact Nat.le_trans Nat.and_le_right (by decide)
  have h2 : ∀ m : Nat, m ≤ 16777215 → IntKind.u64.wrap (m : Int) = m := fun m hm => by
    show (m : Int) % 18446744073709551616 = m
    omega
  rw [h2 _ h1]
  omega
theorem and24R (x : Int) : Rng .i64 (IntKind.u64.wrap ((BitVec.ofInt IntKind.u64.bits x &&& BitVec.ofInt IntKind.u64.bits 16777215).toNat : Int)) := by
  have := and24 x
  simp only [Rng]; omega
def nxH (h : Int) : Int := (h * 6364136223846793005 % 18446744073709551616 + 1442695040888963407) % 18446744073709551616
def nxX (h : Int) : Int := IntKind.u64.wrap ((BitVec.ofInt IntKind.u64.bits ((nxH h).fdiv (2 ^ Int.toNat 33)) &&& BitVec.ofInt IntKind.u64.bits 16777215).toNat : Int)
def Bts (code : List Int) : Prop := ∀ x ∈ code, 0 ≤ x ∧ x ≤ 255
theorem Bts.at {code : List Int} (h : Bts code) (i : Nat) : 0 ≤ code.getD i 0 ∧ code.getD i 0 ≤ 255 := by
  rw [List.getD_eq_getElem?_getD]
  rcases Nat.lt_or_ge i code.length with h1 | h1
  · rw [List.getElem?_eq_getElem h1]; exact h _ (List.getElem_mem h1)
  · rw [List.getElem?_eq_none h1]; exact ⟨Int.le_refl _, by decide⟩
theorem nx_in {code : List Int} (hb : Bts code) {n : Int} (hn : ¬ n < 1) (a h : Int) : (0 ≤ (nxX h + code.getD a.toNat 0).tmod n ∧ (nxX h + code.getD a.toNat 0).tmod n < n) ∧ 0 ≤ (nxX h).tmod n ∧ (nxX h).tmod n < n := by
  have h1 : 0 ≤ nxX h := (and24 ((nxH h).fdiv (2 ^ Int.toNat 33))).1
  have h2 := hb.at a.toNat
  exact ⟨⟨Int.tmod_nonneg _ (by omega), Int.tmod_lt_of_pos _ (by omega)⟩, Int.tmod_nonneg _ h1, Int.tmod_lt_of_pos _ (by omega)⟩
def srcX (hg : Nat → Option (List AVal)) (rg : Nat → Option Row) (j : Nat) (X : Nat → Prop) : Prop := boxSrc (hg j) fun r a h => rowC bT (rg r) fun code => (0 ≤ a ∧ Bts code) ∧ X r
def nextC : XCtr := fun hg rg vals k => match vals with
  | [.loc j 0, .int .i64 n] => srcX hg rg j fun r => ∀ x : Int × Int × Int, ((0 ≤ x.1 ∧ (x.1 < n ∨ (n < 1 ∧ x.1 = 0))) ∧ 0 ≤ x.2.1) → k j [.row r, .int .i64 x.2.1, .int .u64 x.2.2] (.int .i64 x.1)
  | _ => False
theorem srcX_inv {hg : Nat → Option (List AVal)} {rg : Nat → Option Row} {j : Nat} {X : Nat → Prop} (h : srcX hg rg j X) : ∃ (r : Nat) (a n : Int) (e : TypeId) (own : Bool) (code : List Int), hg j = some [.row r, .int .i64 a, .int .u64 n] ∧ rg r = some ⟨bT, e, own, code⟩ ∧ (0 ≤ a ∧ Bts code) ∧ X r := by
  obtain ⟨r, a, n, hi, h⟩ := boxSrc_inv h
  obtain ⟨e, own, code, hr, h1, h2⟩ : ∃ e own, ∃ (xs : List Int), _ := rowC_inv h
  exact ⟨r, a, n, e, own, code, hi, hr, h1, h2⟩
theorem next_ok : XCtrOk Try.prog 38 nextC where
  enter := enter_ok Try.func38 (by kernel_rfl) rfl
  calls := by
    intro hg rg vals k h
    unfold nextC at h
    split at h
    case h_2 => exact h.elim
    rename_i j n
    obtain ⟨r, a, h0, e, own, code, hi, hr, ⟨ha, hb⟩, hk⟩ := srcX_inv h
    have hw : ∃ cs v, k j cs v := ⟨_, _, hk (0, a, 0) ⟨⟨Int.le_refl _, by show (0 : Int) < n ∨ (n < 1 ∧ (0 : Int) = 0); omega⟩, ha⟩⟩
    refine ⟨_, _, hw, hi, fun A w hX => ?_⟩
    refine enterX T_ok .nil Try.func38 rfl (w := w) (A := A.pick [j] [r]) (vals := [.loc 0 0, .int .i64 n]) (n0 := 1) (b0 := 1) (rows := [some ⟨bT, e, false, code⟩]) (hp := [some [.row 0, .int .i64 a, .int .u64 h0]]) rfl (Nat.le_of_ble_eq_true rfl) (hX.one hi hr rfl rfl) rfl one_ro rfl rfl (Nat.le_of_ble_eq_true rfl) ?_
    conv => whnf
    repeat (refine V_step T_ok .nil rfl ?_; conv => whnf)
    have hby := hb.at a.toNat
    have hbr : Rng .i64 (List.getD (α := Int) code a.toNat bT.dflt) := by
      have : bT.dflt = (0 : Int) := rfl
      simp only [Rng, this]; omega
    have hsm : Rng .i64 (nxX h0 + List.getD (α := Int) code a.toNat bT.dflt) := by
      have h1 : 0 ≤ nxX h0 ∧ nxX h0 ≤ 16777215 := and24 _
      have : bT.dflt = (0 : Int) := rfl
      simp only [Rng, this]; omega
    have hcap : (List.length (α := TyC.α bT) code : Int) ≤ 9223372036854775807 := by
      have h1 := (hX.row r _ hr).len
      have h2 := (hX.row r _ hr).cap
      have h3 := (hX.row r _ hr).max
      simp only at h1
      have : maxLen = 9223372036854775807 := rfl
      omega
    repeat (any_goals (first
      | (refine V_step T_ok .nil rfl ?_; conv => whnf)
      | (refine V_drawA T_ok .nil mixed (by kernel_rfl) ?_; conv => whnf)
      | (refine bcond_split (fun hc => ?_) (fun hc => ?_) <;> (try simp only [decide_eq_true_eq, decide_eq_false_iff_not, Bool.not_eq_true', Bool.not_eq_false', Bool.and_eq_true, Bool.or_eq_true, Bool.and_eq_false_imp, Bool.or_eq_false_iff, ne_eq, Decidable.not_not] at hc) <;> conv => whnf)
      | (intro ysK hysK; have hysl := congrArg List.length hysK; (try simp only [List.length_set, List.length_append, List.length_cons, List.length_nil, List.length_take, List.length_drop, List.length_replicate] at hysl); conv => whnf)
      | (intro bK hbK; have hbl := congrArg ByteArray.size hbK; conv => whnf)
      | (intro sK hsK; conv => whnf)
      | (refine And.intro (by first | (first | exact True.intro | exact and24R _ | exact hbr | exact hsm | omega | (simp only [Rng]; omega)) | exact True.intro | exact ⟨rfl, True.intro, fun _ _ => rfl⟩ | exact Nat.le_of_ble_eq_true rfl | (refine ⟨by (try simp only [List.length_cons, List.length_nil]); omega, Int.le_trans (Int.mul_le_mul_of_nonneg_left (show (TInfo.bytes _ : Int) ≤ 64 from Int.ofNat_le.2 (Nat.le_of_ble_eq_true rfl)) (by omega)) (by (try simp only [List.length_cons, List.length_nil]); omega)⟩)) ?_; conv => whnf)))
    · exact leafXr (hk (0, a, h0) ⟨⟨Int.le_refl _, .inr ⟨hc, rfl⟩⟩, ha⟩) (leafX rfl (Nat.le_refl _) rfl rfl (fun B h => by simp only [dens, AVal.den, h 0 (Nat.le_refl _), nthN]) rfl rfl)
    · rename_i h1
      have h2 := nx_in hb h1 a h0
      exact leafXr (hk (_, a + 1, nxH h0) ⟨⟨h2.1.1, .inl h2.1.2⟩, by show 0 ≤ a + 1; omega⟩) (leafX rfl (Nat.le_refl _) rfl rfl (fun B h => by simp only [dens, AVal.den, h 0 (Nat.le_refl _), nthN]; rfl) rfl rfl)
    · rename_i h1
      have h2 := nx_in hb h1 a h0
      exact leafXr (hk (_, a, nxH h0) ⟨⟨h2.2.1, .inl h2.2.2⟩, ha⟩) (leafX rfl (Nat.le_refl _) rfl rfl (fun B h => by simp only [dens, AVal.den, h 0 (Nat.le_refl _), nthN]; rfl) rfl rfl)
def pickC : XCtr := fun hg rg vals k => match vals with
  | [.loc j 0, .row i] => srcX hg rg j fun r => rowC iT (rg i) fun xs => (List.length (α := Int) xs ≠ 0 ∧ List.length (α := Int) xs ≤ 1000) ∧ ∀ x : Int × Int × Int, (x.1 ∈ (xs : List Int) ∧ 0 ≤ x.2.1) → k j [.row r, .int .i64 x.2.1, .int .u64 x.2.2] (.int .i64 x.1)
  | _ => False
theorem pick_ok : XCtrOk Try.prog 37 pickC where
  enter := enter_ok Try.func37 (by kernel_rfl) rfl
  calls := by
    intro hg rg vals k h
    unfold pickC at h
    split at h
    case h_2 => exact h.elim
    rename_i j i
    obtain ⟨r, a, h0, e, own, code, hi, hr, ⟨ha, hb⟩, h⟩ := srcX_inv h
    obtain ⟨e2, own2, xs, hl, h⟩ : ∃ e own, ∃ (xs : List Int), _ := rowC_inv h
    obtain ⟨⟨hne, hlen⟩, hk⟩ := h
    have hw : ∃ cs v, k j cs v := ⟨_, _, hk (List.getD (α := Int) xs 0 0, a, 0) ⟨getD_mem (Nat.pos_of_ne_zero hne), ha⟩⟩
    refine ⟨_, _, hw, hi, fun A w hX => ?_⟩
    refine enterX T_ok (GOk.xcons next_ok .nil) Try.func37 rfl (w := w) (A := A.pick [j] [r, i]) (vals := [.loc 0 0, .row 1]) (n0 := 2) (b0 := 1) (rows := [some ⟨bT, e, false, code⟩, some ⟨iT, e2, false, xs⟩]) (hp := [some [.row 0, .int .i64 a, .int .u64 h0]]) rfl (Nat.le_of_ble_eq_true rfl) (hX.two hi hr hl rfl rfl) rfl two_ro rfl rfl (Nat.le_of_ble_eq_true rfl) ?_
    conv => whnf
    repeat (refine V_step T_ok (GOk.xcons next_ok .nil) rfl ?_; conv => whnf)
    have hne : List.length (α := TyC.α iT) xs ≠ 0 := hne
    repeat (any_goals (first
      | (refine V_step T_ok (GOk.xcons next_ok .nil) rfl ?_; conv => whnf)
      | (refine V_drawA T_ok (GOk.xcons next_ok .nil) mixed (by kernel_rfl) ?_; conv => whnf)
      | (refine bcond_split (fun hc => ?_) (fun hc => ?_) <;> (try simp only [decide_eq_true_eq, decide_eq_false_iff_not, Bool.not_eq_true', Bool.not_eq_false', Bool.and_eq_true, Bool.or_eq_true, Bool.and_eq_false_imp, Bool.or_eq_false_iff, ne_eq, Decidable.not_not] at hc) <;> conv => whnf)
      | (intro ysK hysK; have hysl := congrArg List.length hysK; (try simp only [List.length_set, List.length_append, List.length_cons, List.length_nil, List.length_take, List.length_drop, List.length_replicate] at hysl); conv => whnf)
      | (intro bK hbK; have hbl := congrArg ByteArray.size hbK; conv => whnf)
      | (intro sK hsK; conv => whnf)
      | (refine And.intro (by first | (first | exact True.intro | exact ⟨ha, hb⟩ | omega | (simp only [Rng]; omega)) | exact True.intro | exact ⟨rfl, True.intro, fun _ _ => rfl⟩ | exact Nat.le_of_ble_eq_true rfl | (refine ⟨by (try simp only [List.length_cons, List.length_nil]); omega, Int.le_trans (Int.mul_le_mul_of_nonneg_left (show (TInfo.bytes _ : Int) ≤ 64 from Int.ofNat_le.2 (Nat.le_of_ble_eq_true rfl)) (by omega)) (by (try simp only [List.length_cons, List.length_nil]); omega)⟩)) ?_; conv => whnf)))
    have hlt : sK.1.toNat < List.length (α := TyC.α iT) xs := by omega
    have hlt : sK.1.toNat < List.length (α := Int) xs := hlt
    exact leafXr (hk (List.getD (α := Int) xs sK.1.toNat 0, sK.2.1, sK.2.2) ⟨getD_mem hlt, hsK.2⟩) (leafX rfl (Nat.le_refl _) rfl rfl (fun B h => by simp only [dens, AVal.den, h 0 (Nat.le_succ _), nthN]) rfl rfl)
def nearC : XCtr := fun hg rg vals k => match vals with
  | [.loc j 0, .int .i64 n] => srcX hg rg j fun r => (0 ≤ n ∧ n ≤ 4611686018427387904) ∧ ∀ x : Int × Int × Int, ((-4611686018427387904 ≤ x.1 ∧ x.1 ≤ 4611686018427387905) ∧ 0 ≤ x.2.1) → k j [.row r, .int .i64 x.2.1, .int .u64 x.2.2] (.int .i64 x.1)
  | _ => False
abbrev GNp := (GOk.xcons next_ok (GOk.xcons pick_ok .nil))
theorem near_ok : XCtrOk Try.prog 39 nearC where
  enter := enter_ok Try.func39 (by kernel_rfl) rfl
  calls := by
    intro hg rg vals k h
    unfold nearC at h
    split at h
    case h_2 => exact h.elim
    rename_i j n
    obtain ⟨r, a, h0, e, own, code, hi, hr, ⟨ha, hb⟩, hn, hk⟩ := srcX_inv h
    have hw : ∃ cs v, k j cs v := ⟨_, _, hk (0, a, 0) ⟨⟨by show (-4611686018427387904 : Int) ≤ 0; decide, by show (0 : Int) ≤ 4611686018427387905; decide⟩, ha⟩⟩
    refine ⟨_, _, hw, hi, fun A w hX => ?_⟩
    refine enterX T_ok GNp Try.func39 rfl (w := w) (A := A.pick [j] [r]) (vals := [.loc 0 0, .int .i64 n]) (n0 := 1) (b0 := 1) (rows := [some ⟨bT, e, false, code⟩]) (hp := [some [.row 0, .int .i64 a, .int .u64 h0]]) rfl (Nat.le_of_ble_eq_true rfl) (hX.one hi hr rfl rfl) rfl one_ro rfl rfl (Nat.le_of_ble_eq_true rfl) ?_
    conv => whnf
    repeat (refine V_step T_ok GNp rfl ?_; conv => whnf)
    repeat (any_goals (first
      | (refine V_step T_ok GNp rfl ?_; conv => whnf)
      | (refine V_drawA T_ok GNp mixed (by kernel_rfl) ?_; conv => whnf)
      | (refine bcond_split (fun hc => ?_) (fun hc => ?_) <;> (try simp only [decide_eq_true_eq, decide_eq_false_iff_not, Bool.not_eq_true', Bool.not_eq_false', Bool.and_eq_true, Bool.or_eq_true, Bool.and_eq_false_imp, Bool.or_eq_false_iff, ne_eq, Decidable.not_not] at hc) <;> conv => whnf)
      | (intro ysK hysK; have hysl := congrArg List.length hysK; (try simp only [List.length_set, List.length_append, List.length_cons, List.length_nil, List.length_take, List.length_drop, List.length_replicate] at hysl); conv => whnf)
      | (intro bK hbK; have hbl := congrArg ByteArray.size hbK; conv => whnf)
      | (intro sK hsK; conv => whnf)
      | (refine And.intro (by first | (first | exact True.intro | exact ⟨ha, hb⟩ | exact ⟨by omega, hb⟩ | omega | (simp only [List.length_cons, List.length_nil]; omega) | (simp only [Rng]; omega)) | exact True.intro | exact ⟨rfl, True.intro, fun _ _ => rfl⟩ | exact Nat.le_of_ble_eq_true rfl | (refine ⟨by (try simp only [List.length_cons, List.length_nil]); omega, Int.le_trans (Int.mul_le_mul_of_nonneg_left (show (TInfo.bytes _ : Int) ≤ 64 from Int.ofNat_le.2 (Nat.le_of_ble_eq_true rfl)) (by omega)) (by (try simp only [List.length_cons, List.length_nil]); omega)⟩)) ?_; conv => whnf)))
    · have hm : -4611686018427387904 ≤ sK.1 ∧ sK.1 ≤ 4611686018427387905 := by
        have h1 := hsK.1
        simp only [List.mem_cons, List.not_mem_nil, or_false] at h1
        omega
      exact leafXr (hk (_, _, _) ⟨hm, hsK.2⟩) (leafX rfl (Nat.le_refl _) rfl rfl (fun B h => by simp only [dens, AVal.den, h 0 (Nat.le_refl _), nthN]) rfl rfl)
    · exact leafXr (hk (_, _, _) ⟨by omega, hsK.2⟩) (leafX rfl (Nat.le_refl _) rfl rfl (fun B h => by simp only [dens, AVal.den, h 0 (Nat.le_refl _), nthN]) rfl rfl)
def SmA (x : Ang) : Prop := (0 ≤ x.1 ∧ x.1 ≤ 100000) ∧ 1 ≤ x.2 ∧ x.2 ≤ 100000
theorem SmA.of {n d : Int} (h1 : 1 ≤ d) (h2 : d ≤ 100000) : SmA (ofQ n d) := by
  have := ofQ_bd n d h1
  unfold SmA; omega
def drawC : XCtr := fun hg rg vals k => match vals with
  | [.loc j 0] => srcX hg rg j fun r => True ∧ ∀ x : Ang × Int × Int, (SmA x.1 ∧ 0 ≤ x.2.1) → k j [.row r, .int .i64 x.2.1, .int .u64 x.2.2] (.agg [.int .i64 x.1.1, .int .i64 x.1.2])
  | _ => False
theorem mem_bd {z : Int} {xs : List Int} {lo hi : Int} (h : z ∈ xs) (hb : ∀ y ∈ xs, lo ≤ y ∧ y ≤ hi := by decide) : lo ≤ z ∧ z ≤ hi := hb z h
abbrev GDr := (GOk.xcons next_ok (GOk.xcons pick_ok (GOk.cons sOf_ok .nil)))
theorem draw_ok : XCtrOk Try.prog 76 drawC where
  enter := enter_ok Try.func76 (by kernel_rfl) rfl
  calls := by
    intro hg rg vals k h
    unfold drawC at h
    split at h
    case h_2 => exact h.elim
    rename_i j
    obtain ⟨r, a, h0, e, own, code, hi, hr, ⟨ha, hb⟩, _, hk⟩ := srcX_inv h
    have hw : ∃ cs v, k j cs v := ⟨_, _, hk ((0, 1), a, 0) ⟨by unfold SmA; simp only; omega, ha⟩⟩
    refine ⟨_, _, hw, hi, fun A w hX => ?_⟩
    refine enterX T_ok GDr Try.func76 rfl (w := w) (A := A.pick [j] [r]) (vals := [.loc 0 0]) (n0 := 1) (b0 := 1) (rows := [some ⟨bT, e, false, code⟩]) (hp := [some [.row 0, .int .i64 a, .int .u64 h0]]) rfl (Nat.le_of_ble_eq_true rfl) (hX.one hi hr rfl rfl) rfl one_ro rfl rfl (Nat.le_of_ble_eq_true rfl) ?_
    conv => whnf
    repeat (refine V_step T_ok GDr rfl ?_; conv => whnf)
    repeat (any_goals (first
      | (refine V_step T_ok GDr rfl ?_; conv => whnf)
      | (refine V_drawA T_ok GDr mixed (by kernel_rfl) ?_; conv => whnf)
      | (refine bcond_split (fun hc => ?_) (fun hc => ?_) <;> (try simp only [decide_eq_true_eq, decide_eq_false_iff_not, Bool.not_eq_true', Bool.not_eq_false', Bool.and_eq_true, Bool.or_eq_true, Bool.and_eq_false_imp, Bool.or_eq_false_iff, ne_eq, Decidable.not_not] at hc) <;> conv => whnf)
      | (intro ysK hysK; have hysl := congrArg List.length hysK; (try simp only [List.length_set, List.length_append, List.length_cons, List.length_nil, List.length_take, List.length_drop, List.length_replicate] at hysl); conv => whnf)
      | (intro bK hbK; have hbl := congrArg ByteArray.size hbK; conv => whnf)
      | (intro sK hsK; conv => whnf)
      | (refine And.intro (by first | (first | exact True.intro | exact ⟨ha, hb⟩ | exact ⟨hsK.2, hb⟩ | (simp only [List.length_cons, List.length_nil]; omega)) | exact True.intro | exact ⟨rfl, True.intro, fun _ _ => rfl⟩ | exact Nat.le_of_ble_eq_true rfl | (refine ⟨by (try simp only [List.length_cons, List.length_nil]); omega, Int.le_trans (Int.mul_le_mul_of_nonneg_left (show (TInfo.bytes _ : Int) ≤ 64 from Int.ofNat_le.2 (Nat.le_of_ble_eq_true rfl)) (by omega)) (by (try simp only [List.length_cons, List.length_nil]); omega)⟩)) ?_; conv => whnf)))
    · rename_i d1 hd1 _ _
      have b1 := mem_bd (lo := 1) (hi := 63) hd1.1
      have b2 := mem_bd (lo := 2) (hi := 8) hsK.1
      have b3 : 1 ≤ d1.1 * sK.1 := Int.mul_pos (by omega) (by omega)
      have b4 : d1.1 * sK.1 ≤ 63 * 8 := Int.mul_le_mul b1.2 b2.2 (by omega) (by omega)
      have hr1 : Rng .i64 (d1.1 * sK.1) := by simp only [Rng]; omega
      repeat (any_goals (first
        | (refine V_step T_ok GDr rfl ?_; conv => whnf)
        | (refine V_drawA T_ok GDr mixed (by kernel_rfl) ?_; conv => whnf)
        | (refine bcond_split (fun hc => ?_) (fun hc => ?_) <;> (try simp only [decide_eq_true_eq, decide_eq_false_iff_not, Bool.not_eq_true', Bool.not_eq_false', Bool.and_eq_true, Bool.or_eq_true, Bool.and_eq_false_imp, Bool.or_eq_false_iff, ne_eq, Decidable.not_not] at hc) <;> conv => whnf)
        | (intro ysK hysK; have hysl := congrArg List.length hysK; (try simp only [List.length_set, List.length_append, List.length_cons, List.length_nil, List.length_take, List.length_drop, List.length_replicate] at hysl); conv => whnf)
        | (intro bK hbK; have hbl := congrArg ByteArray.size hbK; conv => whnf)
        | (intro sK hsK; conv => whnf)
        | (refine And.intro (by first | (first | exact True.intro | exact ⟨ha, hb⟩ | exact ⟨hsK.2, hb⟩ | with_reducible exact hr1 | (simp only [List.length_cons, List.length_nil]; omega) | omega) | exact True.intro | exact ⟨rfl, True.intro, fun _ _ => rfl⟩ | exact Nat.le_of_ble_eq_true rfl | (refine ⟨by (try simp only [List.length_cons, List.length_nil]); omega, Int.le_trans (Int.mul_le_mul_of_nonneg_left (show (TInfo.bytes _ : Int) ≤ 64 from Int.ofNat_le.2 (Nat.le_of_ble_eq_true rfl)) (by omega)) (by (try simp only [List.length_cons, List.length_nil]); omega)⟩)) ?_; conv => whnf)))
      exact leafXr (hk (_, _, _) ⟨SmA.of (by omega) (by omega), hsK.2⟩) (leafX rfl (Nat.le_refl _) rfl rfl (fun B h => by simp only [dens, AVal.den, h 0 (Nat.le_refl _), nthN]) rfl rfl)
    · rename_i d1 hd1 _
      have b1 := mem_bd (lo := 1) (hi := 63) hd1.1
      have hr1 : Rng .i64 (d1.1 * 2) := by simp only [Rng]; omega
      repeat (any_goals (first
        | (refine V_step T_ok GDr rfl ?_; conv => whnf)
        | (refine V_drawA T_ok GDr mixed (by kernel_rfl) ?_; conv => whnf)
        | (refine bcond_split (fun hc => ?_) (fun hc => ?_) <;> (try simp only [decide_eq_true_eq, decide_eq_false_iff_not, Bool.not_eq_true', Bool.not_eq_false', Bool.and_eq_true, Bool.or_eq_true, Bool.and_eq_false_imp, Bool.or_eq_false_iff, ne_eq, Decidable.not_not] at hc) <;> conv => whnf)
        | (intro ysK hysK; have hysl := congrArg List.length hysK; (try simp only [List.length_set, List.length_append, List.length_cons, List.length_nil, List.length_take, List.length_drop, List.length_replicate] at hysl); conv => whnf)
        | (intro bK hbK; have hbl := congrArg ByteArray.size hbK; conv => whnf)
        | (intro sK hsK; conv => whnf)
        | (refine And.intro (by first | (first | exact True.intro | exact ⟨ha, hb⟩ | exact ⟨hsK.2, hb⟩ | with_reducible exact hr1 | (simp only [List.length_cons, List.length_nil]; omega) | omega) | exact True.intro | exact ⟨rfl, True.intro, fun _ _ => rfl⟩ | exact Nat.le_of_ble_eq_true rfl | (refine ⟨by (try simp only [List.length_cons, List.length_nil]); omega, Int.le_trans (Int.mul_le_mul_of_nonneg_left (show (TInfo.bytes _ : Int) ≤ 64 from Int.ofNat_le.2 (Nat.le_of_ble_eq_true rfl)) (by omega)) (by (try simp only [List.length_cons, List.length_nil]); omega)⟩)) ?_; conv => whnf)))
      exact leafXr (hk (_, _, _) ⟨SmA.of (by omega) (by omega), hsK.2⟩) (leafX rfl (Nat.le_refl _) rfl rfl (fun B h => by simp only [dens, AVal.den, h 0 (Nat.le_refl _), nthN]) rfl rfl)
    · rename_i d1 hd1 _ _ _
      have b1 := mem_bd (lo := 1) (hi := 63) hd1.1
      have hr1 := b1
      repeat (any_goals (first
        | (refine V_step T_ok GDr rfl ?_; conv => whnf)
        | (refine V_drawA T_ok GDr mixed (by kernel_rfl) ?_; conv => whnf)
        | (refine bcond_split (fun hc => ?_) (fun hc => ?_) <;> (try simp only [decide_eq_true_eq, decide_eq_false_iff_not, Bool.not_eq_true', Bool.not_eq_false', Bool.and_eq_true, Bool.or_eq_true, Bool.and_eq_false_imp, Bool.or_eq_false_iff, ne_eq, Decidable.not_not] at hc) <;> conv => whnf)
        | (intro ysK hysK; have hysl := congrArg List.length hysK; (try simp only [List.length_set, List.length_append, List.length_cons, List.length_nil, List.length_take, List.length_drop, List.length_replicate] at hysl); conv => whnf)
        | (intro bK hbK; have hbl := congrArg ByteArray.size hbK; conv => whnf)
        | (intro sK hsK; conv => whnf)
        | (refine And.intro (by first | (first | exact True.intro | exact ⟨ha, hb⟩ | exact ⟨hsK.2, hb⟩ | with_reducible exact hr1 | (simp only [List.length_cons, List.length_nil]; omega) | omega) | exact True.intro | exact ⟨rfl, True.intro, fun _ _ => rfl⟩ | exact Nat.le_of_ble_eq_true rfl | (refine ⟨by (try simp only [List.length_cons, List.length_nil]); omega, Int.le_trans (Int.mul_le_mul_of_nonneg_left (show (TInfo.bytes _ : Int) ≤ 64 from Int.ofNat_le.2 (Nat.le_of_ble_eq_true rfl)) (by omega)) (by (try simp only [List.length_cons, List.length_nil]); omega)⟩)) ?_; conv => whnf)))
      exact leafXr (hk (_, _, _) ⟨SmA.of (by omega) (by omega), hsK.2⟩) (leafX rfl (Nat.le_refl _) rfl rfl (fun B h => by simp only [dens, AVal.den, h 0 (Nat.le_refl _), nthN]) rfl rfl)
def badC : XCtr := fun hg rg vals k => match vals with
  | [.loc j 0, .agg [.int .i64 n, .int .i64 d]] => srcX hg rg j fun r => SmA (n, d) ∧ ∀ x : Ang × Int × Int, 0 ≤ x.2.1 → k j [.row r, .int .i64 x.2.1, .int .u64 x.2.2] (.agg [.int .i64 x.1.1, .int .i64 x.1.2])
  | _ => False
theorem bad_ok : XCtrOk Try.prog 75 badC where
  enter := enter_ok Try.func75 (by kernel_rfl) rfl
  calls := by
    intro hg rg vals k h
    unfold badC at h
    split at h
    case h_2 => exact h.elim
    rename_i j n d
    obtain ⟨r, a, h0, e, own, code, hi, hr, ⟨ha, hb⟩, hs, hk⟩ := srcX_inv h
    have hw : ∃ cs v, k j cs v := ⟨_, _, hk ((0, 1), a, 0) ha⟩
    refine ⟨_, _, hw, hi, fun A w hX => ?_⟩
    refine enterX T_ok GNp Try.func75 rfl (w := w) (A := A.pick [j] [r]) (vals := [.loc 0 0, .agg [.int .i64 n, .int .i64 d]]) (n0 := 1) (b0 := 1) (rows := [some ⟨bT, e, false, code⟩]) (hp := [some [.row 0, .int .i64 a, .int .u64 h0]]) rfl (Nat.le_of_ble_eq_true rfl) (hX.one hi hr rfl rfl) rfl one_ro rfl rfl (Nat.le_of_ble_eq_true rfl) ?_
    conv => whnf
    repeat (refine V_step T_ok GNp rfl ?_; conv => whnf)
    unfold SmA at hs
    simp only at hs
    repeat (any_goals (first
      | (refine V_step T_ok GNp rfl ?_; conv => whnf)
      | (refine V_drawA T_ok GNp mixed (by kernel_rfl) ?_; conv => whnf)
      | (refine bcond_split (fun hc => ?_) (fun hc => ?_) <;> (try simp only [decide_eq_true_eq, decide_eq_false_iff_not, Bool.not_eq_true', Bool.not_eq_false', Bool.and_eq_true, Bool.or_eq_true, Bool.and_eq_false_imp, Bool.or_eq_false_iff, ne_eq, Decidable.not_not] at hc) <;> conv => whnf)
      | (intro ysK hysK; have hysl := congrArg List.length hysK; (try simp only [List.length_set, List.length_append, List.length_cons, List.length_nil, List.length_take, List.length_drop, List.length_replicate] at hysl); conv => whnf)
      | (intro bK hbK; have hbl := congrArg ByteArray.size hbK; conv => whnf)
      | (intro sK hsK; conv => whnf)
      | (refine And.intro (by first | (first | exact True.intro | exact ⟨ha, hb⟩ | exact ⟨hsK.2, hb⟩ | omega | (simp only [List.length_cons, List.length_nil]; omega) | (simp only [Rng]; omega)) | exact True.intro | exact ⟨rfl, True.intro, fun _ _ => rfl⟩ | exact Nat.le_of_ble_eq_true rfl | (refine ⟨by (try simp only [List.length_cons, List.length_nil]); omega, Int.le_trans (Int.mul_le_mul_of_nonneg_left (show (TInfo.bytes _ : Int) ≤ 64 from Int.ofNat_le.2 (Nat.le_of_ble_eq_true rfl)) (by omega)) (by (try simp only [List.length_cons, List.length_nil]); omega)⟩)) ?_; conv => whnf)))
    all_goals first | exact leafXr (hk ((_, _), _, _) hsK.2) (leafX rfl (Nat.le_refl _) rfl rfl (fun B h => by simp only [dens, AVal.den, h 0 (Nat.le_refl _), nthN]) rfl rfl) | exact leafXr (hk ((_, _), _, _) hsK) (leafX rfl (Nat.le_refl _) rfl rfl (fun B h => by simp only [dens, AVal.den, h 0 (Nat.le_refl _), nthN]) rfl rfl)
def spoilC : XCtr := fun hg rg vals k => match vals with
  | [.loc j 0] => srcX hg rg j fun r => True ∧ ∀ x : Ang × Int × Int, 0 ≤ x.2.1 → k j [.row r, .int .i64 x.2.1, .int .u64 x.2.2] (.agg [.int .i64 x.1.1, .int .i64 x.1.2])
  | _ => False
abbrev GSp := (GOk.xcons draw_ok (GOk.xcons bad_ok .nil))
theorem spoil_ok : XCtrOk Try.prog 54 spoilC where
  enter := enter_ok Try.func54 (by kernel_rfl) rfl
  calls := by
    intro hg rg vals k h
    unfold spoilC at h
    split at h
    case h_2 => exact h.elim
    rename_i j
    obtain ⟨r, a, h0, e, own, code, hi, hr, ⟨ha, hb⟩, _, hk⟩ := srcX_inv h
    have hw : ∃ cs v, k j cs v := ⟨_, _, hk ((0, 1), a, 0) ha⟩
    refine ⟨_, _, hw, hi, fun A w hX => ?_⟩
    refine enterX T_ok GSp Try.func54 rfl (w := w) (A := A.pick [j] [r]) (vals := [.loc 0 0]) (n0 := 1) (b0 := 1) (rows := [some ⟨bT, e, false, code⟩]) (hp := [some [.row 0, .int .i64 a, .int .u64 h0]]) rfl (Nat.le_of_ble_eq_true rfl) (hX.one hi hr rfl rfl) rfl one_ro rfl rfl (Nat.le_of_ble_eq_true rfl) ?_
    conv => whnf
    repeat (refine V_step T_ok GSp rfl ?_; conv => whnf)
    repeat (any_goals (first
      | (refine V_step T_ok GSp rfl ?_; conv => whnf)
      | (refine V_drawA T_ok GSp mixed (by kernel_rfl) ?_; conv => whnf)
      | (refine bcond_split (fun hc => ?_) (fun hc => ?_) <;> (try simp only [decide_eq_true_eq, decide_eq_false_iff_not, Bool.not_eq_true', Bool.not_eq_false', Bool.and_eq_true, Bool.or_eq_true, Bool.and_eq_false_imp, Bool.or_eq_false_iff, ne_eq, Decidable.not_not] at hc) <;> conv => whnf)
      | (intro ysK hysK; have hysl := congrArg List.length hysK; (try simp only [List.length_set, List.length_append, List.length_cons, List.length_nil, List.length_take, List.length_drop, List.length_replicate] at hysl); conv => whnf)
      | (intro bK hbK; have hbl := congrArg ByteArray.size hbK; conv => whnf)
      | (intro sK hsK; conv => whnf)
      | (refine And.intro (by first | (first | exact True.intro | exact ⟨ha, hb⟩ | exact ⟨hsK.2, hb⟩ | exact hsK.1) | exact True.intro | exact ⟨rfl, True.intro, fun _ _ => rfl⟩ | exact Nat.le_of_ble_eq_true rfl | (refine ⟨by (try simp only [List.length_cons, List.length_nil]); omega, Int.le_trans (Int.mul_le_mul_of_nonneg_left (show (TInfo.bytes _ : Int) ≤ 64 from Int.ofNat_le.2 (Nat.le_of_ble_eq_true rfl)) (by omega)) (by (try simp only [List.length_cons, List.length_nil]); omega)⟩)) ?_; conv => whnf)))
    all_goals first | exact leafXr (hk ((_, _), _, _) hsK.2) (leafX rfl (Nat.le_refl _) rfl rfl (fun B h => by simp only [dens, AVal.den, h 0 (Nat.le_refl _), nthN]) rfl rfl) | exact leafXr (hk ((_, _), _, _) hsK) (leafX rfl (Nat.le_refl _) rfl rfl (fun B h => by simp only [dens, AVal.den, h 0 (Nat.le_refl _), nthN]) rfl rfl)
end Go.Proofs.Ytllagpbbbdekiab.Fw
