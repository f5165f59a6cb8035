/- That the machine does what the symbolic side says. -/
import Derived.Test.YtlplngafncobkaaFwE
import Derived.Laws.StructEq
import Derived.Laws.Cells
import Derived.Laws.Entries
namespace Go.Proofs.Ytlplngafncobkaa.Fw
open Go Go.RowKit
set_option linter.unusedVariables false
set_option linter.unusedSimpArgs false

section
variable {P : Program} {t : TypeId} {i : TInfo}

theorem run_und (h : TInfoOk P t i) (w : World) : (underlying t).run P w = .ok i.desc w := run_underlying h.und w
theorem info_of (h : TInfoOk P t i) : ∃ inf z, P.info? t = some inf ∧ inf.size = i.size ∧ inf.bytes = i.bytes ∧ inf.zero = some z ∧ z.cells = (dens A0 i.zero).toArray := by
  obtain ⟨z, h1, h2, _⟩ := h.info
  cases hi : P.info? t with
  | none => simp [hi] at h1
  | some inf =>
    simp [hi] at h1
    exact ⟨inf, z, rfl, h1.1, h1.2.1, h1.2.2, h2⟩
theorem run_size (h : TInfoOk P t i) (w : World) : (sizeOf t).run P w = .ok i.size w := by
  obtain ⟨inf, z, h1, h2, _⟩ := info_of h
  simp [sizeOf, typeInfo, h1, h2]
theorem run_agg (h : TInfoOk P t i) (w : World) : (isAgg t).run P w = .ok i.agg w := by
  unfold isAgg
  simp only [Sem.run_bind, run_und h, Result.andThen_ok]
  rw [h.agg]
  cases i.desc <;> rfl
theorem run_zero (h : TInfoOk P t i) (w : World) : ∃ z, (zeroValue t).run P w = .ok z w ∧ z.cells = (dens A0 i.zero).toArray := by
  obtain ⟨inf, z, h1, h2, h3, h4, h5⟩ := info_of h
  exact ⟨z, by simp [zeroValue, typeInfo, h1, h4], h5⟩

theorem sub_eq : ∀ (l : List AVal) (o n : Nat) (k : List AVal → Prop), sub l o n k → o + n ≤ l.length ∧ k ((l.drop o).take n)
  | l, 0, 0, k, h => by cases l <;> simpa [sub] using h
  | [], 0, n + 1, k, h => by simp [sub] at h
  | [], o + 1, n, k, h => by simp [sub] at h
  | x :: l, o + 1, n, k, h => by
    simp only [sub] at h
    obtain ⟨h1, h2⟩ := sub_eq l o n k h
    exact ⟨by simp; omega, by simpa using h2⟩
  | x :: l, 0, n + 1, k, h => by
    simp only [sub] at h
    obtain ⟨h1, h2⟩ := sub_eq l 0 n _ h
    exact ⟨by simp; omega, by simpa using h2⟩

theorem part_sound (h : TInfoOk P t i) {cs : List AVal} {off : Nat} {k : AVal → Prop} (hp : partA i.agg i.size cs off k) :
    ∃ v, k v ∧ ∀ A w, (part t (dens A cs).toArray off).run P w = .ok (v.den A) w := by
  unfold partA at hp
  cases ha : i.agg
  · simp only [ha] at hp
    rw [nth_eq] at hp
    cases hc : cs[off]? with
    | none => simp [hc] at hp
    | some v =>
      simp only [hc] at hp
      refine ⟨v, hp, fun A w => ?_⟩
      unfold part
      simp only [Sem.run_bind, run_agg h, Result.andThen_ok, ha]
      simp [dens_eq, hc]
  · simp only [ha] at hp
    obtain ⟨h1, h2⟩ := sub_eq _ _ _ _ hp
    refine ⟨_, h2, fun A w => ?_⟩
    unfold part
    simp only [Sem.run_bind, run_agg h, Result.andThen_ok, ha]
    simp [run_size h, AVal.den, dens_eq, List.extract_eq_take_drop, List.map_drop, List.map_take]

theorem loadVar_sound (h : TInfoOk P t i) {cs : List AVal} {off : Nat} {k : AVal → Prop} (hp : partA i.agg i.size cs off k) :
    ∃ v, k v ∧ ∀ (A : Asg) (w : World) (a : Addr), (∀ (j : Nat) (c : AVal), cs[j]? = some c → w.cell? (a.add j) = some (c.den A)) → (loadVar t (a.add off)).run P w = .ok (v.den A) w := by
  have add_add : ∀ (a : Addr) (m n : Nat), (a.add m).add n = a.add (m + n) := fun a m n => by
    unfold Addr.add
    by_cases h1 : m = 0 <;> by_cases h2 : n = 0 <;> simp [h1, h2] <;> omega
  unfold partA at hp
  cases ha : i.agg
  · simp only [ha] at hp
    rw [nth_eq] at hp
    cases hc : cs[off]? with
    | none => simp [hc] at hp
    | some v =>
      simp only [hc] at hp
      refine ⟨v, hp, fun A w a hcell => ?_⟩
      unfold loadVar
      simp only [Sem.run_bind, run_agg h, Result.andThen_ok, ha]
      simp [hcell off v hc]
  · simp only [ha] at hp
    obtain ⟨h1, h2⟩ := sub_eq _ _ _ _ hp
    refine ⟨_, h2, fun A w a hcell => ?_⟩
    unfold loadVar
    simp only [Sem.run_bind, run_agg h, Result.andThen_ok, ha]
    have hl := run_loadCells_list (P := P) (w := w) (a.add off) (dens A ((cs.drop off).take i.size)) (fun j v hj => by
      rw [add_add]
      rw [dens_eq, List.getElem?_map, List.getElem?_take, List.getElem?_drop] at hj
      split at hj
      · cases hc : cs[off + j]? with
        | none => simp [hc] at hj
        | some c => simp [hc] at hj; subst hj; exact hcell _ _ hc
      · cases hj)
    have hlen : (dens A ((cs.drop off).take i.size)).length = i.size := by rw [dens_eq]; simp; omega
    rw [hlen] at hl
    simp [run_size h, hl, AVal.den]

end

theorem eqG_int (P : Program) (w : World) (op : BinOp) (t : TypeId) (xo yo : Operand) (k : IntKind) (n : Int) (y : Value) : (eqGuard op t xo yo (.int k n) y).run P w = .ok () w := by
  unfold eqGuard
  cases op <;> simp
theorem eqG_str (P : Program) (w : World) (op : BinOp) (t : TypeId) (xo yo : Operand) (s : ByteArray) (y : Value) : (eqGuard op t xo yo (.string s) y).run P w = .ok () w := by
  unfold eqGuard
  cases op <;> simp
theorem eqG_bool (P : Program) (w : World) (op : BinOp) (t : TypeId) (xo yo : Operand) (s : Bool) (y : Value) : (eqGuard op t xo yo (.bool s) y).run P w = .ok () w := by
  unfold eqGuard
  cases op <;> simp

theorem str_beq (a b : ByteArray) : (a.toList == b.toList) = decide (a = b) := by
  by_cases h : a = b
  · subst h; simp
  · have : a.toList ≠ b.toList := fun e => h (by
      rw [ByteArray.toList_eq, ByteArray.toList_eq] at e
      obtain ⟨⟨x⟩⟩ := a
      obtain ⟨⟨y⟩⟩ := b
      simp at e
      rw [e])
    simp [h, this]

theorem evBin_sound {op : BinOp} {x y : AVal} {k : AVal → Prop} (h : evBin op x y k) :
    ∃ v, k v ∧ ∀ (A : Asg) (P : Program) (w : World) (t : TypeId) (xo yo : Operand), ((do eqGuard op t xo yo (x.den A) (y.den A); binOp op t (x.den A) (y.den A)) : Sem Value).run P w = .ok (v.den A) w := by
  unfold evBin at h
  split at h
  · rename_i a x b y
    cases op
    case shl =>
      cases a <;> simp only at h
      all_goals first
        | exact h.elim
        | (obtain ⟨h1, h2, h3, h4⟩ := h
           refine ⟨_, h4, fun A P w t xo yo => ?_⟩
           simp only [Sem.run_bind, AVal.den, eqG_int, Result.andThen_ok]
           have hy : ¬ y < 0 := by omega
           have hmin : min y.toNat 64 = y.toNat := by omega
           simp only [binOp, Op.shift, hy, if_false, IntKind.bits, hmin, wrap_of_rng h3]
           rfl)
    case shr =>
      cases a <;> simp only at h
      all_goals first
        | exact h.elim
        | (obtain ⟨h1, h2, h4⟩ := h
           refine ⟨_, h4, fun A P w t xo yo => ?_⟩
           simp only [Sem.run_bind, AVal.den, eqG_int, Result.andThen_ok]
           have hy : ¬ y < 0 := by omega
           have hmin : min y.toNat 64 = y.toNat := by omega
           simp only [binOp, Op.shift, hy, if_false, IntKind.bits, hmin]
           rfl)
    all_goals
      simp only at h
      split at h
      · exact h.elim
      · rename_i hk
        obtain rfl := sameK_eq hk
        first
          | exact h.elim
          | (obtain ⟨h1, h2, h3⟩ := h
             refine ⟨_, h3, fun A P w t xo yo => ?_⟩
             simp only [Sem.run_bind, AVal.den, eqG_int, Result.andThen_ok, binOp, Op.intArith, Op.intDiv, h1, if_false, wrap_of_rng h2, ne_eq, not_true_eq_false]
             rfl)
          | (have h1 := h.1
             have h2 := h.2
             refine ⟨_, h2, fun A P w t xo yo => ?_⟩
             simp only [Sem.run_bind, AVal.den, eqG_int, Result.andThen_ok, binOp, Op.intArith, wrap_of_rng h1, ne_eq, not_true_eq_false, if_false]
             rfl)
          | (have h1 := h.1
             have h2 := h.2
             refine ⟨_, h2, fun A P w t xo yo => ?_⟩
             simp only [Sem.run_bind, AVal.den, eqG_int, Result.andThen_ok, binOp, Op.intDiv, h1, ne_eq, not_true_eq_false, if_false]
             rfl)
          | (refine ⟨_, h, fun A P w t xo yo => ?_⟩
             simp only [Sem.run_bind, AVal.den, eqG_int, Result.andThen_ok, binOp, Op.intBits, ne_eq, not_true_eq_false, if_false]
             rfl)
          | (refine ⟨_, h, fun A P w t xo yo => ?_⟩
             simp only [Sem.run_bind, AVal.den, eqG_int, Result.andThen_ok, binOp, Op.intCmp, ne_eq, not_true_eq_false, if_false]
             first | rfl | (simp [bne]; rfl))
  · rename_i x y
    have hsz := str_beq
    cases op <;> simp only at h
    all_goals first
      | exact h.elim
      | (have h1 := h.1
         have h2 := h.2
         refine ⟨_, h2, fun A P w t xo yo => ?_⟩
         have h3 : ¬ ((x.size + y.size : Nat) : Int) > IntKind.i64.max := by simp [IntKind.max, IntKind.signed, IntKind.bits]; omega
         simp only [Sem.run_bind, AVal.den, eqG_str, Result.andThen_ok, binOp, Op.stringOp, h3, if_false]
         rfl)
      | (refine ⟨_, h, fun A P w t xo yo => ?_⟩
         simp only [Sem.run_bind, AVal.den, eqG_str, Result.andThen_ok, binOp, Op.stringOp, hsz]
         rfl)
  · exact h.elim

theorem evUn_sound {op : UnOp} {x : AVal} {k : AVal → Prop} (h : evUn op x k) : ∃ v, k v ∧ ∀ (A : Asg) (P : Program) (w : World), (Op.unary op (x.den A)).run P w = .ok (v.den A) w := by
  unfold evUn at h
  split at h
  · exact ⟨_, h, fun A P w => by simp [Op.unary, AVal.den]⟩
  · obtain ⟨h1, h2⟩ := h
    exact ⟨_, h2, fun A P w => by simp [Op.unary, AVal.den, Op.intArith, wrap_of_rng h1]⟩
  · exact h.elim

theorem eqFs_sound {P : Program} {T : TypeId → Option TInfo} (hT : TOk P T) {go : TypeId → AVal → AVal → (Bool → Prop) → Prop} {d : Nat}
    (hgo : ∀ t x y k, go t x y k → ∃ r, k r ∧ ∀ A n w, (Op.equalIn (n + d) t (x.den A) (y.den A)).run P w = .ok r w) {xs ys : List AVal} :
    ∀ (fs : List Field) (k : Bool → Prop), fs.all (·.name != "_") = true → eqFs T go xs ys fs k →
      ∃ r, k r ∧ ∀ A n w, (Op.eqFields (n + d) (dens A xs).toArray (dens A ys).toArray fs).run P w = .ok r w
  | [], k, _, h => ⟨true, h, fun A n w => by simp [Op.eqFields]⟩
  | f :: fs, k, hn, h => by
    simp only [List.all_cons, Bool.and_eq_true, bne_iff_ne] at hn
    simp only [eqFs] at h
    cases hf : T f.type with
    | none => simp [hf] at h
    | some i =>
      simp only [hf] at h
      obtain ⟨a, h, ha⟩ := part_sound (hT _ _ hf) h
      obtain ⟨b, h, hb⟩ := part_sound (hT _ _ hf) h
      obtain ⟨r, h, hr⟩ := hgo _ _ _ _ h
      cases fs with
      | nil =>
        refine ⟨r, h, fun A n w => ?_⟩
        simp only [Op.eqFields, hn.1, ne_eq, not_false_eq_true, if_true, Sem.run_bind, ha, hb, hr, Result.andThen_ok]
        cases r <;> simp
      | cons g fs =>
        obtain ⟨r', h, hr'⟩ := eqFs_sound hT hgo (g :: fs) _ hn.2 h
        refine ⟨_, h, fun A n w => ?_⟩
        rw [Op.eqFields]
        simp only [hn.1, ne_eq, not_false_eq_true, if_true, Sem.run_bind, ha, hb, hr, Result.andThen_ok]
        cases r
        · simp
        · simp [hr']

theorem eqV_sound {P : Program} {T : TypeId → Option TInfo} (hT : TOk P T) : ∀ (d : Nat) (t : TypeId) (x y : AVal) (k : Bool → Prop), eqV T d t x y k →
    ∃ r, k r ∧ ∀ A n w, (Op.equalIn (n + d) t (x.den A) (y.den A)).run P w = .ok r w
  | 0, t, x, y, k, h => h.elim
  | d + 1, t, x, y, k, h => by
    simp only [eqV] at h
    cases ht : T t with
    | none => simp [ht] at h
    | some i =>
      have hi := hT _ _ ht
      have hu := hi.und
      simp only [ht] at h
      split at h
      · rename_i fs hd
        rw [hd] at hu
        split at h
        · rename_i he
          split at h
          · obtain ⟨h1, h2, h3⟩ := hi.eqOk he
            rw [hd] at h3
            obtain ⟨r, hk, hr⟩ := eqFs_sound hT (eqV_sound hT d) fs.toList _ h3 h
            refine ⟨r, hk, fun A n w => ?_⟩
            have hf : P.fieldsOf t = fs := by unfold Program.fieldsOf; rw [hu]
            simp only [AVal.den]
            rw [show n + (d + 1) = (n + d) + 1 by omega, run_equalIn_struct w (n + d) t _ _ (by rw [hf]; exact hu) h1, hf]
            exact hr A n w
          · exact h.elim
        · exact h.elim
      · rename_i k' hd
        rw [hd] at hu
        split at h
        · split at h
          · rename_i hk
            obtain rfl := sameK_eq hk
            refine ⟨_, h, fun A n w => ?_⟩
            simp only [AVal.den]
            rw [show n + (d + 1) = (n + d) + 1 by omega, run_equalIn_int w _ t _ _ _ _ hu]
            congr 1
          · exact h.elim
        · exact h.elim
      · rename_i hd
        rw [hd] at hu
        split at h
        · refine ⟨_, h, fun A n w => ?_⟩
          simp only [AVal.den]
          rw [show n + (d + 1) = (n + d) + 1 by omega, run_equalIn_bool w _ t _ _ hu]
        · exact h.elim
      · rename_i hd
        rw [hd] at hu
        split at h
        · refine ⟨_, h, fun A n w => ?_⟩
          simp only [AVal.den]
          rw [show n + (d + 1) = (n + d) + 1 by omega, run_equalIn_string w _ t _ _ hu, str_beq]
        · exact h.elim
      · exact h.elim

end Go.Proofs.Ytlplngafncobkaa.Fw
