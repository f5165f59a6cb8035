/- Each operation's effect is what the machine comes to. -/
import Derived.Test.YtlplngafncobkaaFwH
namespace Go.Proofs.Ytlplngafncobkaa.Fw
open Go Go.RowKit
set_option linter.unusedVariables false
set_option linter.unusedSimpArgs false

def Match (fr : List AVal) (o : Oper) (ρ : Operand → Value) (A : Asg) : Prop := ∀ x ∈ o.op.operands.toList, ∀ v, ev fr x = some v → ρ x = v.den A

def Good (E : Env) (hg : Nat → Option (List AVal)) (rg : Nat → Option Row) (lb lr : Nat) (fr : List AVal) (o : Oper) (k : Eff → Prop) : Prop :=
  ∃ eff, k eff ∧ ∀ A hp rw w (ρ : Operand → Value), Ctx E A hp rw lb eff.box.isSome lr eff.rows.length w → (∀ i c, hg i = some c → hp i = some c) → (∀ i r, rg i = some r → rw i = some r) →
    Match fr o ρ A → (∀ B, Agr lb eff.box.isSome lr eff.rows.length A B → ∀ cs, eff.box = some cs → dens B cs = dens A cs) →
    (∀ i c, hg i = some c → ∀ B : Asg, B.bx = A.bx → (∀ k, k < lr + 1000 → B.rw k = A.rw k ∧ B.inn k = A.inn k) → dens B c = dens A c) →
    Runs E.P (fun u w' => Post E A hp rw lb lr w eff u w') ((execOp ρ o).run E.P w)

section
variable {E : Env} {T : TypeId → Option TInfo} {G : List (FuncId × Ctr)} {hg : Nat → Option (List AVal)} {rg : Nat → Option Row} {lb lr : Nat} {fr : List AVal} {o : Oper} {k : Eff → Prop}

theorem good_val {v : AVal} (hk : k (val v)) (hrun : ∀ A hp rw w (ρ : Operand → Value), Mem E A hp rw w → (∀ i c, hg i = some c → hp i = some c) → (∀ i r, rg i = some r → rw i = some r) →
    Match fr o ρ A → (execOp ρ o).run E.P w = .ok (.value (v.den A)) w) : Good E hg rg lb lr fr o k :=
  ⟨_, hk, fun A hp rw w ρ hc h1 h2 h3 _ _ => runs_val hc.mem (hrun A hp rw w ρ hc.mem h1 h2 h3)⟩

theorem evBin_good {dst ty pos after guard} {op : BinOp} {t : TypeId} {x y : Operand} {yt : TypeId} {vx vy : AVal} (hx : ev fr x = some vx) (hy : ev fr y = some vy)
    (h : evBin op vx vy fun r => k (val r)) : Good E hg rg lb lr fr ⟨dst, .binOp op t x y yt, ty, pos, after, guard⟩ k := by
  obtain ⟨v, hk, hv⟩ := evBin_sound h
  refine good_val hk fun A hp rw w ρ hm h1 h2 h3 => ?_
  have ex : ρ x = vx.den A := h3 x (by simp [Op.operands]) vx hx
  have ey : ρ y = vy.den A := h3 y (by simp [Op.operands]) vy hy
  simp only [execOp]
  exact wrapF _ _ _ _ (by rw [ex, ey]; exact hv A E.P w t x y)

theorem eqOp_good (hT : TOk E.P T) {dst ty pos after guard} {t : TypeId} {x y : Operand} {yt : TypeId} {vx vy : AVal} (hx : ev fr x = some vx) (hy : ev fr y = some vy) (neg : Bool)
    (hag : (∃ a b, vx = .agg a ∧ vy = .agg b) ∨ (∃ a b, vx = .bool a ∧ vy = .bool b))
    (h : eqV T 6 t vx vy fun r => k (val (.bool (if neg then !r else r)))) : Good E hg rg lb lr fr ⟨dst, .binOp (if neg then .neq else .eql) t x y yt, ty, pos, after, guard⟩ k := by
  obtain ⟨r, hk, hr⟩ := eqV_sound hT _ _ _ _ _ h
  refine good_val hk fun A hp rw w ρ hm h1 h2 h3 => ?_
  have ex : ρ x = vx.den A := h3 x (by cases neg <;> simp [Op.operands]) vx hx
  have ey : ρ y = vy.den A := h3 y (by cases neg <;> simp [Op.operands]) vy hy
  have hr' := hr A 9994 w
  simp only [execOp]
  refine wrapF _ _ _ _ ?_
  rw [ex, ey]
  rcases hag with ⟨a, b, rfl, rfl⟩ | ⟨a, b, rfl, rfl⟩
  · have hg0 : ∀ op, (eqGuard op t x y (AVal.den A (.agg a)) (AVal.den A (.agg b))).run E.P w = .ok () w := fun op => by
      simp only [AVal.den]
      refine run_eqGuard_agg w op t x y _ _ ?_
      simp only [eqV] at h
      cases ht : T t with
      | none => simp [ht] at h
      | some i =>
        simp only [ht] at h
        split at h
        · split at h
          · rename_i he
            exact ((hT _ _ ht).eqOk he).2.1
          · exact h.elim
        all_goals simp at h
    cases neg
    · simp only [Bool.false_eq_true, if_false, Sem.run_bind, hg0, Result.andThen_ok]
      simp only [AVal.den] at hr' ⊢
      rw [run_eql_struct, hr']
      rfl
    · simp only [if_true, Sem.run_bind, hg0, Result.andThen_ok]
      simp only [AVal.den] at hr' ⊢
      rw [run_neq_struct, hr']
      rfl
  · cases neg
    · simp only [Bool.false_eq_true, if_false, Sem.run_bind, AVal.den, eqG_bool, Result.andThen_ok] at hr' ⊢
      simp only [binOp, Op.equal, Op.maxDepth, Sem.run_bind, hr', Result.andThen_ok, Sem.run_pure]
    · simp only [if_true, Sem.run_bind, AVal.den, eqG_bool, Result.andThen_ok] at hr' ⊢
      simp only [binOp, Op.equal, Op.maxDepth, Sem.run_bind, hr', Result.andThen_ok, Sem.run_pure]

theorem add_add (a : Addr) (m n : Nat) : (a.add m).add n = a.add (m + n) := by
  unfold Addr.add
  by_cases h1 : m = 0 <;> by_cases h2 : n = 0 <;> simp [h1, h2] <;> omega

/-- An element that lies in a slice. -/
theorem load_elem {P : Program} {t : TypeId} {A : Asg} {w : World} {hd : Hdr} {c : TyC} {e : TypeId} {own : Bool} {xs : List c.α} (hra : RowAt w hd ⟨c, e, own, xs⟩) {n off : Nat} (hlt : n < xs.length) {u : AVal}
    (hu : ∀ (A : Asg) (w : World) (a : Addr), (∀ (j : Nat) (v : AVal), (c.enc (xs.getD n c.dflt))[j]? = some v → w.cell? (a.add j) = some (v.den A)) → (loadVar t (a.add off)).run P w = .ok (u.den A) w) :
    ∃ a, hd.a = some a ∧ (loadVar t (a.add (n * c.sz + off))).run P w = .ok (u.den A) w := by
  have hxs : xs[n]? = some (xs.getD n c.dflt) := by simp [hlt]
  obtain ⟨a, ha, hcell⟩ := hra.cell n _ hxs
  have hl := hu A w (a.add (n * c.sz)) (fun j v hj => by
    rw [add_add, hcell j v hj]
    rw [AVal.flat_den (TyC.flat c _ v (List.mem_of_getElem? hj)) A A0])
  rw [add_add] at hl
  exact ⟨a, ha, hl⟩

theorem load_good (hT : TOk E.P T) {dst ty pos after guard} {t : TypeId} {x : Operand} {v : AVal} {i : TInfo} (hx : ev fr x = some v) (ht : T t = some i)
    (h : ldA hg rg i.agg i.size v fun u => k (val u)) : Good E hg rg lb lr fr ⟨dst, .load t x, ty, pos, after, guard⟩ k := by
  have hi := hT _ _ ht
  unfold ldA at h
  split at h
  · rename_i b off
    cases hb : hg b with
    | none => simp [hb] at h
    | some cs =>
      simp only [hb] at h
      obtain ⟨u, hk, hu⟩ := loadVar_sound hi h
      refine good_val hk fun A hp rw w ρ hm h1 h2 h3 => ?_
      have ex := h3 x (by simp [Op.operands]) _ hx
      obtain ⟨⟨t', hbx⟩, _⟩ := hm.box b cs (h1 _ _ hb)
      have hl := hu A w ⟨A.bx b, 0, none⟩ (fun j c hj => by
        have : (⟨A.bx b, 0, none⟩ : Addr).add j = ⟨A.bx b, j, none⟩ := by unfold Addr.add; split <;> simp_all
        rw [this]
        simp [World.cell?, hbx, dens_eq, hj])
      have hadd : (⟨A.bx b, 0, none⟩ : Addr).add off = ⟨A.bx b, off, none⟩ := by unfold Addr.add; split <;> simp_all
      rw [hadd] at hl
      simp only [execOp]
      refine wrapF _ _ _ _ ?_
      rw [ex]
      simp only [AVal.den, Instr.loadAt, Instr.sureAddr, Sem.run_bind, Sem.run_pure, Result.andThen_ok, hl]
  · rename_i r n off sz
    split at h
    · rename_i c e' e own yss hr
      split at h
      · rename_i hagg
        obtain ⟨hlt, hk⟩ := h
        have hp : partA i.agg i.size [.irow r n] 0 fun u => u = .irow r n := by simp only [partA, hagg, nth]
        obtain ⟨u, rfl, hu⟩ := loadVar_sound hi hp
        refine good_val hk fun A hp rw w ρ hm h1 h2 h3 => ?_
        have ex := h3 x (by simp [Op.operands]) _ hx
        obtain ⟨hra, _⟩ := hm.row r _ (h2 _ _ hr)
        obtain ⟨a, ha, hcell⟩ := hra.hdr hlt
        have hl := hu A w (a.add n) (fun j v hj => by
          cases j with
          | zero =>
            simp at hj; subst hj
            rw [add_add, Nat.add_zero, hcell]; rfl
          | succ j => simp at hj)
        rw [add_add] at hl
        simp only [execOp]
        refine wrapF _ _ _ _ ?_
        rw [ex]
        simp only [AVal.den, Hdr.ptr, ha, Option.getD_some, Instr.loadAt, Instr.sureAddr, Sem.run_bind, Sem.run_pure, Result.andThen_ok, Nat.mul_one, hl]
      · exact h.elim
    · rename_i c e own xs hne hr
      have hc : c.isL = false := by
        cases c <;> first | rfl | exact (hne _ _ _ rfl HEq.rfl).elim
      split at h
      · rename_i hsz
        have hsz := Nat.eq_of_beq_eq_true hsz
        obtain ⟨hlt, h⟩ := h
        obtain ⟨u, hk, hu⟩ := loadVar_sound hi h
        refine good_val hk fun A hp rw w ρ hm h1 h2 h3 => ?_
        have ex := h3 x (by simp [Op.operands]) _ hx
        obtain ⟨hra, _⟩ := hm.row r _ (h2 _ _ hr)
        obtain ⟨a, ha, hl⟩ := load_elem (A := A) (hra.flat hc) hlt hu
        simp only [execOp]
        refine wrapF _ _ _ _ ?_
        rw [ex]
        simp only [AVal.den, Hdr.ptr, ha, Option.getD_some, Instr.loadAt, Instr.sureAddr, Sem.run_bind, Sem.run_pure, Result.andThen_ok, hsz, hl]
      · exact h.elim
    · exact h.elim
  · rename_i r n j off sz
    split at h
    · rename_i c e' e own yss hr
      split at h
      · rename_i hc hsz
        have hsz := Nat.eq_of_beq_eq_true hsz
        obtain ⟨⟨hlt, hlt2⟩, h⟩ := h
        obtain ⟨u, hk, hu⟩ := loadVar_sound hi h
        refine good_val hk fun A hp rw w ρ hm h1 h2 h3 => ?_
        have ex := h3 x (by simp [Op.operands]) _ hx
        obtain ⟨hra, _⟩ := hm.row r _ (h2 _ _ hr)
        obtain ⟨a, ha, hl⟩ := load_elem (A := A) (hra.inner hlt) hlt2 hu
        simp only [execOp]
        refine wrapF _ _ _ _ ?_
        rw [ex]
        simp only [AVal.den, Hdr.ptr, ha, Option.getD_some, Instr.loadAt, Instr.sureAddr, Sem.run_bind, Sem.run_pure, Result.andThen_ok, hsz, hl]
      · exact h.elim
    · exact h.elim
  · exact h.elim

end
end Go.Proofs.Ytlplngafncobkaa.Fw
