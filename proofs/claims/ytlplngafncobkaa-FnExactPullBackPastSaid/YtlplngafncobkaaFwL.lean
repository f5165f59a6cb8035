/- All operations that are taken by themselves, together. -/
import Derived.Test.YtlplngafncobkaaFwK
namespace Go.Proofs.Ytlplngafncobkaa.Fw
open Go Go.RowKit
set_option linter.unusedVariables false
set_option linter.unusedSimpArgs false

section
variable {E : Env} {T : TypeId → Option TInfo} {G : List (FuncId × Ctr)} {hg : Nat → Option (List AVal)} {rg : Nat → Option Row} {lb lr : Nat} {fr : List AVal} {o : Oper} {k : Eff → Prop}
variable {dst : Option Tmp} {ty : TypeId} {pos : String} {after : Array Edge} {guard : Option (Nat × Bool)}

theorem bound_ok (P : Program) (w : World) (kd : IntKind) (n : Int) (y : Nat) (code : BoundsCode) (h : 0 ≤ n ∧ n ≤ (y : Int)) : (Instr.sliceBound (.int kd n) y code).run P w = .ok n.toNat w := by
  simp only [Instr.sliceBound, asIntOf, Sem.run_bind, Sem.run_pure, Result.andThen_ok, Sem.run_ite, h, and_self, if_true]

/-- the bounds of a slice expression on a string -/
def boundsA (lo hi : Option Int) (len : Nat) : Option (Nat × Nat) :=
  match lo, hi with
  | none, none => some (0, len)
  | some l, none => some (l.toNat, len)
  | none, some h => some (0, h.toNat)
  | some l, some h => some (l.toNat, h.toNat)

theorem slice_good (hT : TOk E.P T) {t : TypeId} {x : Operand} {lo hi : Option Operand} {s : ByteArray} {ti : TInfo} (hx : ev fr x = some (.str s)) (ht : T t = some ti) (hd : ti.desc = .string)
    (a b : Nat) (hk : k (val (.str (s.extract a b))))
    (hb : ∀ (ρ : Operand → Value), (∀ y, lo = some y → ∀ v, ev fr y = some v → ρ y = v.den A0) → (∀ y, hi = some y → ∀ v, ev fr y = some v → ρ y = v.den A0) →
      ∀ P w, (Instr.sliceBounds false s.size s.size (lo.map ρ) (hi.map ρ) none).run P w = .ok (a, b, s.size) w)
    (hfl : (∀ y, lo = some y → ∃ kd n, ev fr y = some (.int kd n)) ∧ (∀ y, hi = some y → ∃ kd n, ev fr y = some (.int kd n))) :
    Good E hg rg lb lr fr ⟨dst, .slice t x lo hi none, ty, pos, after, guard⟩ k := by
  refine good_val hk fun A hp rw w ρ hm h1 h2 h3 => ?_
  have hund := (hT _ _ ht).und
  rw [hd] at hund
  have hbb := hb ρ (fun y hy v hv => by
    obtain ⟨kd, n, hn⟩ := hfl.1 y hy
    rw [hn] at hv; cases hv
    rw [h3 y (by simp [Op.operands, hy]) _ hn]; rfl) (fun y hy v hv => by
    obtain ⟨kd, n, hn⟩ := hfl.2 y hy
    rw [hn] at hv; cases hv
    rw [h3 y (by simp [Op.operands, hy]) _ hn]; rfl) E.P w
  simp only [execOp]
  refine wrapF _ _ _ _ ?_
  rw [h3 x (by simp [Op.operands]) _ hx]
  simp only [AVal.den, Option.map_none, Instr.sliceAt, Sem.run_bind, run_underlying hund, Result.andThen_ok, Instr.slice, Option.isSome_none, Bool.false_eq_true, if_false, hbb, Sem.run_pure]

theorem boundsK_eq {fr : List AVal} {n : Nat} {lo hi : Option Operand} {k : Nat → Nat → Prop} (h : boundsK fr n lo hi k) :
    ∃ a b, k a b ∧ (a ≤ b ∧ b ≤ n) ∧ ∀ (A : Asg) (ρ : Operand → Value), (∀ y, (lo = some y ∨ hi = some y) → ∀ v, ev fr y = some v → ρ y = v.den A) →
      ∀ P w cap, n ≤ cap → (Instr.sliceBounds true n cap (lo.map ρ) (hi.map ρ) none).run P w = .ok (a, b, cap) w := by
  unfold boundsK at h
  split at h
  · exact ⟨0, n, h, ⟨Nat.zero_le _, Nat.le_refl _⟩, fun A ρ _ P w cap hcap => by simp [Instr.sliceBounds]⟩
  · rename_i lo
    replace h := with1_eq h; obtain ⟨l, hl, h⟩ := h
    split at h
    · rename_i kd l
      refine ⟨l.toNat, n, h.2, ⟨by omega, Nat.le_refl _⟩, fun A ρ h1 P w cap hcap => ?_⟩
      have e1 := h1 lo (.inl rfl) _ hl
      simp only [AVal.den] at e1
      simp [Instr.sliceBounds, e1, bound_ok P w kd l n .sliceB h.1]
    · exact h.elim
  · rename_i hi
    replace h := with1_eq h; obtain ⟨l, hl, h⟩ := h
    split at h
    · rename_i kd l
      refine ⟨0, l.toNat, h.2, ⟨Nat.zero_le _, by omega⟩, fun A ρ h1 P w cap hcap => ?_⟩
      have e1 := h1 hi (.inr rfl) _ hl
      simp only [AVal.den] at e1
      simp [Instr.sliceBounds, e1, bound_ok P w kd l cap .sliceAcap ⟨h.1.1, by omega⟩]
    · exact h.elim
  · rename_i lo hi
    replace h := with1_eq h; obtain ⟨l, hl, h⟩ := h
    replace h := with1_eq h; obtain ⟨g, hg', h⟩ := h
    split at h
    · rename_i kd l kd' g
      obtain ⟨⟨c1, c2, c3⟩, h⟩ := h
      refine ⟨l.toNat, g.toNat, h, ⟨by omega, by omega⟩, fun A ρ h1 P w cap hcap => ?_⟩
      have e1 := h1 lo (.inl rfl) _ hl
      have e2 := h1 hi (.inr rfl) _ hg'
      simp only [AVal.den] at e1 e2
      simp [Instr.sliceBounds, e1, e2, bound_ok P w kd' g cap .sliceAcap ⟨by omega, by omega⟩, bound_ok P w kd l g.toNat .sliceB ⟨c1, by omega⟩]
    · exact h.elim

/-- A part of a slice reads as a part of its row. -/
theorem RowAt.view {w : World} {h : Hdr} {c : TyC} {e : TypeId} {own : Bool} {xs : List c.α} (hat : RowAt w h ⟨c, e, own, xs⟩) (lo n : Nat) (hn : lo + n ≤ xs.length) : RowAt w (h.view lo n c.sz) ⟨c, e, false, (xs.drop lo).take n⟩ := by
  have hlen : h.len = xs.length := hat.len
  have hcap := hat.cap
  have hmax := hat.max
  refine ⟨by show n = ((xs.drop lo).take n).length; simp; omega, ?_, ?_, fun i y hi => ?_⟩
  · show n ≤ h.cap - lo; omega
  · show h.cap - lo ≤ maxLen; omega
  · have hi : ((xs.drop lo).take n)[i]? = some y := hi
    rw [List.getElem?_take] at hi
    split at hi
    · rename_i hin
      rw [List.getElem?_drop] at hi
      obtain ⟨a0, ha0, hcell⟩ := hat.cell (lo + i) y hi
      refine ⟨a0.add (lo * c.sz), ?_, fun j cv hj => ?_⟩
      · have : h.cap ≠ lo := by omega
        show (if h.cap = lo then h.a else h.a.map (·.add (lo * c.sz))) = _
        rw [if_neg this, ha0]; rfl
      · rw [add_add, show lo * c.sz + (i * c.sz + j) = (lo + i) * c.sz + j by rw [Nat.add_mul]; omega]
        exact hcell j cv hj
    · cases hi
theorem Foot.view {h : Hdr} {c : TyC} {e e2 : TypeId} {own : Bool} {xs : List c.α} {lo n b : Nat} (hf : Foot ⟨c, e2, false, (xs.drop lo).take n⟩ (h.view lo n c.sz) b) : Foot ⟨c, e, own, xs⟩ h b := by
  obtain ⟨h5, a', ha', hbk⟩ := hf
  have h6 : (xs.drop lo).take n ≠ [] := by rcases h5 with h5 | h5; cases h5; exact h5
  refine ⟨.inr fun h7 => h6 (by have h7 : xs = [] := h7; rw [h7]; simp), ?_⟩
  have ha' : (if h.cap = lo then h.a else h.a.map (·.add (lo * c.sz))) = some a' := ha'
  split at ha'
  · exact ⟨a', ha', hbk⟩
  · simp only [Option.map_eq_some_iff] at ha'
    obtain ⟨a0, ha0, rfl⟩ := ha'
    exact ⟨a0, ha0, by rw [← hbk, add_block]⟩

/-- The machine slices a slice. -/
theorem slice_run {P : Program} {T : TypeId → Option TInfo} (hT : TOk P T) {t e' : TypeId} {ti ei : TInfo} (ht : T t = some ti) (hd : ti.desc = .slice e') (he : T e' = some ei) (w : World) (h : Hdr) (l hi : Option Value) (a b : Nat)
    (hb : (Instr.sliceBounds true h.len h.cap l hi none).run P w = .ok (a, b, h.cap) w) : (Instr.sliceAt t h.val l hi none).run P w = .ok (h.view a (b - a) ei.size).val w := by
  have hund := (hT _ _ ht).und
  rw [hd] at hund
  simp only [Hdr.val, Instr.sliceAt, Sem.run_bind, run_underlying hund, Result.andThen_ok, Instr.slice, hb, run_size (hT _ _ he), Sem.run_pure, Hdr.view]

/-- A part of a row that is only read. -/
theorem rowSlice_good (hT : TOk E.P T) {t e' : TypeId} {x : Operand} {lo hi : Option Operand} {r : Nat} {c : TyC} {e : TypeId} {xs : List c.α} {ti ei : TInfo} (hx : ev fr x = some (.row r)) (hr : rg r = some ⟨c, e, false, xs⟩) (hcl : c.isL = false)
    (ht : T t = some ti) (hd : ti.desc = .slice e') (he : T e' = some ei) (hsz : ei.size = c.sz)
    (h : boundsK fr xs.length lo hi fun l h => k ⟨none, [⟨c, e, false, (xs.take h).drop l⟩], .row lr⟩) :
    Good E hg rg lb lr fr ⟨dst, .slice t x lo hi none, ty, pos, after, guard⟩ k := by
  obtain ⟨a, b, hk, hab, hbb⟩ := boundsK_eq h
  refine ⟨_, hk, fun A hp rw w ρ hc h1 h2 h3 h4 h5 => ?_⟩
  have hrow := h2 _ _ hr
  obtain ⟨hat', _⟩ := hc.mem.row _ _ hrow
  have hat := hat'.flat hcl
  have hlen : (A.rw r).len = xs.length := hat.len
  have hcap : xs.length ≤ (A.rw r).cap := by rw [← hlen]; exact hat.cap
  have hbb := hbb A ρ (fun y hy v hv => h3 y (by rcases hy with hy | hy <;> simp [Op.operands, hy]) v hv) E.P w (A.rw r).cap hcap
  rw [← hlen] at hbb
  have hrun : (execOp ρ ⟨dst, .slice t x lo hi none, ty, pos, after, guard⟩).run E.P w = .ok (.value ((A.rw r).view a (b - a) ei.size).val) w := by
    simp only [execOp]
    refine wrapF _ _ _ _ ?_
    rw [h3 x (by simp [Op.operands]) _ hx]
    simp only [AVal.den, Option.map_none]
    exact slice_run hT ht hd he w _ _ _ a b hbb
  rw [hrun, hsz]
  have hxs : (xs.take b).drop a = (xs.drop a).take (b - a) := by rw [List.drop_take]
  have hv := hat.view a (b - a) (by omega)
  rw [← hxs] at hv
  have hfoot : ∀ bk, Feet ⟨c, e, false, (xs.take b).drop a⟩ ((A.rw r).view a (b - a) c.sz) (fun _ => ⟨none, 0, 0⟩) bk → Feet ⟨c, e, false, xs⟩ (A.rw r) (A.inn r) bk := fun bk hf => by
    have hf := Feet.flat hf hcl
    rw [hxs] at hf
    exact Foot.feet (Foot.view hf) hcl
  have hag : Agr lb false lr 1 A (A.setRw lr ((A.rw r).view a (b - a) c.sz) (fun _ => ⟨none, 0, 0⟩)) := ⟨fun i _ => rfl, fun q hq => ⟨(upd_ne _ _ _ (by omega)).symm, (upd_ne _ _ _ (by omega)).symm⟩⟩
  have hm := hc.mem.addRow lr ((A.rw r).view a (b - a) c.sz) (fun _ => ⟨none, 0, 0⟩) ⟨c, e, false, (xs.take b).drop a⟩ (hc.fr lr (Nat.le_refl _) (by simp)) hc.n0 (hc.stb _ hag) (hv.rows hcl) (fun h => by cases h)
    (fun i ci bk h0 hi hf => hc.mem.br i ci r _ bk h0 hi hrow (hfoot bk hf))
    (fun k' r' bk hk' ho hf hf' => by
      rcases ho with ho | ho
      · cases ho
      · exact hc.mem.rr k' r r' _ bk hk' hrow (fun hkr => by subst hkr; rw [hrow] at hk'; cases hk'; cases ho) ho hf' (hfoot bk hf))
  refine ⟨⟨_, hag, ?_, ?_, Nat.le_refl _⟩⟩
  · simp [AVal.den, Asg.setRw, upd_same]
  · have hu : updL rw lr [(⟨c, e, false, (xs.take b).drop a⟩ : Row)] = upd rw lr (some ⟨c, e, false, (xs.take b).drop a⟩) := by
      funext i
      unfold updL upd
      by_cases hi : i = lr
      · subst hi; simp
      · rw [if_neg (by simp; omega), if_neg hi]
    simp only [updO_none, hu]
    exact hm

/-- A part of a row of the walk's own, by name. -/
theorem ownSlice_good (hT : TOk E.P T) {t e' : TypeId} {x : Operand} {lo hi : Option Operand} {r : Nat} {c : TyC} {e : TypeId} {own : Bool} {xs : List c.α} {ti ei : TInfo} (hx : ev fr x = some (.row r)) (hr : rg r = some ⟨c, e, own, xs⟩)
    (ht : T t = some ti) (hd : ti.desc = .slice e') (he : T e' = some ei)
    (h : boundsK fr xs.length lo hi fun l h => k (val (.vw r l (h - l) ei.size))) :
    Good E hg rg lb lr fr ⟨dst, .slice t x lo hi none, ty, pos, after, guard⟩ k := by
  obtain ⟨a, b, hk, hab, hbb⟩ := boundsK_eq h
  refine good_val hk fun A hp rw w ρ hm h1 h2 h3 => ?_
  obtain ⟨hat, _⟩ := hm.row _ _ (h2 _ _ hr)
  have hlen : (A.rw r).len = xs.length := hat.len
  have hcap : xs.length ≤ (A.rw r).cap := by rw [← hlen]; exact hat.cap
  have hbb := hbb A ρ (fun y hy v hv => h3 y (by rcases hy with hy | hy <;> simp [Op.operands, hy]) v hv) E.P w (A.rw r).cap hcap
  rw [← hlen] at hbb
  simp only [execOp]
  refine wrapF _ _ _ _ ?_
  rw [h3 x (by simp [Op.operands]) _ hx]
  simp only [AVal.den, Option.map_none]
  exact slice_run hT ht hd he w _ _ _ a b hbb

theorem add_zero' (a : Addr) : a.add 0 = a := by unfold Addr.add; simp
theorem view_view (h : Hdr) (a n l m sz : Nat) (hc : l = 0 ∨ a + l < h.cap) : (h.view a n sz).view l m sz = h.view (a + l) m sz := by
  unfold Hdr.view
  simp only [Hdr.mk.injEq, true_and]
  refine ⟨?_, by omega⟩
  rcases hc with rfl | hc
  · simp only [Nat.zero_mul, Nat.add_zero]
    split
    · rfl
    · split
      · cases h.a <;> simp [add_zero']
      · cases h.a <;> simp [add_zero']
  · rw [if_neg (by omega), if_neg (by omega), if_neg (by omega)]
    cases h.a with
    | none => rfl
    | some x => simp only [Option.map_some, add_add, Nat.add_mul]

/-- A part of a part of a row. -/
theorem vwSlice_good (hT : TOk E.P T) {t e' : TypeId} {x : Operand} {lo hi : Option Operand} {r a0 n0 : Nat} {c : TyC} {e : TypeId} {own : Bool} {xs : List c.α} {ti ei : TInfo} (hx : ev fr x = some (.vw r a0 n0 ei.size)) (hr : rg r = some ⟨c, e, own, xs⟩)
    (ht : T t = some ti) (hd : ti.desc = .slice e') (he : T e' = some ei) (hn : a0 + n0 ≤ xs.length)
    (h : boundsK fr n0 lo hi fun l h => (l = 0 ∨ a0 + l < xs.length) ∧ k (val (.vw r (a0 + l) (h - l) ei.size))) :
    Good E hg rg lb lr fr ⟨dst, .slice t x lo hi none, ty, pos, after, guard⟩ k := by
  obtain ⟨a, b, ⟨hla, hk⟩, hab, hbb⟩ := boundsK_eq h
  refine good_val hk fun A hp rw w ρ hm h1 h2 h3 => ?_
  obtain ⟨hat, _⟩ := hm.row _ _ (h2 _ _ hr)
  have hlen : (A.rw r).len = xs.length := hat.len
  have hcap : xs.length ≤ (A.rw r).cap := by rw [← hlen]; exact hat.cap
  have hbb := hbb A ρ (fun y hy v hv => h3 y (by rcases hy with hy | hy <;> simp [Op.operands, hy]) v hv) E.P w ((A.rw r).cap - a0) (by omega)
  simp only [execOp]
  refine wrapF _ _ _ _ ?_
  rw [h3 x (by simp [Op.operands]) _ hx]
  simp only [AVal.den, Option.map_none]
  rw [slice_run hT ht hd he w ((A.rw r).view a0 n0 ei.size) _ _ a b hbb, view_view _ _ _ _ _ _ (by rcases hla with h | h; exact .inl h; exact .inr (by omega))]

theorem cycle_get {α : Type} (z : List α) : ∀ (n j : Nat), j < n * z.length → ((List.replicate n z).flatMap id)[j]? = z[j % z.length]?
  | 0, j, h => by simp at h
  | n + 1, j, h => by
    have ih := cycle_get z n (j - z.length)
    rw [List.replicate_succ, List.flatMap_cons]
    simp only [id]
    rcases Nat.lt_or_ge j z.length with h1 | h1
    · rw [List.getElem?_append_left h1, Nat.mod_eq_of_lt h1]
    · rw [List.getElem?_append_right h1, ih (by rw [Nat.add_mul] at h; omega), Nat.mod_eq_sub_mod h1]

theorem madeCells_eq (z : List Value) (n : Nat) (hz : 0 < z.length) : (madeCells z.toArray (n * z.length)).toList = (List.replicate n z).flatMap id := by
  apply List.ext_getElem?
  intro j
  have hl : ((List.replicate n z).flatMap id).length = n * z.length := by
    simp [List.length_flatMap]
  rcases Nat.lt_or_ge j (n * z.length) with h | h
  · rw [cycle_get z n j h]
    have hj : j % z.length < z.length := Nat.mod_lt _ hz
    simp only [madeCells, Array.getElem?_toList, Array.getElem?_map, Array.getElem?_range, h, if_true, Option.map_some, List.size_toArray]
    rw [List.getElem?_eq_getElem hj]
    simp [hj]
  · rw [List.getElem?_eq_none (by simp [madeCells]; exact h), List.getElem?_eq_none (by rw [hl]; exact h)]

theorem flatMap_rep {α β : Type} (f : α → List β) (x : α) : ∀ n, (List.replicate n (f x)).flatMap id = (List.replicate n x).flatMap f
  | 0 => rfl
  | n + 1 => by rw [List.replicate_succ, List.flatMap_cons, List.replicate_succ, List.flatMap_cons, flatMap_rep f x n]; rfl

theorem makeSlice_good (hT : TOk E.P T) {t e : TypeId} {l c' : Operand} {kl kc : IntKind} {n m : Int} {i ie : TInfo} {c : TyC} (hl : ev fr l = some (.int kl n)) (hc' : ev fr c' = some (.int kc m)) (ht : T t = some i) (hd : i.desc = .slice e) (he : T e = some ie) (hc : ie.ty = some c)
    (h : (0 ≤ n ∧ m = n ∧ (ie.bytes : Int) * n ≤ 281474976710656 ∧ n ≤ 9223372036854775807) ∧ k ⟨none, [⟨c, e, true, List.replicate n.toNat c.dflt⟩], .row lr⟩) : Good E hg rg lb lr fr ⟨dst, .makeSlice t l c', ty, pos, after, guard⟩ k := by
  obtain ⟨⟨h0, rfl, hby, h63⟩, h⟩ := h
  obtain ⟨n, rfl⟩ := Int.eq_ofNat_of_zero_le h0
  refine ⟨_, h, fun A hp rw w ρ hcx h1 h2 h3 h4 h5 => ?_⟩
  have hund := (hT _ _ ht).und
  rw [hd] at hund
  obtain ⟨inf, z, hi, hsz, hbyt, hz, hzc⟩ := info_of (hT _ _ he)
  obtain ⟨hsz', henc, _⟩ := (hT _ _ he).ty c hc
  have h63' : n ≤ maxLen := by simp only [maxLen]; omega
  have hby' : inf.bytes * n ≤ 281474976710656 := by
    rw [hbyt]
    have : ((ie.bytes * n : Nat) : Int) ≤ 281474976710656 := by rw [Int.natCast_mul]; exact hby
    omega
  obtain ⟨w', hr, hown, hgr⟩ := run_make_full (P := E.P) w 0 t e inf z c.sz hund hi hz (by rw [hsz, hsz']) kl kc n hby' h63' (Nat.zero_le _)
  have hcells : (madeCells z.cells (n * c.sz)).toList = (List.replicate n c.dflt).flatMap fun x => dens A0 (c.enc x) := by
    have hl : (dens A0 (c.enc c.dflt)).length = c.sz := by rw [dens_eq, List.length_map, c.enc_len]
    rw [hzc, ← henc, ← hl, madeCells_eq _ _ (by rw [hl]; exact c.pos)]
    exact flatMap_rep (fun x => dens A0 (c.enc x)) c.dflt n
  have hrun : (execOp ρ ⟨dst, .makeSlice t l c', ty, pos, after, guard⟩).run E.P w = .ok (.value (.slice (some ⟨w.heap.size, 0, none⟩) n n)) w' := by
    simp only [execOp]
    refine wrapF _ _ _ _ ?_
    rw [h3 l (by simp [Op.operands]) _ hl, h3 c' (by simp [Op.operands]) _ hc']
    exact hr
  rw [hrun]
  have hcl : c.isL = false := ((hT _ _ he).ty c hc).2.2
  have hro : RowOwn w' ⟨some ⟨w.heap.size, 0, none⟩, n, n⟩ ⟨c, e, true, List.replicate (Int.ofNat n).toNat c.dflt⟩ := by
    unfold RowOwn Row.cells
    simp only [Hdr.val, Int.ofNat_eq_natCast, Int.toNat_natCast, List.length_replicate]
    rw [hcells] at hown
    exact hown
  exact post_row (ih := fun _ => ⟨none, 0, 0⟩) hcx ⟨hgr.os, hgr.tape, hgr.output, hgr.size, fun q hq => hgr.block q hq (by simp)⟩ rfl (hro.rows hcl) (fun b hb' => by
    obtain ⟨_, a, ha, rfl⟩ := Feet.flat hb' hcl
    cases ha; exact Nat.le_refl _)

theorem cells_nils : ∀ n, (List.replicate n (⟨none, 0, 0⟩ : Hdr)).flatMap (fun x => dens A0 (TyC.sl.enc x)) = List.replicate n (Value.slice none 0 0)
  | 0 => rfl
  | n + 1 => by
    rw [List.replicate_succ, List.replicate_succ, ← cells_nils n]
    rfl
theorem own_nil (w : World) (c : TyC) (e : TypeId) : RowOwn w ⟨none, 0, 0⟩ ⟨c, e, true, []⟩ := ⟨by simp [Row.cells], .inl ⟨rfl, rfl⟩⟩

/-- A row of rows, all empty. -/
theorem makeRows_good (hT : TOk E.P T) {t e e2 : TypeId} {l c' : Operand} {kl kc : IntKind} {n m : Int} {i ie : TInfo} {c : TyC} (hl : ev fr l = some (.int kl n)) (hc' : ev fr c' = some (.int kc m)) (ht : T t = some i) (hd : i.desc = .slice e) (he : T e = some ie) (hz0 : ie.zero = [.raw (.slice none 0 0)])
    (h : (0 ≤ n ∧ m = n ∧ (ie.bytes : Int) * n ≤ 281474976710656 ∧ n ≤ 9223372036854775807) ∧ k ⟨none, [⟨.lst c e2, e, true, @List.replicate (List c.α) n.toNat []⟩], .row lr⟩) : Good E hg rg lb lr fr ⟨dst, .makeSlice t l c', ty, pos, after, guard⟩ k := by
  obtain ⟨⟨h0, rfl, hby, h63⟩, h⟩ := h
  obtain ⟨n, rfl⟩ := Int.eq_ofNat_of_zero_le h0
  refine ⟨_, h, fun A hp rw w ρ hcx h1 h2 h3 h4 h5 => ?_⟩
  have hund := (hT _ _ ht).und
  rw [hd] at hund
  obtain ⟨inf, z, hi, hsz, hbyt, hz, hzc⟩ := info_of (hT _ _ he)
  have hsz1 : ie.size = 1 := by rw [← (hT _ _ he).zlen, hz0]; rfl
  have h63' : n ≤ maxLen := by simp only [maxLen]; omega
  have hby' : inf.bytes * n ≤ 281474976710656 := by
    rw [hbyt]
    have : ((ie.bytes * n : Nat) : Int) ≤ 281474976710656 := by rw [Int.natCast_mul]; exact hby
    omega
  obtain ⟨w', hr, hown, hgr⟩ := run_make_full (P := E.P) w 0 t e inf z 1 hund hi hz (by rw [hsz, hsz1]) kl kc n hby' h63' (Nat.zero_le _)
  have hcells : (madeCells z.cells (n * 1)).toList = (List.replicate n (Value.slice none 0 0)) := by
    have := madeCells_eq [Value.slice none 0 0] n (by simp)
    rw [hzc, hz0]
    simp only [dens, AVal.den, List.length_singleton] at this ⊢
    rw [this]
    induction n with
    | zero => rfl
    | succ n ih => simp [List.replicate_succ]
  have hrun : (execOp ρ ⟨dst, .makeSlice t l c', ty, pos, after, guard⟩).run E.P w = .ok (.value (.slice (some ⟨w.heap.size, 0, none⟩) n n)) w' := by
    simp only [execOp]
    refine wrapF _ _ _ _ ?_
    rw [h3 l (by simp [Op.operands]) _ hl, h3 c' (by simp [Op.operands]) _ hc']
    exact hr
  rw [hrun]
  have hlen : (@List.replicate (List c.α) (Int.ofNat n).toNat []).length = n := by simp
  have hpl : (⟨.lst c e2, e, true, @List.replicate (List c.α) (Int.ofNat n).toNat []⟩ : Row).parts ⟨some ⟨w.heap.size, 0, none⟩, n, n⟩ (fun _ => ⟨none, 0, 0⟩) =
      (⟨some ⟨w.heap.size, 0, none⟩, n, n⟩, ⟨.sl, e, true, List.replicate n (⟨none, 0, 0⟩ : Hdr)⟩) :: List.replicate n ((⟨none, 0, 0⟩ : Hdr), (⟨c, e2, true, []⟩ : Row)) := by
    rw [parts_lst, hlen]
    have h1 : (List.range n).map (fun _ => (⟨none, 0, 0⟩ : Hdr)) = List.replicate n (⟨none, 0, 0⟩ : Hdr) := by simp [List.map_const']
    have h2 : ∀ i, (@List.replicate (List c.α) (Int.ofNat n).toNat []).getD i [] = [] := fun i => by
      rw [List.getD_eq_getElem?_getD, List.getElem?_replicate]
      split <;> rfl
    have h3 : (List.range n).map (fun i => ((⟨none, 0, 0⟩ : Hdr), (⟨c, e2, true, (@List.replicate (List c.α) (Int.ofNat n).toNat []).getD i []⟩ : Row))) = List.replicate n ((⟨none, 0, 0⟩ : Hdr), (⟨c, e2, true, []⟩ : Row)) := by
      simp only [h2]
      simp [List.map_const']
    exact congr (congrArg List.cons (congrArg (fun z : List Hdr => ((⟨some ⟨w.heap.size, 0, none⟩, n, n⟩ : Hdr), (⟨.sl, e, true, z⟩ : Row))) h1)) h3
  have hro : RowOwn w' ⟨some ⟨w.heap.size, 0, none⟩, n, n⟩ ⟨.sl, e, true, List.replicate n (⟨none, 0, 0⟩ : Hdr)⟩ := by
    unfold RowOwn Row.cells
    have hx := cells_nils n
    show w'.ownsRow 0 e 1 (Hdr.val _) (List.replicate n (⟨none, 0, 0⟩ : Hdr)).length _
    rw [hcells] at hown
    simp only [Hdr.val, List.length_replicate]
    show w'.ownsRow 0 e 1 _ n ((List.replicate n (⟨none, 0, 0⟩ : Hdr)).flatMap (fun x => dens A0 (TyC.sl.enc x)))
    rw [hx]
    exact hown
  refine post_row (hd := ⟨some ⟨w.heap.size, 0, none⟩, n, n⟩) (r := ⟨.lst c e2, e, true, @List.replicate (List c.α) (Int.ofNat n).toNat []⟩) (ih := fun _ => ⟨none, 0, 0⟩) hcx ⟨hgr.os, hgr.tape, hgr.output, hgr.size, fun q hq => hgr.block q hq (by simp)⟩ rfl ⟨fun p hp => ?_, fun i j p q hi hj hij a b ha hb => ?_⟩ (fun b hb' => ?_)
  · rw [hpl] at hp
    simp only [List.mem_cons, List.mem_replicate] at hp
    rcases hp with rfl | ⟨_, rfl⟩
    · exact hro
    · exact own_nil _ _ _
  · rw [hpl] at hi hj
    cases i with
    | zero => cases j with
      | zero => exact absurd rfl hij
      | succ j =>
        simp only [List.getElem?_cons_succ, List.getElem?_replicate] at hj
        split at hj
        · cases hj; cases hb
        · cases hj
    | succ i =>
      simp only [List.getElem?_cons_succ, List.getElem?_replicate] at hi
      split at hi
      · cases hi; cases ha
      · cases hi
  · obtain ⟨p, hp, _, a, ha, rfl⟩ := hb'
    rw [hpl] at hp
    simp only [List.mem_cons, List.mem_replicate] at hp
    rcases hp with rfl | ⟨_, rfl⟩
    · cases ha; exact Nat.le_refl _
    · cases ha

/-- The bytes of a string, as a row that is only read. -/
theorem strToBytes_good (hT : TOk E.P T) {s d : TypeId} {x : Operand} {b : ByteArray} {si di ei : TInfo} {e : TypeId} (hx : ev fr x = some (.str b)) (hs : T s = some si) (hd : T d = some di) (hdd : di.desc = .slice e) (he : T e = some ei) (hed : ei.desc = .int .u8)
    (hsd : si.desc = .string) (h : b.size ≤ 9223372036854775807 ∧ k ⟨none, [⟨.int .u8, e, false, b.data.toList.map fun x => (x.toNat : Int)⟩], .row lr⟩) : Good E hg rg lb lr fr ⟨dst, .convert s d x, ty, pos, after, guard⟩ k := by
  obtain ⟨hbs, h⟩ := h
  refine ⟨_, h, fun A hp rw w ρ hc h1 h2 h3 h4 h5 => ?_⟩
  have hu1 := (hT _ _ hs).und
  have hu2 := (hT _ _ hd).und
  have hu3 := (hT _ _ he).und
  rw [hdd] at hu2
  rw [hsd] at hu1
  rw [hed] at hu3
  have hrun := run_bytes_of_string (P := E.P) w s d e b hu1 hu2 hu3
  have hgc := grownCap_ge w b.size 0 e
  have hgm := grownCap_le_maxLen w b.size 0 e (by simp only [maxLen]; omega)
  generalize grownCap w b.size 0 e = cap at *
  generalize hC : bytesRow b cap = C at *
  have hex : (execOp ρ ⟨dst, .convert s d x, ty, pos, after, guard⟩).run E.P w = .ok (.value (.slice (some ⟨w.heap.size, 0, none⟩) b.size cap)) (w.drew.alloc (.cells C e (C.size, C.size + 1))) := by
    simp only [execOp]
    refine wrapF _ _ _ _ ?_
    rw [h3 x (by simp [Op.operands]) _ hx]
    exact hrun
  rw [hex]
  have hB : Below w.heap.size w (w.drew.alloc (.cells C e (C.size, C.size + 1))) := ((Below.refl _ _).drew).alloc (Nat.le_refl _) _
  have hl : b.data.toList.length = b.size := by simp
  have hat : RowAt (w.drew.alloc (.cells C e (C.size, C.size + 1))) ⟨some ⟨w.heap.size, 0, none⟩, b.size, cap⟩ ⟨.int .u8, e, false, b.data.toList.map fun x => (x.toNat : Int)⟩ := by
    refine ⟨?_, hgc, hgm, fun i y hi => ⟨_, rfl, fun j cv hj => ?_⟩⟩
    · show b.size = (b.data.toList.map fun x => (x.toNat : Int)).length
      simp
    · have hi : (b.data.toList.map fun x => (x.toNat : Int))[i]? = some y := hi
      rw [List.getElem?_map] at hi
      cases hx0 : b.data.toList[i]? with
      | none => rw [hx0] at hi; cases hi
      | some x0 =>
        rw [hx0] at hi
        cases hi
        cases j with
        | zero =>
          cases hj
          have hadd : (⟨w.heap.size, 0, none⟩ : Addr).add (i * (TyC.int .u8).sz + 0) = ⟨w.heap.size, i, none⟩ := by
            simp only [TyC.sz, Nat.mul_one, Nat.add_zero]
            unfold Addr.add; split <;> simp_all
          rw [hadd]
          have hh : (w.drew.alloc (.cells C e (C.size, C.size + 1))).heap[w.heap.size]? = some (.cells C e (C.size, C.size + 1)) := by
            show (w.heap.push _)[w.heap.size]? = _
            simp
          have hCi : C[i]? = some (.int .u8 (x0.toNat : Int)) := by
            rw [← hC]
            unfold bytesRow
            have hlt : i < b.data.size := by
              have := (List.getElem?_eq_some_iff.1 hx0).1
              simpa using this
            rw [Array.getElem?_append_left (by simpa using hlt), Array.getElem?_map]
            have : b.data[i]? = some x0 := by simpa using hx0
            rw [this]; rfl
          simp only [World.cell?, hh, hCi, AVal.den]
          rfl
        | succ j => simp [TyC.enc] at hj
  have hm0 := hc.mem.grow hB hc.klt
  have hfoot : ∀ bk, Feet ⟨.int .u8, e, false, b.data.toList.map fun x => (x.toNat : Int)⟩ ⟨some ⟨w.heap.size, 0, none⟩, b.size, cap⟩ (fun _ => ⟨none, 0, 0⟩) bk → bk = w.heap.size := fun bk hf => by
    obtain ⟨_, a, ha, rfl⟩ := Feet.flat hf rfl
    cases ha; rfl
  have hag : Agr lb false lr 1 A (A.setRw lr ⟨some ⟨w.heap.size, 0, none⟩, b.size, cap⟩ (fun _ => ⟨none, 0, 0⟩)) := ⟨fun i _ => rfl, fun q hq => ⟨(upd_ne _ _ _ (by omega)).symm, (upd_ne _ _ _ (by omega)).symm⟩⟩
  have hm := hm0.addRow lr ⟨some ⟨w.heap.size, 0, none⟩, b.size, cap⟩ (fun _ => ⟨none, 0, 0⟩) ⟨.int .u8, e, false, b.data.toList.map fun x => (x.toNat : Int)⟩ (hc.fr lr (Nat.le_refl _) (by simp)) hc.n0 (hc.stb _ hag) (hat.rows rfl) (fun h => by cases h)
    (fun i ci bk h0 hi hf e => by have := hfoot bk hf; have := hc.mem.box_lt hi; omega)
    (fun k' r' bk hk' ho hf hf' => by have := hfoot bk hf; have := hc.mem.foot_lt hk' hf'; omega)
  refine ⟨⟨_, hag, ?_, ?_, hB.size⟩⟩
  · simp [AVal.den, Asg.setRw, upd_same, Hdr.val]
  · have hu : ∀ row : Row, updL rw lr [row] = upd rw lr (some row) := fun row => by
      funext i
      unfold updL upd
      by_cases hi : i = lr
      · subst hi; simp
      · rw [if_neg (by simp; omega), if_neg hi]
    simp only [updO_none, hu]
    exact hm

theorem len_slice_good (hT : TOk E.P T) {args : Array Operand} {argTypes : Array TypeId} {t e : TypeId} {ti : TInfo} {vs : List AVal} {v : AVal} {n : Nat}
    (hvs : vs.length = args.toList.length ∧ ∀ A (ρ : Operand → Value), (∀ x ∈ args.toList, ∀ v, ev fr x = some v → ρ x = v.den A) → args.toList.map ρ = dens A vs) (hv : vs = [v])
    (ha : nth argTypes.toList 0 = some t) (ht : T t = some ti) (hd : ti.desc = .slice e) (h : k (val (.int .i64 (n : Int))))
    (hl : ∀ A hp rw w, Mem E A hp rw w → (∀ i r, rg i = some r → rw i = some r) → ∃ a cap, v.den A = .slice a n cap) :
    Good E hg rg lb lr fr ⟨dst, .call { callee := .builtin .len, args, argTypes }, ty, pos, after, guard⟩ k := by
  refine good_val h fun A hp rw w ρ hm h1 h2 h3 => ?_
  have hund := (hT _ _ ht).und
  rw [hd] at hund
  obtain ⟨a, cap, hden⟩ := hl A hp rw w hm h2
  have hmap : args.map ρ = #[.slice a n cap] := by
    apply Array.ext'
    rw [Array.toList_map, hvs.2 A ρ (fun x hx v hxv => h3 x (by simp [Op.operands, Call.operands]; simpa using hx) v hxv), hv]
    simp [dens, hden]
  rw [nth_eq] at ha
  have ha' : argTypes[0]? = some t := by simpa using ha
  simp only [execOp, resolve, Sem.run_bind, Sem.run_pure, Result.andThen_ok, invoke, builtin, hmap]
  simp only [Builtin.len_, ha', Sem.run_bind, run_underlying hund, Result.andThen_ok]
  simp [goInt, AVal.den, run_underlying hund]

theorem len_str_good (hT : TOk E.P T) {args : Array Operand} {argTypes : Array TypeId} {s : ByteArray} {t : TypeId} {ti : TInfo} {vs : List AVal}
    (hvs : vs.length = args.toList.length ∧ ∀ A (ρ : Operand → Value), (∀ x ∈ args.toList, ∀ v, ev fr x = some v → ρ x = v.den A) → args.toList.map ρ = dens A vs) (hv : vs = [.str s])
    (ha : nth argTypes.toList 0 = some t) (ht : T t = some ti) (hd : ti.desc = .string) (h : k (val (.int .i64 (s.size : Int)))) :
    Good E hg rg lb lr fr ⟨dst, .call { callee := .builtin .len, args, argTypes }, ty, pos, after, guard⟩ k := by
  refine good_val h fun A hp rw w ρ hm h1 h2 h3 => ?_
  have hund := (hT _ _ ht).und
  rw [hd] at hund
  have hmap : args.map ρ = #[.string s] := by
    apply Array.ext'
    rw [Array.toList_map, hvs.2 A ρ (fun x hx v hxv => h3 x (by simp [Op.operands, Call.operands]; simpa using hx) v hxv), hv]
    simp [dens, AVal.den]
  rw [nth_eq] at ha
  have ha' : argTypes[0]? = some t := by simpa using ha
  simp only [execOp, resolve, Sem.run_bind, Sem.run_pure, Result.andThen_ok, invoke, builtin, hmap]
  simp only [Builtin.len_, ha', Sem.run_bind, run_underlying hund, Result.andThen_ok]
  simp [goInt, AVal.den, run_underlying hund]

theorem len_nil_good (hT : TOk E.P T) {args : Array Operand} {argTypes : Array TypeId} {t e : TypeId} {ti : TInfo} {vs : List AVal}
    (hvs : vs.length = args.toList.length ∧ ∀ A (ρ : Operand → Value), (∀ x ∈ args.toList, ∀ v, ev fr x = some v → ρ x = v.den A) → args.toList.map ρ = dens A vs) (hv : vs = [.raw (.slice none 0 0)])
    (ha : nth argTypes.toList 0 = some t) (ht : T t = some ti) (hd : ti.desc = .slice e) (h : k (val (.int .i64 0))) :
    Good E hg rg lb lr fr ⟨dst, .call { callee := .builtin .len, args, argTypes }, ty, pos, after, guard⟩ k := by
  refine good_val h fun A hp rw w ρ hm h1 h2 h3 => ?_
  have hund := (hT _ _ ht).und
  rw [hd] at hund
  have hmap : args.map ρ = #[.slice none 0 0] := by
    apply Array.ext'
    rw [Array.toList_map, hvs.2 A ρ (fun x hx v hxv => h3 x (by simp [Op.operands, Call.operands]; simpa using hx) v hxv), hv]
    simp [dens, AVal.den]
  rw [nth_eq] at ha
  have ha' : argTypes[0]? = some t := by simpa using ha
  simp only [execOp, resolve, Sem.run_bind, Sem.run_pure, Result.andThen_ok, invoke, builtin, hmap]
  simp only [Builtin.len_, ha', Sem.run_bind, run_underlying hund, Result.andThen_ok]
  simp [goInt, AVal.den, run_underlying hund]

theorem mm_good {b : Builtin} (hb : b = .min ∨ b = .max) {args : Array Operand} {argTypes : Array TypeId} {a : IntKind} {x y : Int} {vs : List AVal}
    (hvs : vs.length = args.toList.length ∧ ∀ A (ρ : Operand → Value), (∀ x ∈ args.toList, ∀ v, ev fr x = some v → ρ x = v.den A) → args.toList.map ρ = dens A vs) (hv : vs = [.int a x, .int a y])
    (h : k (val (.int a (if b = .min then (if y < x then y else x) else (if y > x then y else x))))) :
    Good E hg rg lb lr fr ⟨dst, .call { callee := .builtin b, args, argTypes }, ty, pos, after, guard⟩ k := by
  refine good_val h fun A hp rw w ρ hm h1 h2 h3 => ?_
  have hmap : args.map ρ = #[.int a x, .int a y] := by
    apply Array.ext'
    rw [Array.toList_map, hvs.2 A ρ (fun x hx v hxv => h3 x (by simp [Op.operands, Call.operands]; simpa using hx) v hxv), hv]
    simp [dens, AVal.den]
  rcases hb with rfl | rfl
  · simp only [execOp, resolve, Sem.run_bind, Sem.run_pure, Result.andThen_ok, invoke, builtin, hmap]
    simp [Builtin.min_, Builtin.min2, AVal.den]
  · simp only [execOp, resolve, Sem.run_bind, Sem.run_pure, Result.andThen_ok, invoke, builtin, hmap]
    simp [Builtin.max_, Builtin.max2, AVal.den]

theorem upd_rgV (rg : Nat → Option Row) (m : Nat) (r : Row) (i : Nat) : rgV rg m r i = if i = m then some r else rg i := by
  unfold rgV
  by_cases h : i = m
  · subst h; simp
  · have : Nat.beq i m = false := by
      cases hb : Nat.beq i m with
      | false => rfl
      | true => exact absurd (Nat.eq_of_beq_eq_true hb) h
    rw [this, if_neg h]

/-- Parts of rows, as rows of their own: the values are the same. -/
theorem matz_sound {rg : Nat → Option Row} : ∀ (vs : List AVal) (m : Nat) (rg' : Nat → Option Row) (kk : List AVal → (Nat → Option Row) → Prop), matz rg m vs rg' kk →
    ∃ vs' rg2, kk vs' rg2 ∧ ∀ (A : Asg) (w : World) (B : Asg) (nb lr : Nat), lr ≤ m → (∀ i r, rg i = some r → RowsAt w (A.rw i) (A.inn i) r) → scs nb [] lr [] vs = true →
      B.bx = A.bx → (∀ i, i < lr → B.rw i = A.rw i ∧ B.inn i = A.inn i) → (∀ i r, rg' i = some r → RowsAt w (B.rw i) (B.inn i) r) →
      ∃ C : Asg, C.bx = A.bx ∧ (∀ i, i < m → C.rw i = B.rw i ∧ C.inn i = B.inn i) ∧ dens C vs' = dens A vs ∧ (∀ i r, rg2 i = some r → RowsAt w (C.rw i) (C.inn i) r)
  | [], m, rg', kk, h => ⟨[], rg', h, fun A w B nb lr _ _ _ hb _ hr => ⟨B, hb, fun _ _ => ⟨rfl, rfl⟩, rfl, hr⟩⟩
  | x :: l, m, rg', kk, h => by
    have key : ∀ (u : AVal) (hd : Asg → Hdr) (row : Row), row.c.isL = false → (∀ A w, (∀ i r, rg i = some r → RowsAt w (A.rw i) (A.inn i) r) → RowAt w (hd A) row ∧ (hd A).val = u.den A) →
        matz rg (m + 1) l (rgV rg' m row) (fun l' rg2 => kk (.row m :: l') rg2) →
        ∃ vs' rg2, kk vs' rg2 ∧ ∀ (A : Asg) (w : World) (B : Asg) (nb lr : Nat), lr ≤ m → (∀ i r, rg i = some r → RowsAt w (A.rw i) (A.inn i) r) → scs nb [] lr [] (u :: l) = true →
          B.bx = A.bx → (∀ i, i < lr → B.rw i = A.rw i ∧ B.inn i = A.inn i) → (∀ i r, rg' i = some r → RowsAt w (B.rw i) (B.inn i) r) →
          ∃ C : Asg, C.bx = A.bx ∧ (∀ i, i < m → C.rw i = B.rw i ∧ C.inn i = B.inn i) ∧ dens C vs' = dens A (u :: l) ∧ (∀ i r, rg2 i = some r → RowsAt w (C.rw i) (C.inn i) r) := by
      intro u hd row hcl hrow h
      obtain ⟨vs', rg2, hk, hall⟩ := matz_sound l (m + 1) _ _ h
      refine ⟨_, _, hk, fun A w B nb lr hlr hrg hsc hbx hB hr' => ?_⟩
      simp only [scs] at hsc
      split at hsc
      · obtain ⟨h1, h2⟩ := hrow A w hrg
        obtain ⟨C, c1, c2, c3, c4⟩ := hall A w (B.setRw m (hd A) (fun _ => ⟨none, 0, 0⟩)) nb lr (by omega) hrg hsc hbx (fun i hi => by
          show upd B.rw m _ i = _ ∧ upd B.inn m _ i = _
          rw [upd_ne _ _ _ (by omega), upd_ne _ _ _ (by omega)]; exact hB i hi) (fun i r hi => by
          rw [upd_rgV] at hi
          show RowsAt w (upd B.rw m _ i) (upd B.inn m _ i) r
          split at hi
          · rename_i e; subst e; cases hi
            rw [upd_same, upd_same]
            obtain ⟨rc, re, ro, rxs⟩ := row
            exact h1.rows hcl
          · rename_i e
            rw [upd_ne _ _ _ e, upd_ne _ _ _ e]; exact hr' i r hi)
        refine ⟨C, c1, fun i hi => ?_, ?_, c4⟩
        · obtain ⟨d1, d2⟩ := c2 i (by omega)
          rw [d1, d2]
          show upd B.rw m _ i = _ ∧ upd B.inn m _ i = _
          rw [upd_ne _ _ _ (by omega), upd_ne _ _ _ (by omega)]; exact ⟨rfl, rfl⟩
        · simp only [dens, c3, AVal.den]
          rw [(c2 m (by omega)).1]
          show (upd B.rw m (hd A) m).val :: _ = _
          rw [upd_same, h2]
      · cases hsc
    have plain : (∀ a b c d, x ≠ .vw a b c d) → (∀ a b, x ≠ .irow a b) → matz rg m l rg' (fun l' rg2 => kk (x :: l') rg2) →
        ∃ vs' rg2, kk vs' rg2 ∧ ∀ (A : Asg) (w : World) (B : Asg) (nb lr : Nat), lr ≤ m → (∀ i r, rg i = some r → RowsAt w (A.rw i) (A.inn i) r) → scs nb [] lr [] (x :: l) = true →
          B.bx = A.bx → (∀ i, i < lr → B.rw i = A.rw i ∧ B.inn i = A.inn i) → (∀ i r, rg' i = some r → RowsAt w (B.rw i) (B.inn i) r) →
          ∃ C : Asg, C.bx = A.bx ∧ (∀ i, i < m → C.rw i = B.rw i ∧ C.inn i = B.inn i) ∧ dens C vs' = dens A (x :: l) ∧ (∀ i r, rg2 i = some r → RowsAt w (C.rw i) (C.inn i) r) := by
      intro _ _ h
      obtain ⟨vs', rg2, hk, hall⟩ := matz_sound l m _ _ h
      refine ⟨_, _, hk, fun A w B nb lr hlr hrg hsc hbx hB hr' => ?_⟩
      simp only [scs] at hsc
      split at hsc
      · rename_i hx
        obtain ⟨C, c1, c2, c3, c4⟩ := hall A w B nb lr hlr hrg hsc hbx hB hr'
        refine ⟨C, c1, c2, ?_, c4⟩
        simp only [dens, c3]
        rw [AVal.den_congr (B := A) (nb := nb) (nr := lr) (eb := []) (er := []) (fun i _ => by rw [c1]) (fun i hi => by
          have hi : i < lr := by simpa using hi
          obtain ⟨d1, d2⟩ := c2 i (by omega)
          obtain ⟨d3, d4⟩ := hB i hi
          exact ⟨d1.trans d3, d2.trans d4⟩) x hx]
      · cases hsc
    cases x with
    | vw r lo n sz =>
      simp only [matz] at h
      cases hr : rg r with
      | none => simp [hr] at h
      | some row =>
        obtain ⟨c, e, own, xs⟩ := row
        simp only [hr] at h
        split at h
        · rename_i hcl hsz
          have hsz := Nat.eq_of_beq_eq_true hsz
          subst hsz
          obtain ⟨hn, h⟩ := h
          exact key (.vw r lo n c.sz) (fun A => (A.rw r).view lo n c.sz) ⟨c, e, false, (xs.drop lo).take n⟩ hcl (fun A w hrg => ⟨((hrg r _ hr).flat hcl).view lo n hn, rfl⟩) h
        · exact h.elim
    | irow r i =>
      simp only [matz] at h
      split at h
      · rename_i c e' e own yss hr
        split at h
        · rename_i hcl
          obtain ⟨hn, h⟩ := h
          refine key (.irow r i) (fun A => A.inn r i) ⟨c, e', false, @List.getD (List c.α) yss i []⟩ hcl (fun A w hrg => ⟨?_, rfl⟩) h
          have := (hrg r _ hr).inner hn
          exact ⟨this.len, this.cap, this.max, this.cell⟩
        · exact h.elim
      · exact h.elim
    | _ => exact plain (fun _ _ _ _ => by simp) (fun _ _ => by simp) (by simpa only [matz] using h)

theorem call_good (hG : GOk E.P G) {f : Operand} {args : Array Operand} {argTypes : Array TypeId} {g : FuncId} {fs cs vs : List AVal} {c : PCtr}
    (hf : ev fr f = some (.fn g fs cs)) (hvs : ∀ A (ρ : Operand → Value), (∀ x ∈ args.toList, ∀ v, ev fr x = some v → ρ x = v.den A) → args.toList.map ρ = dens A vs)
    (hl : look G g = some (.p c)) (h : callA c hg rg lb lr (fs ++ (vs ++ cs)) k) :
    Good E hg rg lb lr fr ⟨dst, .call { callee := .value f, args, argTypes }, ty, pos, after, guard⟩ k := by
  have hc : PCtrOk E.P g c := hG g _ hl
  have hrun : ∀ (A : Asg) (w : World) (ρ : Operand → Value), Match fr ⟨dst, .call { callee := .value f, args, argTypes }, ty, pos, after, guard⟩ ρ A →
      (execOp ρ ⟨dst, .call { callee := .value f, args, argTypes }, ty, pos, after, guard⟩).run E.P w = .ok (.enter g (dens A (fs ++ (vs ++ cs))).toArray) w := fun A w ρ h3 => by
    have hmap : args.map ρ = (dens A vs).toArray := by
      apply Array.ext'
      rw [Array.toList_map, hvs A ρ (fun x hx v hxv => h3 x (by simp [Op.operands, Call.operands]; exact .inr (by simpa using hx)) v hxv)]
    have hfv : ρ f = .func (.func g) (dens A fs).toArray (dens A cs).toArray := by
      rw [h3 f (by simp [Op.operands, Call.operands]) _ hf]; simp [AVal.den]
    simp only [execOp, resolve, Deferred.ofValue, hfv, Sem.run_bind, Sem.run_pure, Result.andThen_ok, invoke, hc.enter, hmap]
    simp [dens_eq]
  unfold callA at h
  split at h
  · obtain ⟨rows, v, hk, hcalls⟩ := hc.calls _ _ _ _ _ h
    refine ⟨_, hk, fun A hp rw w ρ hcx h1 h2 h3 h4 h5 => ?_⟩
    rw [hrun A w ρ h3]
    refine Calls.mono (hcalls A w (fun i cs hi => (hcx.mem.box i cs (h1 _ _ hi)).1) (fun i r hi => (hcx.mem.row i r (h2 _ _ hi)).1)) ?_
    rintro e w' ⟨hs, he, hB, hnew⟩
    exact ⟨_, he, post_rows hcx hB hnew⟩
  · split at h
    · rename_i hscs
      obtain ⟨vs', rg2, h, hall⟩ := matz_sound _ _ _ _ h
      obtain ⟨rows, v, hk, hcalls⟩ := hc.calls _ _ _ _ _ h
      split at hk
      · rename_i hle
        have hle := Nat.le_of_ble_eq_true hle
        rw [lenN_eq] at hle
        split at hk
        · rename_i hvsc
          rw [lenN_eq] at hvsc
          refine ⟨_, hk, fun A hp rw w ρ hcx h1 h2 h3 h4 h5 => ?_⟩
          rw [hrun A w ρ h3]
          have hrg : ∀ i r, rg i = some r → RowsAt w (A.rw i) (A.inn i) r := fun i r hi => (hcx.mem.row i r (h2 _ _ hi)).1
          obtain ⟨C, c1, c2, c3, c4⟩ := hall A w A lb lr (by omega) hrg hscs rfl (fun _ _ => ⟨rfl, rfl⟩) hrg
          rw [← c3]
          refine Calls.mono (hcalls C w (fun i cs hi => by
            obtain ⟨t, ht⟩ := (hcx.mem.box i cs (h1 _ _ hi)).1
            exact ⟨t, by rw [c1, h5 i cs hi C c1 (fun q hq => c2 q hq)]; exact ht⟩) c4) ?_
          rintro e w' ⟨hs, he, hB, hnew⟩
          refine ⟨_, he, ?_⟩
          have hpost := post_rows (v := v) hcx hB hnew
          have hden : v.den (C.setRws lr hs) = v.den (A.setRws lr hs) := by
            refine AVal.den_congr (nb := lb) (nr := lr + rows.length) (eb := []) (er := []) (fun i _ => ?_) (fun i hi => ?_) v hvsc
            · show C.bx i = A.bx i
              rw [c1]
            · have hi : i < lr + rows.length := by simpa using hi
              have hlen := hnew.len
              by_cases hlt : i < lr
              · obtain ⟨d1, d2⟩ := setRws_out C lr hs i (.inl hlt)
                obtain ⟨d3, d4⟩ := setRws_out A lr hs i (.inl hlt)
                obtain ⟨d5, d6⟩ := c2 i (by omega)
                exact ⟨by rw [d1, d3, d5], by rw [d2, d4, d6]⟩
              · have hj : hs[i - lr]? = some hs[i - lr] := List.getElem?_eq_getElem (by omega)
                obtain ⟨d1, d2⟩ := setRws_in C lr hs (i - lr) _ hj
                obtain ⟨d3, d4⟩ := setRws_in A lr hs (i - lr) _ hj
                rw [show lr + (i - lr) = i by omega] at d1 d2 d3 d4
                exact ⟨by rw [d1, d3], by rw [d2, d4]⟩
          rw [hden]
          exact hpost
        · exact hk.elim
      · exact hk.elim
    · exact h.elim

end
end Go.Proofs.Ytlplngafncobkaa.Fw
