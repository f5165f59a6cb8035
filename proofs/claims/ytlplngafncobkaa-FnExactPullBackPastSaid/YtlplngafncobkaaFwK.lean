/- Each operation's effect is what the machine comes to: the rest, and all of them. -/
import Derived.Test.YtlplngafncobkaaFwJ
namespace Go.Proofs.Ytlplngafncobkaa.Fw
open Go Go.RowKit
set_option linter.unusedVariables false
set_option linter.unusedSimpArgs false

theorem over_eq : ∀ (l : List AVal) (o : Nat) (vs : List AVal) (k : List AVal → Prop), over l o vs k → o + vs.length ≤ l.length ∧ k (l.take o ++ vs ++ l.drop (o + vs.length))
  | l, 0, [], k, h => by cases l <;> simpa [over] using h
  | x :: l, 0, v :: vs, k, h => by
    simp only [over] at h
    obtain ⟨h1, h2⟩ := over_eq l 0 vs _ h
    exact ⟨by simp; omega, by simpa using h2⟩
  | x :: l, o + 1, vs, k, h => by
    simp only [over] at h
    obtain ⟨h1, h2⟩ := over_eq l o vs _ h
    refine ⟨by simp; omega, ?_⟩
    have : (x :: l).take (o + 1) ++ vs ++ (x :: l).drop (o + 1 + vs.length) = x :: (l.take o ++ vs ++ l.drop (o + vs.length)) := by
      rw [show o + 1 + vs.length = (o + vs.length) + 1 by omega]; simp
    rw [this]; exact h2
  | [], 0, v :: vs, k, h => by simp [over] at h
  | [], o + 1, vs, k, h => by cases vs <;> simp [over] at h

/-- writing cell by cell is writing a stretch -/
theorem fold_set (vs : List Value) : ∀ (cs : Array Value) (off m : Nat), off + m + vs.length ≤ cs.size →
    ((vs.zipIdx m).foldl (fun cs (c : Value × Nat) => cs.setIfInBounds (off + c.2) c.1) cs).toList = cs.toList.take (off + m) ++ vs ++ cs.toList.drop (off + m + vs.length) := by
  induction vs with
  | nil => intro cs off m _; simp
  | cons v vs ih =>
    intro cs off m h
    simp only [List.length_cons] at h
    rw [List.zipIdx_cons, List.foldl_cons, ih _ _ _ (by simp; omega)]
    simp only [Array.toList_setIfInBounds]
    have h1 : (cs.toList.set (off + m) v).take (off + (m + 1)) = cs.toList.take (off + m) ++ [v] := by
      rw [show off + (m + 1) = (off + m) + 1 by omega, List.take_add_one, List.take_set, List.getElem?_set_self (by simp; omega)]
      rw [List.set_eq_of_length_le (by simp; omega)]
      simp
    rw [h1, List.drop_set_of_lt (by omega)]
    simp [show off + (m + 1) + vs.length = off + m + (vs.length + 1) by omega]

def szT (T : TypeId → Option TInfo) (t : TypeId) : Nat := match T t with | some i => i.size | none => 0

theorem mapM_places {P : Program} {T : TypeId → Option TInfo} (hT : TOk P T) (w : World) : ∀ (fs : List Field), knownF T fs = true →
    (fs.mapM fun f => do pure (f.offset, ← sizeOf f.type) : Sem (List (Nat × Nat))).run P w = .ok (fs.map fun f => (f.offset, szT T f.type)) w
  | [], _ => by simp
  | f :: fs, h => by
    simp only [knownF] at h
    split at h
    · rename_i ti ht
      have hr := mapM_places hT w fs h
      simp only [List.mapM_cons, Sem.run_bind, run_size (hT _ _ ht), Result.andThen_ok, Sem.run_pure, hr, List.map_cons, szT, ht]
    · cases h

theorem parts_sound {P : Program} {T : TypeId → Option TInfo} (hT : TOk P T) {fr : List AVal} {fs : List Field} {pl : Nat → Option (Nat × Nat)}
    (hpl : ∀ (i : Nat) (f : Field) (ti : TInfo), fs[i]? = some f → T f.type = some ti → pl i = some (f.offset, ti.size)) :
    ∀ (ps : List (Nat × Operand)) (cs : List AVal) (k : List AVal → Prop), parts T fr fs ps cs k →
      ∃ cs', k cs' ∧ ∀ (A : Asg) (ρ : Operand → Value), (∀ p ∈ ps, ∀ v, ev fr p.2 = some v → ρ p.2 = v.den A) →
        Instr.fill pl (dens A cs).toArray (ps.map fun p => (p.1, ρ p.2)) = some (dens A cs').toArray
  | [], cs, k, h => ⟨cs, h, fun A ρ _ => rfl⟩
  | (i, x) :: ps, cs, k, h => by
    simp only [parts] at h
    rw [nth_eq] at h
    cases hf : fs[i]? with
    | none => simp [hf] at h
    | some f =>
      simp only [hf] at h
      obtain ⟨v, hv, h⟩ := with1_eq h
      obtain ⟨vs, h, hvs⟩ := cellsA_eq h
      cases ht : T f.type with
      | none => simp [ht] at h
      | some ti =>
        simp only [ht] at h
        split at h
        · rename_i hb
          have hb := Nat.eq_of_beq_eq_true hb
          rw [lenN_eq] at hb
          obtain ⟨hle, h⟩ := over_eq _ _ _ _ h
          obtain ⟨cs', hk, hc⟩ := parts_sound hT hpl ps _ _ h
          refine ⟨cs', hk, fun A ρ hρ => ?_⟩
          rw [← hc A ρ (fun p hp => hρ p (by simp [hp]))]
          simp only [List.map_cons, Instr.fill, hpl i f ti hf ht]
          have hvx : (ρ x).cells = (dens A vs).toArray := by rw [hρ (i, x) (by simp) v hv]; exact hvs A
          have hl : (dens A vs).length = vs.length := by rw [dens_eq]; simp
          have hl' : (dens A cs).length = cs.length := by rw [dens_eq]; simp
          rw [hvx]
          have hc1 : ¬ ((dens A vs).toArray.size ≠ ti.size ∨ f.offset + (dens A vs).toArray.size > (dens A cs).toArray.size) := by
            simp [hl, hl']; omega
          simp only [ne_eq, Bool.or_eq_true, decide_eq_true_eq, hc1, if_false]
          congr 1
          apply Array.ext'
          have := fold_set (dens A vs) (dens A cs).toArray f.offset 0 (by simp [hl, hl']; omega)
          simp only [← Array.foldl_toList, Array.toList_zipIdx]
          rw [this]
          simp only [dens_eq, List.map_append, List.map_take, List.map_drop, List.length_map, Nat.add_zero]
        · exact h.elim

section
variable {E : Env} {T : TypeId → Option TInfo} {G : List (FuncId × Ctr)} {hg : Nat → Option (List AVal)} {rg : Nat → Option Row} {lb lr : Nat} {fr : List AVal} {o : Oper} {k : Eff → Prop}
variable {dst : Option Tmp} {ty : TypeId} {pos : String} {after : Array Edge} {guard : Option (Nat × Bool)}

theorem build_good (hT : TOk E.P T) {t : TypeId} {ps : Array (Nat × Operand)} {i : TInfo} {fs : Array Field} (ht : T t = some i) (hd : i.desc = .struct fs) (hkn : knownF T fs.toList = true)
    (h : parts T fr fs.toList ps.toList i.zero fun cs => k (val (.agg cs))) : Good E hg rg lb lr fr ⟨dst, .build t ps, ty, pos, after, guard⟩ k := by
  obtain ⟨cs, hk, hcs⟩ := parts_sound hT (pl := fun (i : Nat) => (fs.toList.map fun f => (f.offset, szT T f.type))[i]?) (fun i f ti hf htf => by simp only [List.getElem?_map, hf, Option.map_some, szT, htf]) ps.toList i.zero _ h
  refine good_val hk fun A hp rw w ρ hm h1 h2 h3 => ?_
  have hr := mapM_places hT w fs.toList hkn
  obtain ⟨z, hz, hzc⟩ := run_zero (hT _ _ ht) w
  have hfl : ∀ c ∈ i.zero, c.flat = true := List.all_eq_true.1 (hT _ _ ht).flat
  have hund := (hT _ _ ht).und
  rw [hd] at hund
  have hfill := hcs A ρ (fun p hp v hv => h3 p.2 (by simp only [Op.operands]; simp; exact ⟨p.1, by simpa using hp⟩) v hv)
  have hr' : ((fs.mapM fun f => do pure (f.offset, ← sizeOf f.type)) : Sem (Array (Nat × Nat))).run E.P w = .ok (fs.toList.map fun f => (f.offset, szT T f.type)).toArray w := by
    rw [Array.mapM_eq_mapM_toList, Sem.run_map, hr]
    rfl
  simp only [execOp]
  refine wrapF _ _ _ _ ?_
  simp only [Instr.build, Sem.run_bind, hz, Result.andThen_ok, run_underlying hund, hr', hzc, dens_flat hfl A0 A]
  have hpm : (ps.map fun x => (x.1, ρ x.2)).toList = ps.toList.map fun p => (p.1, ρ p.2) := Array.toList_map
  have hfun : (fun x => (List.map (fun f => (f.offset, szT T f.type)) fs.toList).toArray[x]?) = fun (i : Nat) => (fs.toList.map fun f => (f.offset, szT T f.type))[i]? := by funext i; simp
  rw [hpm, hfun, hfill]
  rfl

theorem elems_sound {c : TyC} : ∀ (ps : List (Nat × Operand)) (m : Nat) (k : List c.α → Prop), elems fr c.dec m ps k →
    ∃ xs, k xs ∧ xs.length = ps.length ∧ ∀ (A : Asg) (ρ : Operand → Value) (cs0 : Array Value), (∀ p ∈ ps, ∀ v, ev fr p.2 = some v → ρ p.2 = v.den A) → cs0.size = (m + ps.length) * c.sz →
      Instr.fill (fun i => some (i * c.sz, c.sz)) cs0 (ps.map fun p => (p.1, ρ p.2)) = some (cs0.toList.take (m * c.sz) ++ xs.flatMap fun x => dens A0 (c.enc x)).toArray
  | [], m, k, h => ⟨[], h, rfl, fun A ρ cs0 _ hs => by
    simp only [List.map_nil, Instr.fill, List.flatMap_nil, List.append_nil]
    rw [List.take_of_length_le (by simp [hs])]⟩
  | (i, x) :: ps, m, k, h => by
    simp only [elems] at h
    split at h
    · rename_i hb
      obtain rfl := Nat.eq_of_beq_eq_true hb
      obtain ⟨v, hv, h⟩ := with1_eq h
      obtain ⟨vs, h, hvs⟩ := cellsA_eq h
      split at h
      · rename_i y hy
        obtain ⟨xs, hk, hl, hx⟩ := elems_sound ps _ _ h
        refine ⟨y :: xs, hk, by simp [hl], fun A ρ cs0 hρ hs => ?_⟩
        have hvx : (ρ x).cells = (dens A vs).toArray := by rw [hρ (i, x) (by simp) v hv]; exact hvs A
        have henc := TyC.dec_enc hy
        have hd : dens A vs = dens A0 (c.enc y) := by rw [← henc]; exact dens_flat (fun v hv => TyC.flat c y v hv) _ _
        have hlen : (dens A0 (c.enc y)).length = c.sz := by rw [dens_eq]; simp [TyC.enc_len]
        rw [hd] at hvx
        simp only [List.length_cons] at hs
        have hsz : i * c.sz + c.sz ≤ cs0.size := by
          rw [hs, show (i + (ps.length + 1)) * c.sz = i * c.sz + c.sz + ps.length * c.sz by simp only [Nat.add_mul]; omega]
          omega
        simp only [List.map_cons, Instr.fill]
        rw [hvx]
        have hc1 : ¬ ((dens A0 (c.enc y)).toArray.size ≠ c.sz ∨ i * c.sz + (dens A0 (c.enc y)).toArray.size > cs0.size) := by simp [hlen]; omega
        simp only [ne_eq, Bool.or_eq_true, decide_eq_true_eq, hc1, if_false]
        have hf := fold_set (dens A0 (c.enc y)) cs0 (i * c.sz) 0 (by simp only [hlen]; omega)
        have harr : Array.foldl (fun cs (x : Value × Nat) => cs.setIfInBounds (i * c.sz + x.2) x.1) cs0 (dens A0 (c.enc y)).toArray.zipIdx = (cs0.toList.take (i * c.sz) ++ dens A0 (c.enc y) ++ cs0.toList.drop (i * c.sz + c.sz)).toArray := by
          apply Array.ext'
          simp only [← Array.foldl_toList, Array.toList_zipIdx]
          rw [hf]
          simp [hlen]
        rw [harr, hx A ρ _ (fun p hp => hρ p (by simp [hp])) (by
          simp only [List.size_toArray, List.length_append, List.length_take, List.length_drop, Array.length_toList, hlen]
          rw [hs, show (i + (ps.length + 1)) * c.sz = i * c.sz + c.sz + ps.length * c.sz by simp only [Nat.add_mul]; omega,
            show (i + 1 + ps.length) * c.sz = i * c.sz + c.sz + ps.length * c.sz by simp only [Nat.add_mul]; omega]
          omega)]
        congr 2
        have h1 : (cs0.toList.take (i * c.sz)).length = i * c.sz := by simp; omega
        rw [show (i + 1) * c.sz = i * c.sz + c.sz by rw [Nat.add_mul]; omega, List.take_append_of_le_length (by simp [hlen]; omega), List.take_of_length_le (by simp [hlen]; omega)]
        simp
      · exact h.elim
    · exact h.elim

theorem buildSlice_good (hT : TOk E.P T) {t e : TypeId} {n : Nat} {ps : Array (Nat × Operand)} {i ie : TInfo} {c : TyC} (ht : T t = some i) (hd : i.desc = .slice e) (he : T e = some ie) (hc : ie.ty = some c)
    (h : elems fr c.dec 0 ps.toList fun xs => (match Nat.beq (lenN xs) n with
      | true => n * ie.size ≤ 16777216 ∧ k ⟨none, [⟨c, e, true, xs⟩], .row lr⟩
      | false => False)) : Good E hg rg lb lr fr ⟨dst, .buildSlice t n ps, ty, pos, after, guard⟩ k := by
  obtain ⟨xs, h, hl, hx⟩ := elems_sound _ _ _ h
  split at h
  · rename_i hb
    have hb := Nat.eq_of_beq_eq_true hb
    rw [lenN_eq] at hb
    obtain ⟨h24, h⟩ := h
    have hsz : c.sz = ie.size := ((hT _ _ he).ty c hc).1
    refine ⟨_, h, fun A hp rw w ρ hcx h1 h2 h3 h4 h5 => ?_⟩
    have hund := (hT _ _ ht).und
    rw [hd] at hund
    obtain ⟨z, hz, hzc⟩ := run_zero (hT _ _ he) w
    have hfl : ∀ c ∈ ie.zero, c.flat = true := List.all_eq_true.1 (hT _ _ he).flat
    have hpm : (ps.map fun x => (x.1, ρ x.2)).toList = ps.toList.map fun p => (p.1, ρ p.2) := Array.toList_map
    have hfill : ∀ cs0 : Array Value, cs0.size = n * ie.size → Instr.fill (fun i => some (i * ie.size, ie.size)) cs0 (ps.map fun x => (x.1, ρ x.2)).toList = some ((xs.flatMap fun x => dens A0 (c.enc x))).toArray := fun cs0 h0 => by
      rw [hpm, ← hsz, hx A ρ cs0 (fun p hp v hv => h3 p.2 (by simp only [Op.operands]; simp; exact ⟨p.1, by simpa using hp⟩) v hv) (by rw [h0, ← hb, hl, hsz]; simp)]
      simp
    have hown := World.ownsRow_lit (base := 0) (e := e) (size := c.sz) w (xs.flatMap fun x => dens A0 (c.enc x)).toArray n (Nat.zero_le _) (by
      have := TyC.pos c
      have : n * 1 ≤ n * c.sz := Nat.mul_le_mul_left _ this
      simp [maxLen]; rw [hsz] at this; omega) (by
      simp only [List.size_toArray]
      rw [flatMap_length _ c.sz (fun x => by rw [dens_eq]; simp [TyC.enc_len]), hb])
    have hrun : (execOp ρ ⟨dst, .buildSlice t n ps, ty, pos, after, guard⟩).run E.P w = .ok (.value (.slice (some ⟨w.heap.size, 0, none⟩) n n)) (w.alloc (.cells (xs.flatMap fun x => dens A0 (c.enc x)).toArray e)) := by
      simp only [execOp]
      refine wrapF _ _ _ _ ?_
      have hlim : ¬ n * ie.size > 2 ^ 24 := by omega
      simp only [Instr.buildSlice, Sem.run_bind, run_underlying hund, Result.andThen_ok, run_size (hT _ _ he), hlim, if_false]
      by_cases h0 : n * ie.size = 0
      · simp only [h0, if_true]
        simp only [Sem.run_bind, Sem.run_pure, Result.andThen_ok]
        rw [hfill _ (by simp [h0])]
        rfl
      · simp only [h0, if_false]
        simp only [Sem.run_bind, hz, Sem.run_pure, Result.andThen_ok]
        rw [hfill _ (by simp)]
        rfl
    rw [hrun]
    have hcl : c.isL = false := ((hT _ _ he).ty c hc).2.2
    have hro : RowOwn (w.alloc (.cells (xs.flatMap fun x => dens A0 (c.enc x)).toArray e)) ⟨some ⟨w.heap.size, 0, none⟩, n, n⟩ ⟨c, e, true, xs⟩ := by
      unfold RowOwn Row.cells
      simp only [Hdr.val]
      rw [hb]
      exact hown
    exact post_row (ih := fun _ => ⟨none, 0, 0⟩) hcx ((Below.refl _ _).alloc (Nat.le_refl _) _) rfl (hro.rows hcl) (fun b hb' => by
      obtain ⟨_, a, ha, rfl⟩ := Feet.flat hb' hcl
      cases ha; exact Nat.le_refl _)
  · exact h.elim

theorem elemsB_sound : ∀ (ps : List (Nat × Operand)) (m : Nat) (k : List AVal → Prop), elemsB fr m ps k →
    ∃ cs, k cs ∧ cs.length = ps.length ∧ ∀ (A : Asg) (ρ : Operand → Value) (cs0 : Array Value), (∀ p ∈ ps, ∀ v, ev fr p.2 = some v → ρ p.2 = v.den A) → cs0.size = m + ps.length →
      Instr.fill (fun i => some (i * 1, 1)) cs0 (ps.map fun p => (p.1, ρ p.2)) = some (cs0.toList.take m ++ dens A cs).toArray
  | [], m, k, h => ⟨[], h, rfl, fun A ρ cs0 _ hs => by
    simp only [List.map_nil, Instr.fill, dens, List.append_nil]
    rw [List.take_of_length_le (by simp at hs; simp [hs])]⟩
  | (i, x) :: ps, m, k, h => by
    simp only [elemsB] at h
    split at h
    · rename_i hb
      obtain rfl := Nat.eq_of_beq_eq_true hb
      obtain ⟨v, hv, h⟩ := with1_eq h
      have key : ∀ u : AVal, v = u → (∀ A, (u.den A).cells = #[u.den A]) → elemsB fr (i + 1) ps (fun vs => k (u :: vs)) →
          ∃ cs, k cs ∧ cs.length = ((i, x) :: ps).length ∧ ∀ (A : Asg) (ρ : Operand → Value) (cs0 : Array Value), (∀ p ∈ ((i, x) :: ps), ∀ v, ev fr p.2 = some v → ρ p.2 = v.den A) → cs0.size = i + ((i, x) :: ps).length →
            Instr.fill (fun i => some (i * 1, 1)) cs0 (((i, x) :: ps).map fun p => (p.1, ρ p.2)) = some (cs0.toList.take i ++ dens A cs).toArray := by
        rintro u rfl hcell h
        obtain ⟨cs, hk, hl, hx⟩ := elemsB_sound ps _ _ h
        refine ⟨v :: cs, hk, by simp [hl], fun A ρ cs0 hρ hs => ?_⟩
        have hvx : (ρ x).cells = #[v.den A] := by rw [hρ (i, x) (by simp) v hv]; exact hcell A
        simp only [List.length_cons] at hs
        simp only [List.map_cons, Instr.fill, hvx, Nat.mul_one]
        have hs1 : (#[v.den A] : Array Value).size = 1 := rfl
        have hgt : ¬ (i + 1 > cs0.size) := by omega
        simp only [hs1, bne_self_eq_false, Bool.false_or, decide_eq_true_eq, hgt, if_false]
        have harr : Array.foldl (fun cs (x : Value × Nat) => cs.setIfInBounds (i + x.2) x.1) cs0 (#[v.den A] : Array Value).zipIdx = cs0.setIfInBounds i (v.den A) := by
          simp [Array.zipIdx]
        rw [harr]
        have := hx A ρ (cs0.setIfInBounds i (v.den A)) (fun p hp => hρ p (by simp [hp])) (by simp; omega)
        simp only [Nat.mul_one] at this
        rw [this]
        congr 2
        simp only [dens, Array.toList_setIfInBounds]
        rw [List.take_succ_eq_append_getElem (by simp; omega), List.getElem_set_self, List.take_set, List.set_eq_of_length_le (by simp; omega), List.append_assoc]
        rfl
      split at h
      · exact key _ rfl (fun A => by simp [AVal.den, Value.cells, Hdr.val]) h
      · exact key _ rfl (fun A => by simp [AVal.den, Value.cells, Hdr.val]) h
      · exact key _ rfl (fun A => by simp [AVal.den, Value.cells]) h
      · exact h.elim
    · exact h.elim

theorem post_bsl {cs : List AVal} {A : Asg} {hp : Nat → Option (List AVal)} {rw_ : Nat → Option Row} {w : World} {t : TypeId} {n : Nat} (h : Ctx E A hp rw_ lb true lr 0 w) (hcs : ∀ B, Agr lb true lr 0 A B → dens B cs = dens A cs) :
    Post E A hp rw_ lb lr w ⟨some cs, [], .bsl lb n⟩ (.slice (some ⟨w.heap.size, 0, none⟩) n n) (w.alloc (.cells (dens A cs).toArray t)) := by
  obtain ⟨B, h1, h2, h3, h4⟩ := (post_box (t := t) h hcs).out
  refine ⟨B, h1, ?_, h3, h4⟩
  simp only [AVal.den, Value.pointer.injEq, Option.some.injEq, Addr.mk.injEq, and_true] at h2
  simp only [AVal.den]
  rw [← h2]

theorem buildSliceB_good (hT : TOk E.P T) {t e : TypeId} {n : Nat} {ps : Array (Nat × Operand)} {i ie : TInfo} (ht : T t = some i) (hd : i.desc = .slice e) (he : T e = some ie) (h1s : ie.size = 1)
    (h : elemsB fr 0 ps.toList fun cs => (match Nat.beq (lenN cs) n with
      | true => n * 1 ≤ 16777216 ∧ k ⟨some cs, [], .bsl lb n⟩
      | false => False)) : Good E hg rg lb lr fr ⟨dst, .buildSlice t n ps, ty, pos, after, guard⟩ k := by
  obtain ⟨cs, h, hl, hx⟩ := elemsB_sound _ _ _ h
  split at h
  · rename_i hb
    have hb := Nat.eq_of_beq_eq_true hb
    rw [lenN_eq] at hb
    obtain ⟨h24, h⟩ := h
    refine ⟨_, h, fun A hp rw w ρ hcx h1 h2 h3 h4 h5 => ?_⟩
    have hund := (hT _ _ ht).und
    rw [hd] at hund
    obtain ⟨z, hz, hzc⟩ := run_zero (hT _ _ he) w
    have hzl := (hT _ _ he).zlen
    have hpm : (ps.map fun x => (x.1, ρ x.2)).toList = ps.toList.map fun p => (p.1, ρ p.2) := Array.toList_map
    have hfill : ∀ cs0 : Array Value, cs0.size = n → Instr.fill (fun i => some (i * 1, 1)) cs0 (ps.map fun x => (x.1, ρ x.2)).toList = some (dens A cs).toArray := fun cs0 h0 => by
      rw [hpm, hx A ρ cs0 (fun p hp v hv => h3 p.2 (by simp only [Op.operands]; simp; exact ⟨p.1, by simpa using hp⟩) v hv) (by rw [h0, ← hb, hl]; simp)]
      simp
    have hrun : (execOp ρ ⟨dst, .buildSlice t n ps, ty, pos, after, guard⟩).run E.P w = .ok (.value (.slice (some ⟨w.heap.size, 0, none⟩) n n)) (w.alloc (.cells (dens A cs).toArray e)) := by
      simp only [execOp]
      refine wrapF _ _ _ _ ?_
      have hlim : ¬ n * 1 > 2 ^ 24 := by omega
      simp only [Instr.buildSlice, Sem.run_bind, run_underlying hund, Result.andThen_ok, run_size (hT _ _ he), h1s, hlim, if_false]
      by_cases h0 : n * 1 = 0
      · simp only [h0, if_true]
        simp only [Sem.run_bind, Sem.run_pure, Result.andThen_ok]
        rw [hfill _ (by simp; omega)]
        rfl
      · simp only [h0, if_false]
        simp only [Sem.run_bind, hz, Sem.run_pure, Result.andThen_ok]
        rw [hfill _ (by simp)]
        rfl
    rw [hrun]
    exact post_bsl hcx (fun B hB => h4 B hB cs rfl)
  · exact h.elim

end
end Go.Proofs.Ytlplngafncobkaa.Fw
