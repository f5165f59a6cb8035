/- Each operation's effect is what the machine comes to: the rest, and all of them. -/
import Derived.Test.YtmbfflckgmdncaaDoorGA
import Derived.WideKeyRuns
import Derived.Laws.CopyRow
import Derived.Laws.Tables
namespace Go.Proofs.YtmbfflckgmdncaaDoor.Fw
open Go Go.RowKit
set_option linter.unusedVariables false
set_option linter.unusedSimpArgs false

theorem over_eq : ∀ (l : List AVal) (o : Nat) (vs : List AVal) (k : List AVal → Prop), over l o vs k → o + vs.length ≤ l.length ∧ k (l.take o ++ vs ++ l.drop (o + vs.length))
  | l, 0, [], k, h => by cases l <;> simpa [over] using h
  | x :: l, 0, v :: vs, k, h => by
    simp only [over] at h
    obtain ⟨h1, h2⟩ := over_eq l 0 vs _ h
    exact ⟨by simp; omega, by simpa using h2⟩
  | x :: l, o + 1, vs, k, h => by
    simp only [over] at h
    obtain ⟨h1, h2⟩ := over_eq l o vs _ h
    refine ⟨by simp; omega, ?_⟩
    have : (x :: l).take (o + 1) ++ vs ++ (x :: l).drop (o + 1 + vs.length) = x :: (l.take o ++ vs ++ l.drop (o + vs.length)) := by
      rw [show o + 1 + vs.length = (o + vs.length) + 1 by omega]; simp
    rw [this]; exact h2
  | [], 0, v :: vs, k, h => by simp [over] at h
  | [], o + 1, vs, k, h => by cases vs <;> simp [over] at h

/-- writing cell by cell is writing a stretch -/
theorem fold_set (vs : List Value) : ∀ (cs : Array Value) (off m : Nat), off + m + vs.length ≤ cs.size →
    ((vs.zipIdx m).foldl (fun cs (c : Value × Nat) => cs.setIfInBounds (off + c.2) c.1) cs).toList = cs.toList.take (off + m) ++ vs ++ cs.toList.drop (off + m + vs.length) := by
  induction vs with
  | nil => intro cs off m _; simp
  | cons v vs ih =>
    intro cs off m h
    simp only [List.length_cons] at h
    rw [List.zipIdx_cons, List.foldl_cons, ih _ _ _ (by simp; omega)]
    simp only [Array.toList_setIfInBounds]
    have h1 : (cs.toList.set (off + m) v).take (off + (m + 1)) = cs.toList.take (off + m) ++ [v] := by
      rw [show off + (m + 1) = (off + m) + 1 by omega, List.take_add_one, List.take_set, List.getElem?_set_self (by simp; omega)]
      rw [List.set_eq_of_length_le (by simp; omega)]
      simp
    rw [h1, List.drop_set_of_lt (by omega)]
    simp [show off + (m + 1) + vs.length = off + m + (vs.length + 1) by omega]

def szT (T : TypeId → Option TInfo) (t : TypeId) : Nat := match T t with | some i => i.size | none => 0

theorem mapM_places {P : Program} {T : TypeId → Option TInfo} (hT : TOk P T) (w : World) : ∀ (fs : List Field), knownF T fs = true →
    (fs.mapM fun f => do pure (f.offset, ← sizeOf f.type) : Sem (List (Nat × Nat))).run P w = .ok (fs.map fun f => (f.offset, szT T f.type)) w
  | [], _ => by simp
  | f :: fs, h => by
    simp only [knownF] at h
    split at h
    · rename_i ti ht
      have hr := mapM_places hT w fs h
      simp only [List.mapM_cons, Sem.run_bind, run_size (hT _ _ ht), Result.andThen_ok, Sem.run_pure, hr, List.map_cons, szT, ht]
    · cases h

theorem parts_sound {P : Program} {T : TypeId → Option TInfo} (hT : TOk P T) {fr : List AVal} {fs : List Field} {pl : Nat → Option (Nat × Nat)}
    (hpl : ∀ (i : Nat) (f : Field) (ti : TInfo), fs[i]? = some f → T f.type = some ti → pl i = some (f.offset, ti.size)) :
    ∀ (ps : List (Nat × Operand)) (cs : List AVal) (k : List AVal → Prop), parts T fr fs ps cs k →
      ∃ cs', k cs' ∧ ∀ (A : Asg) (ρ : Operand → Value), (∀ p ∈ ps, ∀ v, ev fr p.2 = some v → ρ p.2 = v.den A) →
        Instr.fill pl (dens A cs).toArray (ps.map fun p => (p.1, ρ p.2)) = some (dens A cs').toArray
  | [], cs, k, h => ⟨cs, h, fun A ρ _ => rfl⟩
  | (i, x) :: ps, cs, k, h => by
    simp only [parts] at h
    rw [nth_eq] at h
    cases hf : fs[i]? with
    | none => simp [hf] at h
    | some f =>
      simp only [hf] at h
      obtain ⟨v, hv, h⟩ := with1_eq h
      obtain ⟨vs, h, hvs⟩ := cellsA_eq h
      cases ht : T f.type with
      | none => simp [ht] at h
      | some ti =>
        simp only [ht] at h
        split at h
        · rename_i hb
          have hb := Nat.eq_of_beq_eq_true hb
          rw [lenN_eq] at hb
          obtain ⟨hle, h⟩ := over_eq _ _ _ _ h
          obtain ⟨cs', hk, hc⟩ := parts_sound hT hpl ps _ _ h
          refine ⟨cs', hk, fun A ρ hρ => ?_⟩
          rw [← hc A ρ (fun p hp => hρ p (by simp [hp]))]
          simp only [List.map_cons, Instr.fill, hpl i f ti hf ht]
          have hvx : (ρ x).cells = (dens A vs).toArray := by rw [hρ (i, x) (by simp) v hv]; exact hvs A
          have hl : (dens A vs).length = vs.length := by rw [dens_eq]; simp
          have hl' : (dens A cs).length = cs.length := by rw [dens_eq]; simp
          rw [hvx]
          have hc1 : ¬ ((dens A vs).toArray.size ≠ ti.size ∨ f.offset + (dens A vs).toArray.size > (dens A cs).toArray.size) := by
            simp [hl, hl']; omega
          simp only [ne_eq, Bool.or_eq_true, decide_eq_true_eq, hc1, if_false]
          congr 1
          apply Array.ext'
          have := fold_set (dens A vs) (dens A cs).toArray f.offset 0 (by simp [hl, hl']; omega)
          simp only [← Array.foldl_toList, Array.toList_zipIdx]
          rw [this]
          simp only [dens_eq, List.map_append, List.map_take, List.map_drop, List.length_map, Nat.add_zero]
        · exact h.elim

section
variable {E : Env} {T : TypeId → Option TInfo} {G : List (FuncId × Ctr)} {hg : Nat → Option (List AVal)} {rg : Nat → Option Row} {lb lr : Nat} {fr : List AVal} {o : Oper} {k : Eff → Prop}
variable {dst : Option Tmp} {ty : TypeId} {pos : String} {after : Array Edge} {guard : Option (Nat × Bool)}

theorem build_good (hT : TOk E.P T) {t : TypeId} {ps : Array (Nat × Operand)} {i : TInfo} {fs : Array Field} (ht : T t = some i) (hd : i.desc = .struct fs) (hkn : knownF T fs.toList = true)
    (h : parts T fr fs.toList ps.toList i.zero fun cs => k (val (.agg cs))) : Good E hg rg lb lr fr ⟨dst, .build t ps, ty, pos, after, guard⟩ k := by
  obtain ⟨cs, hk, hcs⟩ := parts_sound hT (pl := fun (i : Nat) => (fs.toList.map fun f => (f.offset, szT T f.type))[i]?) (fun i f ti hf htf => by simp only [List.getElem?_map, hf, Option.map_some, szT, htf]) ps.toList i.zero _ h
  refine good_val hk fun A hp rw w ρ hm h1 h2 h3 => ?_
  have hr := mapM_places hT w fs.toList hkn
  obtain ⟨z, hz, hzc⟩ := run_zero (hT _ _ ht) w
  have hfl : ∀ c ∈ i.zero, c.flat = true := List.all_eq_true.1 (hT _ _ ht).flat
  have hund := (hT _ _ ht).und
  rw [hd] at hund
  have hfill := hcs A ρ (fun p hp v hv => h3 p.2 (by simp only [Op.operands]; simp; exact ⟨p.1, by simpa using hp⟩) v hv)
  have hr' : ((fs.mapM fun f => do pure (f.offset, ← sizeOf f.type)) : Sem (Array (Nat × Nat))).run E.P w = .ok (fs.toList.map fun f => (f.offset, szT T f.type)).toArray w := by
    rw [Array.mapM_eq_mapM_toList, Sem.run_map, hr]
    rfl
  simp only [execOp]
  refine wrapF _ _ _ _ ?_
  simp only [Instr.build, Sem.run_bind, hz, Result.andThen_ok, run_underlying hund, hr', hzc, dens_flat hfl A0 A]
  have hpm : (ps.map fun x => (x.1, ρ x.2)).toList = ps.toList.map fun p => (p.1, ρ p.2) := Array.toList_map
  have hfun : (fun x => (List.map (fun f => (f.offset, szT T f.type)) fs.toList).toArray[x]?) = fun (i : Nat) => (fs.toList.map fun f => (f.offset, szT T f.type))[i]? := by funext i; simp
  rw [hpm, hfun, hfill]
  rfl

theorem elems_sound {c : TyC} : ∀ (ps : List (Nat × Operand)) (m : Nat) (k : List c.α → Prop), elems fr c.dec m ps k →
    ∃ xs, k xs ∧ xs.length = ps.length ∧ ∀ (A : Asg) (ρ : Operand → Value) (cs0 : Array Value), (∀ p ∈ ps, ∀ v, ev fr p.2 = some v → ρ p.2 = v.den A) → cs0.size = (m + ps.length) * c.sz →
      Instr.fill (fun i => some (i * c.sz, c.sz)) cs0 (ps.map fun p => (p.1, ρ p.2)) = some (cs0.toList.take (m * c.sz) ++ xs.flatMap fun x => dens A0 (c.enc x)).toArray
  | [], m, k, h => ⟨[], h, rfl, fun A ρ cs0 _ hs => by
    simp only [List.map_nil, Instr.fill, List.flatMap_nil, List.append_nil]
    rw [List.take_of_length_le (by simp [hs])]⟩
  | (i, x) :: ps, m, k, h => by
    simp only [elems] at h
    split at h
    · rename_i hb
      obtain rfl := Nat.eq_of_beq_eq_true hb
      obtain ⟨v, hv, h⟩ := with1_eq h
      obtain ⟨vs, h, hvs⟩ := cellsA_eq h
      split at h
      · rename_i y hy
        obtain ⟨xs, hk, hl, hx⟩ := elems_sound ps _ _ h
        refine ⟨y :: xs, hk, by simp [hl], fun A ρ cs0 hρ hs => ?_⟩
        have hvx : (ρ x).cells = (dens A vs).toArray := by rw [hρ (i, x) (by simp) v hv]; exact hvs A
        have henc := TyC.dec_enc hy
        have hd : dens A vs = dens A0 (c.enc y) := by rw [← henc]; exact dens_flat (fun v hv => TyC.flat c y v hv) _ _
        have hlen : (dens A0 (c.enc y)).length = c.sz := by rw [dens_eq]; simp [TyC.enc_len]
        rw [hd] at hvx
        simp only [List.length_cons] at hs
        have hsz : i * c.sz + c.sz ≤ cs0.size := by
          rw [hs, show (i + (ps.length + 1)) * c.sz = i * c.sz + c.sz + ps.length * c.sz by simp only [Nat.add_mul]; omega]
          omega
        simp only [List.map_cons, Instr.fill]
        rw [hvx]
        have hc1 : ¬ ((dens A0 (c.enc y)).toArray.size ≠ c.sz ∨ i * c.sz + (dens A0 (c.enc y)).toArray.size > cs0.size) := by simp [hlen]; omega
        simp only [ne_eq, Bool.or_eq_true, decide_eq_true_eq, hc1, if_false]
        have hf := fold_set (dens A0 (c.enc y)) cs0 (i * c.sz) 0 (by simp only [hlen]; omega)
        have harr : Array.foldl (fun cs (x : Value × Nat) => cs.setIfInBounds (i * c.sz + x.2) x.1) cs0 (dens A0 (c.enc y)).toArray.zipIdx = (cs0.toList.take (i * c.sz) ++ dens A0 (c.enc y) ++ cs0.toList.drop (i * c.sz + c.sz)).toArray := by
          apply Array.ext'
          simp only [← Array.foldl_toList, Array.toList_zipIdx]
          rw [hf]
          simp [hlen]
        rw [harr, hx A ρ _ (fun p hp => hρ p (by simp [hp])) (by
          simp only [List.size_toArray, List.length_append, List.length_take, List.length_drop, Array.length_toList, hlen]
          rw [hs, show (i + (ps.length + 1)) * c.sz = i * c.sz + c.sz + ps.length * c.sz by simp only [Nat.add_mul]; omega,
            show (i + 1 + ps.length) * c.sz = i * c.sz + c.sz + ps.length * c.sz by simp only [Nat.add_mul]; omega]
          omega)]
        congr 2
        have h1 : (cs0.toList.take (i * c.sz)).length = i * c.sz := by simp; omega
        rw [show (i + 1) * c.sz = i * c.sz + c.sz by rw [Nat.add_mul]; omega, List.take_append_of_le_length (by simp [hlen]; omega), List.take_of_length_le (by simp [hlen]; omega)]
        simp
      · exact h.elim
    · exact h.elim

theorem buildSlice_good (hT : TOk E.P T) {t e : TypeId} {n : Nat} {ps : Array (Nat × Operand)} {i ie : TInfo} {c : TyC} (ht : T t = some i) (hd : i.desc = .slice e) (he : T e = some ie) (hc : ie.ty = some c)
    (h : elems fr c.dec 0 ps.toList fun xs => (match Nat.beq (lenN xs) n with
      | true => n * ie.size ≤ 16777216 ∧ k ⟨none, [⟨c, e, true, xs⟩], .row lr⟩
      | false => False)) : Good E hg rg lb lr fr ⟨dst, .buildSlice t n ps, ty, pos, after, guard⟩ k := by
  obtain ⟨xs, h, hl, hx⟩ := elems_sound _ _ _ h
  split at h
  · rename_i hb
    have hb := Nat.eq_of_beq_eq_true hb
    rw [lenN_eq] at hb
    obtain ⟨h24, h⟩ := h
    have hsz : c.sz = ie.size := ((hT _ _ he).ty c hc).1
    refine ⟨_, h, fun A hp rw w ρ hcx h1 h2 h3 h4 h5 => ?_⟩
    have hund := (hT _ _ ht).und
    rw [hd] at hund
    obtain ⟨z, hz, hzc⟩ := run_zero (hT _ _ he) w
    have hfl : ∀ c ∈ ie.zero, c.flat = true := List.all_eq_true.1 (hT _ _ he).flat
    have hpm : (ps.map fun x => (x.1, ρ x.2)).toList = ps.toList.map fun p => (p.1, ρ p.2) := Array.toList_map
    have hfill : ∀ cs0 : Array Value, cs0.size = n * ie.size → Instr.fill (fun i => some (i * ie.size, ie.size)) cs0 (ps.map fun x => (x.1, ρ x.2)).toList = some ((xs.flatMap fun x => dens A0 (c.enc x))).toArray := fun cs0 h0 => by
      rw [hpm, ← hsz, hx A ρ cs0 (fun p hp v hv => h3 p.2 (by simp only [Op.operands]; simp; exact ⟨p.1, by simpa using hp⟩) v hv) (by rw [h0, ← hb, hl, hsz]; simp)]
      simp
    have hown := World.ownsRow_lit (base := 0) (e := e) (size := c.sz) w (xs.flatMap fun x => dens A0 (c.enc x)).toArray n (Nat.zero_le _) (by
      have := TyC.pos c
      have : n * 1 ≤ n * c.sz := Nat.mul_le_mul_left _ this
      simp [maxLen]; rw [hsz] at this; omega) (by
      simp only [List.size_toArray]
      rw [flatMap_length _ c.sz (fun x => by rw [dens_eq]; simp [TyC.enc_len]), hb])
    have hrun : (execOp ρ ⟨dst, .buildSlice t n ps, ty, pos, after, guard⟩).run E.P w = .ok (.value (.slice (some ⟨w.heap.size, 0, none⟩) n n)) (w.alloc (.cells (xs.flatMap fun x => dens A0 (c.enc x)).toArray e)) := by
      simp only [execOp]
      refine wrapF _ _ _ _ ?_
      have hlim : ¬ n * ie.size > 2 ^ 24 := by omega
      simp only [Instr.buildSlice, Sem.run_bind, run_underlying hund, Result.andThen_ok, run_size (hT _ _ he), hlim, if_false]
      by_cases h0 : n * ie.size = 0
      · simp only [h0, if_true]
        simp only [Sem.run_bind, Sem.run_pure, Result.andThen_ok]
        rw [hfill _ (by simp [h0])]
        rfl
      · simp only [h0, if_false]
        simp only [Sem.run_bind, hz, Sem.run_pure, Result.andThen_ok]
        rw [hfill _ (by simp)]
        rfl
    rw [hrun]
    have hcl : c.isL = false := ((hT _ _ he).ty c hc).2.2
    have hro : RowOwn (w.alloc (.cells (xs.flatMap fun x => dens A0 (c.enc x)).toArray e)) ⟨some ⟨w.heap.size, 0, none⟩, n, n⟩ ⟨c, e, true, xs⟩ := by
      unfold RowOwn Row.cells
      simp only [Hdr.val]
      rw [hb]
      exact hown
    exact post_row (ih := fun _ => ⟨none, 0, 0⟩) hcx ((Blw.refl _ _).alloc (Nat.le_refl _) _) rfl (hro.rows hcl) (fun b hb' => by
      obtain ⟨_, a, ha, rfl⟩ := Feet.flat hb' hcl
      cases ha; exact Nat.le_refl _)
  · exact h.elim

theorem elemsB_sound : ∀ (ps : List (Nat × Operand)) (m : Nat) (k : List AVal → Prop), elemsB fr m ps k →
    ∃ cs, k cs ∧ cs.length = ps.length ∧ ∀ (A : Asg) (ρ : Operand → Value) (cs0 : Array Value), (∀ p ∈ ps, ∀ v, ev fr p.2 = some v → ρ p.2 = v.den A) → cs0.size = m + ps.length →
      Instr.fill (fun i => some (i * 1, 1)) cs0 (ps.map fun p => (p.1, ρ p.2)) = some (cs0.toList.take m ++ dens A cs).toArray
  | [], m, k, h => ⟨[], h, rfl, fun A ρ cs0 _ hs => by
    simp only [List.map_nil, Instr.fill, dens, List.append_nil]
    rw [List.take_of_length_le (by simp at hs; simp [hs])]⟩
  | (i, x) :: ps, m, k, h => by
    simp only [elemsB] at h
    split at h
    · rename_i hb
      obtain rfl := Nat.eq_of_beq_eq_true hb
      obtain ⟨v, hv, h⟩ := with1_eq h
      have key : ∀ u : AVal, v = u → (∀ A, (u.den A).cells = #[u.den A]) → elemsB fr (i + 1) ps (fun vs => k (u :: vs)) →
          ∃ cs, k cs ∧ cs.length = ((i, x) :: ps).length ∧ ∀ (A : Asg) (ρ : Operand → Value) (cs0 : Array Value), (∀ p ∈ ((i, x) :: ps), ∀ v, ev fr p.2 = some v → ρ p.2 = v.den A) → cs0.size = i + ((i, x) :: ps).length →
            Instr.fill (fun i => some (i * 1, 1)) cs0 (((i, x) :: ps).map fun p => (p.1, ρ p.2)) = some (cs0.toList.take i ++ dens A cs).toArray := by
        rintro u rfl hcell h
        obtain ⟨cs, hk, hl, hx⟩ := elemsB_sound ps _ _ h
        refine ⟨v :: cs, hk, by simp [hl], fun A ρ cs0 hρ hs => ?_⟩
        have hvx : (ρ x).cells = #[v.den A] := by rw [hρ (i, x) (by simp) v hv]; exact hcell A
        simp only [List.length_cons] at hs
        simp only [List.map_cons, Instr.fill, hvx, Nat.mul_one]
        have hs1 : (#[v.den A] : Array Value).size = 1 := rfl
        have hgt : ¬ (i + 1 > cs0.size) := by omega
        simp only [hs1, bne_self_eq_false, Bool.false_or, decide_eq_true_eq, hgt, if_false]
        have harr : Array.foldl (fun cs (x : Value × Nat) => cs.setIfInBounds (i + x.2) x.1) cs0 (#[v.den A] : Array Value).zipIdx = cs0.setIfInBounds i (v.den A) := by
          simp [Array.zipIdx]
        rw [harr]
        have := hx A ρ (cs0.setIfInBounds i (v.den A)) (fun p hp => hρ p (by simp [hp])) (by simp; omega)
        simp only [Nat.mul_one] at this
        rw [this]
        congr 2
        simp only [dens, Array.toList_setIfInBounds]
        rw [List.take_succ_eq_append_getElem (by simp; omega), List.getElem_set_self, List.take_set, List.set_eq_of_length_le (by simp; omega), List.append_assoc]
        rfl
      split at h
      · exact key _ rfl (fun A => by simp [AVal.den, Value.cells, Hdr.val]) h
      · exact key _ rfl (fun A => by simp [AVal.den, Value.cells, Hdr.val]) h
      · exact key _ rfl (fun A => by simp [AVal.den, Value.cells]) h
      · exact key _ rfl (fun A => by simp [AVal.den, Value.cells]) h
      · exact h.elim
    · exact h.elim

theorem post_bsl {cs : List AVal} {A : Asg} {hp : Nat → Option (List AVal)} {rw_ : Nat → Option Row} {w : World} {t : TypeId} {n : Nat} (hmo : mapOf cs = none) (h : Ctx E A hp rw_ lb true lr 0 w) (hcs : ∀ B, Agr lb true lr 0 A B → dens B cs = dens A cs) :
    Post E A hp rw_ lb lr w ⟨some cs, [], .bsl lb n⟩ (.slice (some ⟨w.heap.size, 0, none⟩) n n) (w.alloc (.cells (dens A cs).toArray t)) := by
  obtain ⟨B, h1, h2, h3, h4⟩ := (post_box (t := t) hmo h hcs).out
  refine ⟨B, h1, ?_, h3, h4⟩
  simp only [AVal.den, Value.pointer.injEq, Option.some.injEq, Addr.mk.injEq, and_true] at h2
  simp only [AVal.den]
  rw [← h2]

theorem buildSliceB_good (hT : TOk E.P T) {t e : TypeId} {n : Nat} {ps : Array (Nat × Operand)} {i ie : TInfo} (ht : T t = some i) (hd : i.desc = .slice e) (he : T e = some ie) (h1s : ie.size = 1)
    (h : elemsB fr 0 ps.toList fun cs => (match Nat.beq (lenN cs) n with
      | true => (match mapOf cs with | none => n * 1 ≤ 16777216 ∧ k ⟨some cs, [], .bsl lb n⟩ | some _ => False)
      | false => False)) : Good E hg rg lb lr fr ⟨dst, .buildSlice t n ps, ty, pos, after, guard⟩ k := by
  obtain ⟨cs, h, hl, hx⟩ := elemsB_sound _ _ _ h
  split at h
  · rename_i hb
    have hb := Nat.eq_of_beq_eq_true hb
    rw [lenN_eq] at hb
    split at h
    case h_2 => exact h.elim
    rename_i hmo
    obtain ⟨h24, h⟩ := h
    refine ⟨_, h, fun A hp rw w ρ hcx h1 h2 h3 h4 h5 => ?_⟩
    have hund := (hT _ _ ht).und
    rw [hd] at hund
    obtain ⟨z, hz, hzc⟩ := run_zero (hT _ _ he) w
    have hzl := (hT _ _ he).zlen
    have hpm : (ps.map fun x => (x.1, ρ x.2)).toList = ps.toList.map fun p => (p.1, ρ p.2) := Array.toList_map
    have hfill : ∀ cs0 : Array Value, cs0.size = n → Instr.fill (fun i => some (i * 1, 1)) cs0 (ps.map fun x => (x.1, ρ x.2)).toList = some (dens A cs).toArray := fun cs0 h0 => by
      rw [hpm, hx A ρ cs0 (fun p hp v hv => h3 p.2 (by simp only [Op.operands]; simp; exact ⟨p.1, by simpa using hp⟩) v hv) (by rw [h0, ← hb, hl]; simp)]
      simp
    have hrun : (execOp ρ ⟨dst, .buildSlice t n ps, ty, pos, after, guard⟩).run E.P w = .ok (.value (.slice (some ⟨w.heap.size, 0, none⟩) n n)) (w.alloc (.cells (dens A cs).toArray e)) := by
      simp only [execOp]
      refine wrapF _ _ _ _ ?_
      have hlim : ¬ n * 1 > 2 ^ 24 := by omega
      simp only [Instr.buildSlice, Sem.run_bind, run_underlying hund, Result.andThen_ok, run_size (hT _ _ he), h1s, hlim, if_false]
      by_cases h0 : n * 1 = 0
      · simp only [h0, if_true]
        simp only [Sem.run_bind, Sem.run_pure, Result.andThen_ok]
        rw [hfill _ (by simp; omega)]
        rfl
      · simp only [h0, if_false]
        simp only [Sem.run_bind, hz, Sem.run_pure, Result.andThen_ok]
        rw [hfill _ (by simp)]
        rfl
    rw [hrun]
    exact post_bsl hmo hcx (fun B hB => h4 rfl B hB cs rfl)
  · exact h.elim

end
end Go.Proofs.YtmbfflckgmdncaaDoor.Fw

/- All operations that are taken by themselves, together. -/
namespace Go.Proofs.YtmbfflckgmdncaaDoor.Fw
open Go Go.RowKit
set_option linter.unusedVariables false
set_option linter.unusedSimpArgs false

section
variable {E : Env} {T : TypeId → Option TInfo} {G : List (FuncId × Ctr)} {hg : Nat → Option (List AVal)} {rg : Nat → Option Row} {lb lr : Nat} {fr : List AVal} {o : Oper} {k : Eff → Prop}
variable {dst : Option Tmp} {ty : TypeId} {pos : String} {after : Array Edge} {guard : Option (Nat × Bool)}

theorem bound_ok (P : Program) (w : World) (kd : IntKind) (n : Int) (y : Nat) (code : BoundsCode) (h : 0 ≤ n ∧ n ≤ (y : Int)) : (Instr.sliceBound (.int kd n) y code).run P w = .ok n.toNat w := by
  simp only [Instr.sliceBound, asIntOf, Sem.run_bind, Sem.run_pure, Result.andThen_ok, Sem.run_ite, h, and_self, if_true]

/-- the bounds of a slice expression on a string -/
def boundsA (lo hi : Option Int) (len : Nat) : Option (Nat × Nat) :=
  match lo, hi with
  | none, none => some (0, len)
  | some l, none => some (l.toNat, len)
  | none, some h => some (0, h.toNat)
  | some l, some h => some (l.toNat, h.toNat)

theorem slice_good (hT : TOk E.P T) {t : TypeId} {x : Operand} {lo hi : Option Operand} {s : ByteArray} {ti : TInfo} (hx : ev fr x = some (.str s)) (ht : T t = some ti) (hd : ti.desc = .string)
    (a b : Nat) (hk : k (val (.str (s.extract a b))))
    (hb : ∀ (ρ : Operand → Value), (∀ y, lo = some y → ∀ v, ev fr y = some v → ρ y = v.den A0) → (∀ y, hi = some y → ∀ v, ev fr y = some v → ρ y = v.den A0) →
      ∀ P w, (Instr.sliceBounds false s.size s.size (lo.map ρ) (hi.map ρ) none).run P w = .ok (a, b, s.size) w)
    (hfl : (∀ y, lo = some y → ∃ kd n, ev fr y = some (.int kd n)) ∧ (∀ y, hi = some y → ∃ kd n, ev fr y = some (.int kd n))) :
    Good E hg rg lb lr fr ⟨dst, .slice t x lo hi none, ty, pos, after, guard⟩ k := by
  refine good_val hk fun A hp rw w ρ hm h1 h2 h3 => ?_
  have hund := (hT _ _ ht).und
  rw [hd] at hund
  have hbb := hb ρ (fun y hy v hv => by
    obtain ⟨kd, n, hn⟩ := hfl.1 y hy
    rw [hn] at hv; cases hv
    rw [h3 y (by simp [Op.operands, hy]) _ hn]; rfl) (fun y hy v hv => by
    obtain ⟨kd, n, hn⟩ := hfl.2 y hy
    rw [hn] at hv; cases hv
    rw [h3 y (by simp [Op.operands, hy]) _ hn]; rfl) E.P w
  simp only [execOp]
  refine wrapF _ _ _ _ ?_
  rw [h3 x (by simp [Op.operands]) _ hx]
  simp only [AVal.den, Option.map_none, Instr.sliceAt, Sem.run_bind, run_underlying hund, Result.andThen_ok, Instr.slice, Option.isSome_none, Bool.false_eq_true, if_false, hbb, Sem.run_pure]

theorem boundsK_eq {fr : List AVal} {n m : Nat} {lo hi : Option Operand} {k : Nat → Nat → Prop} (hnm : n ≤ m) (h : boundsK fr n m lo hi k) :
    ∃ a b, k a b ∧ (a ≤ b ∧ b ≤ m) ∧ ∀ (A : Asg) (ρ : Operand → Value), (∀ y, (lo = some y ∨ hi = some y) → ∀ v, ev fr y = some v → ρ y = v.den A) →
      ∀ P w cap, m ≤ cap → (Instr.sliceBounds true n cap (lo.map ρ) (hi.map ρ) none).run P w = .ok (a, b, cap) w := by
  unfold boundsK at h
  split at h
  · exact ⟨0, n, h, ⟨Nat.zero_le _, hnm⟩, fun A ρ _ P w cap hcap => by simp [Instr.sliceBounds]⟩
  · rename_i lo
    replace h := with1_eq h; obtain ⟨l, hl, h⟩ := h
    split at h
    · rename_i kd l
      refine ⟨l.toNat, n, h.2, ⟨by omega, hnm⟩, fun A ρ h1 P w cap hcap => ?_⟩
      have e1 := h1 lo (.inl rfl) _ hl
      simp only [AVal.den] at e1
      simp [Instr.sliceBounds, e1, bound_ok P w kd l n .sliceB h.1]
    · exact h.elim
  · rename_i hi
    replace h := with1_eq h; obtain ⟨l, hl, h⟩ := h
    split at h
    · rename_i kd l
      refine ⟨0, l.toNat, h.2, ⟨Nat.zero_le _, by omega⟩, fun A ρ h1 P w cap hcap => ?_⟩
      have e1 := h1 hi (.inr rfl) _ hl
      simp only [AVal.den] at e1
      simp [Instr.sliceBounds, e1, bound_ok P w kd l cap .sliceAcap ⟨h.1.1, by omega⟩]
    · exact h.elim
  · rename_i lo hi
    replace h := with1_eq h; obtain ⟨l, hl, h⟩ := h
    replace h := with1_eq h; obtain ⟨g, hg', h⟩ := h
    split at h
    · rename_i kd l kd' g
      obtain ⟨⟨c1, c2, c3⟩, h⟩ := h
      refine ⟨l.toNat, g.toNat, h, ⟨by omega, by omega⟩, fun A ρ h1 P w cap hcap => ?_⟩
      have e1 := h1 lo (.inl rfl) _ hl
      have e2 := h1 hi (.inr rfl) _ hg'
      simp only [AVal.den] at e1 e2
      simp [Instr.sliceBounds, e1, e2, bound_ok P w kd' g cap .sliceAcap ⟨by omega, by omega⟩, bound_ok P w kd l g.toNat .sliceB ⟨c1, by omega⟩]
    · exact h.elim

/-- A part of a slice reads as a part of its row. -/
theorem RowAt.view {w : World} {h : Hdr} {c : TyC} {e : TypeId} {own : Bool} {xs : List c.α} (hat : RowAt w h ⟨c, e, own, xs⟩) (lo n : Nat) (hn : lo + n ≤ xs.length) : RowAt w (h.view lo n c.sz) ⟨c, e, false, (xs.drop lo).take n⟩ := by
  have hlen : h.len = xs.length := hat.len
  have hcap := hat.cap
  have hmax := hat.max
  refine ⟨by show n = ((xs.drop lo).take n).length; simp; omega, ?_, ?_, fun i y hi => ?_⟩
  · show n ≤ h.cap - lo; omega
  · show h.cap - lo ≤ maxLen; omega
  · have hi : ((xs.drop lo).take n)[i]? = some y := hi
    rw [List.getElem?_take] at hi
    split at hi
    · rename_i hin
      rw [List.getElem?_drop] at hi
      obtain ⟨a0, ha0, hcell⟩ := hat.cell (lo + i) y hi
      refine ⟨a0.add (lo * c.sz), ?_, fun j cv hj => ?_⟩
      · have : h.cap ≠ lo := by omega
        show (if h.cap = lo then h.a else h.a.map (·.add (lo * c.sz))) = _
        rw [if_neg this, ha0]; rfl
      · rw [add_add, show lo * c.sz + (i * c.sz + j) = (lo + i) * c.sz + j by rw [Nat.add_mul]; omega]
        exact hcell j cv hj
    · cases hi
theorem Foot.view {h : Hdr} {c : TyC} {e e2 : TypeId} {own : Bool} {xs : List c.α} {lo n b : Nat} (hf : Foot ⟨c, e2, false, (xs.drop lo).take n⟩ (h.view lo n c.sz) b) : Foot ⟨c, e, own, xs⟩ h b := by
  obtain ⟨h5, a', ha', hbk⟩ := hf
  have h6 : (xs.drop lo).take n ≠ [] := by rcases h5 with h5 | h5; cases h5; exact h5
  refine ⟨.inr fun h7 => h6 (by have h7 : xs = [] := h7; rw [h7]; simp), ?_⟩
  have ha' : (if h.cap = lo then h.a else h.a.map (·.add (lo * c.sz))) = some a' := ha'
  split at ha'
  · exact ⟨a', ha', hbk⟩
  · simp only [Option.map_eq_some_iff] at ha'
    obtain ⟨a0, ha0, rfl⟩ := ha'
    exact ⟨a0, ha0, by rw [← hbk, add_block]⟩

/-- The machine slices a slice. -/
theorem slice_run {P : Program} {T : TypeId → Option TInfo} (hT : TOk P T) {t e' : TypeId} {ti ei : TInfo} (ht : T t = some ti) (hd : ti.desc = .slice e') (he : T e' = some ei) (w : World) (h : Hdr) (l hi : Option Value) (a b : Nat)
    (hb : (Instr.sliceBounds true h.len h.cap l hi none).run P w = .ok (a, b, h.cap) w) : (Instr.sliceAt t h.val l hi none).run P w = .ok (h.view a (b - a) ei.size).val w := by
  have hund := (hT _ _ ht).und
  rw [hd] at hund
  simp only [Hdr.val, Instr.sliceAt, Sem.run_bind, run_underlying hund, Result.andThen_ok, Instr.slice, hb, run_size (hT _ _ he), Sem.run_pure, Hdr.view]

/-- A part of a row that is only read. -/
theorem rowSlice_good (hT : TOk E.P T) {t e' : TypeId} {x : Operand} {lo hi : Option Operand} {r : Nat} {c : TyC} {e : TypeId} {xs : List c.α} {ti ei : TInfo} (hx : ev fr x = some (.row r)) (hr : rg r = some ⟨c, e, false, xs⟩) (hcl : c.isL = false)
    (ht : T t = some ti) (hd : ti.desc = .slice e') (he : T e' = some ei) (hsz : ei.size = c.sz)
    (h : boundsK fr xs.length xs.length lo hi fun l h => k ⟨none, [⟨c, e, false, (xs.take h).drop l⟩], .row lr⟩) :
    Good E hg rg lb lr fr ⟨dst, .slice t x lo hi none, ty, pos, after, guard⟩ k := by
  obtain ⟨a, b, hk, hab, hbb⟩ := boundsK_eq (Nat.le_refl _) h
  refine ⟨_, hk, fun A hp rw w ρ hc h1 h2 h3 h4 h5 => ?_⟩
  have hrow := h2 _ _ hr
  obtain ⟨hat', _⟩ := hc.mem.row _ _ hrow
  have hat := hat'.flat hcl
  have hlen : (A.rw r).len = xs.length := hat.len
  have hcap : xs.length ≤ (A.rw r).cap := by rw [← hlen]; exact hat.cap
  have hbb := hbb A ρ (fun y hy v hv => h3 y (by rcases hy with hy | hy <;> simp [Op.operands, hy]) v hv) E.P w (A.rw r).cap hcap
  rw [← hlen] at hbb
  have hrun : (execOp ρ ⟨dst, .slice t x lo hi none, ty, pos, after, guard⟩).run E.P w = .ok (.value ((A.rw r).view a (b - a) ei.size).val) w := by
    simp only [execOp]
    refine wrapF _ _ _ _ ?_
    rw [h3 x (by simp [Op.operands]) _ hx]
    simp only [AVal.den, Option.map_none]
    exact slice_run hT ht hd he w _ _ _ a b hbb
  rw [hrun, hsz]
  have hxs : (xs.take b).drop a = (xs.drop a).take (b - a) := by rw [List.drop_take]
  have hv := hat.view a (b - a) (by omega)
  rw [← hxs] at hv
  have hfoot : ∀ bk, Feet ⟨c, e, false, (xs.take b).drop a⟩ ((A.rw r).view a (b - a) c.sz) (fun _ => ⟨none, 0, 0⟩) bk → Feet ⟨c, e, false, xs⟩ (A.rw r) (A.inn r) bk := fun bk hf => by
    have hf := Feet.flat hf hcl
    rw [hxs] at hf
    exact Foot.feet (Foot.view hf) hcl
  have hag : Agr lb false lr 1 A (A.setRw lr ((A.rw r).view a (b - a) c.sz) (fun _ => ⟨none, 0, 0⟩)) := ⟨fun i _ => rfl, fun q hq => ⟨(upd_ne _ _ _ (by omega)).symm, (upd_ne _ _ _ (by omega)).symm⟩⟩
  have hm := hc.mem.addRow lr ((A.rw r).view a (b - a) c.sz) (fun _ => ⟨none, 0, 0⟩) ⟨c, e, false, (xs.take b).drop a⟩ (hc.fr lr (Nat.le_refl _) (by simp)) hc.n0 (hc.stb _ hag) (hv.rows hcl) (fun h => by cases h)
    (fun i ci bk h0 hi hf => hc.mem.br i ci r _ bk h0 hi hrow (hfoot bk hf))
    (fun k' r' bk hk' ho hf hf' => by
      rcases ho with ho | ho
      · cases ho
      · exact hc.mem.rr k' r r' _ bk hk' hrow (fun hkr => by subst hkr; rw [hrow] at hk'; cases hk'; cases ho) ho hf' (hfoot bk hf))
  refine ⟨⟨_, hag, ?_, ?_, Nat.le_refl _⟩⟩
  · simp [AVal.den, Asg.setRw, upd_same]
  · have hu : updL rw lr [(⟨c, e, false, (xs.take b).drop a⟩ : Row)] = upd rw lr (some ⟨c, e, false, (xs.take b).drop a⟩) := by
      funext i
      unfold updL upd
      by_cases hi : i = lr
      · subst hi; simp
      · rw [if_neg (by simp; omega), if_neg hi]
    simp only [updO_none, hu]
    exact hm

/-- A part of a row of the walk's own, by name. -/
theorem ownSlice_good (hT : TOk E.P T) {t e' : TypeId} {x : Operand} {lo hi : Option Operand} {r : Nat} {c : TyC} {e : TypeId} {own : Bool} {xs : List c.α} {ti ei : TInfo} (hx : ev fr x = some (.row r)) (hr : rg r = some ⟨c, e, own, xs⟩)
    (ht : T t = some ti) (hd : ti.desc = .slice e') (he : T e' = some ei)
    (h : boundsK fr xs.length xs.length lo hi fun l h => k (val (.vw r l (h - l) ei.size))) :
    Good E hg rg lb lr fr ⟨dst, .slice t x lo hi none, ty, pos, after, guard⟩ k := by
  obtain ⟨a, b, hk, hab, hbb⟩ := boundsK_eq (Nat.le_refl _) h
  refine good_val hk fun A hp rw w ρ hm h1 h2 h3 => ?_
  obtain ⟨hat, _⟩ := hm.row _ _ (h2 _ _ hr)
  have hlen : (A.rw r).len = xs.length := hat.len
  have hcap : xs.length ≤ (A.rw r).cap := by rw [← hlen]; exact hat.cap
  have hbb := hbb A ρ (fun y hy v hv => h3 y (by rcases hy with hy | hy <;> simp [Op.operands, hy]) v hv) E.P w (A.rw r).cap hcap
  rw [← hlen] at hbb
  simp only [execOp]
  refine wrapF _ _ _ _ ?_
  rw [h3 x (by simp [Op.operands]) _ hx]
  simp only [AVal.den, Option.map_none]
  exact slice_run hT ht hd he w _ _ _ a b hbb

theorem add_zero' (a : Addr) : a.add 0 = a := by unfold Addr.add; simp
theorem view_view (h : Hdr) (a n l m sz : Nat) (hc : l = 0 ∨ a = 0 ∨ a + l < h.cap) : (h.view a n sz).view l m sz = h.view (a + l) m sz := by
  unfold Hdr.view
  simp only [Hdr.mk.injEq, true_and]
  refine ⟨?_, by omega⟩
  rcases hc with rfl | rfl | hc
  · simp only [Nat.zero_mul, Nat.add_zero]
    split
    · rfl
    · split
      · cases h.a <;> simp [add_zero']
      · cases h.a <;> simp [add_zero']
  · simp only [Nat.zero_mul, Nat.zero_add, Nat.sub_zero]
    have e : (if h.cap = 0 then h.a else h.a.map (·.add 0)) = h.a := by
      split
      · rfl
      · cases h.a <;> simp [add_zero']
    rw [e]
  · rw [if_neg (by omega), if_neg (by omega), if_neg (by omega)]
    cases h.a with
    | none => rfl
    | some x => simp only [Option.map_some, add_add, Nat.add_mul]

/-- A part of a part of a row. -/
theorem vwSlice_good (hT : TOk E.P T) {t e' : TypeId} {x : Operand} {lo hi : Option Operand} {r a0 n0 : Nat} {c : TyC} {e : TypeId} {own : Bool} {xs : List c.α} {ti ei : TInfo} (hx : ev fr x = some (.vw r a0 n0 ei.size)) (hr : rg r = some ⟨c, e, own, xs⟩)
    (ht : T t = some ti) (hd : ti.desc = .slice e') (he : T e' = some ei) (hn : a0 + n0 ≤ xs.length)
    (h : boundsK fr n0 (xs.length - a0) lo hi fun l h => (l = 0 ∨ a0 = 0 ∨ a0 + l < xs.length) ∧ k (val (.vw r (a0 + l) (h - l) ei.size))) :
    Good E hg rg lb lr fr ⟨dst, .slice t x lo hi none, ty, pos, after, guard⟩ k := by
  obtain ⟨a, b, ⟨hla, hk⟩, hab, hbb⟩ := boundsK_eq (by omega) h
  refine good_val hk fun A hp rw w ρ hm h1 h2 h3 => ?_
  obtain ⟨hat, _⟩ := hm.row _ _ (h2 _ _ hr)
  have hlen : (A.rw r).len = xs.length := hat.len
  have hcap : xs.length ≤ (A.rw r).cap := by rw [← hlen]; exact hat.cap
  have hbb := hbb A ρ (fun y hy v hv => h3 y (by rcases hy with hy | hy <;> simp [Op.operands, hy]) v hv) E.P w ((A.rw r).cap - a0) (by omega)
  simp only [execOp]
  refine wrapF _ _ _ _ ?_
  rw [h3 x (by simp [Op.operands]) _ hx]
  simp only [AVal.den, Option.map_none]
  rw [slice_run hT ht hd he w ((A.rw r).view a0 n0 ei.size) _ _ a b hbb, view_view _ _ _ _ _ _ (by rcases hla with h | h | h; exact .inl h; exact .inr (.inl h); exact .inr (.inr (by omega)))]

theorem cycle_get {α : Type} (z : List α) : ∀ (n j : Nat), j < n * z.length → ((List.replicate n z).flatMap id)[j]? = z[j % z.length]?
  | 0, j, h => by simp at h
  | n + 1, j, h => by
    have ih := cycle_get z n (j - z.length)
    rw [List.replicate_succ, List.flatMap_cons]
    simp only [id]
    rcases Nat.lt_or_ge j z.length with h1 | h1
    · rw [List.getElem?_append_left h1, Nat.mod_eq_of_lt h1]
    · rw [List.getElem?_append_right h1, ih (by rw [Nat.add_mul] at h; omega), Nat.mod_eq_sub_mod h1]

theorem madeCells_eq (z : List Value) (n : Nat) (hz : 0 < z.length) : (madeCells z.toArray (n * z.length)).toList = (List.replicate n z).flatMap id := by
  apply List.ext_getElem?
  intro j
  have hl : ((List.replicate n z).flatMap id).length = n * z.length := by
    simp [List.length_flatMap]
  rcases Nat.lt_or_ge j (n * z.length) with h | h
  · rw [cycle_get z n j h]
    have hj : j % z.length < z.length := Nat.mod_lt _ hz
    simp only [madeCells, Array.getElem?_toList, Array.getElem?_map, Array.getElem?_range, h, if_true, Option.map_some, List.size_toArray]
    rw [List.getElem?_eq_getElem hj]
    simp [hj]
  · rw [List.getElem?_eq_none (by simp [madeCells]; exact h), List.getElem?_eq_none (by rw [hl]; exact h)]

theorem flatMap_rep {α β : Type} (f : α → List β) (x : α) : ∀ n, (List.replicate n (f x)).flatMap id = (List.replicate n x).flatMap f
  | 0 => rfl
  | n + 1 => by rw [List.replicate_succ, List.flatMap_cons, List.replicate_succ, List.flatMap_cons, flatMap_rep f x n]; rfl

theorem make_full {P : Program} (w : World) (base : Nat) (t e : TypeId) (i : TypeInfo) (z : Value) (size : Nat) (ht : P.underlying t = some (.slice e)) (hi : P.info? e = some i) (hz : i.zero = some z) (hsize : i.size = size)
    (kl kc : IntKind) (n : Nat) (hbytes : i.bytes * n ≤ 281474976710656) (h63 : n ≤ maxLen) (hbase : base ≤ w.heap.size) :
    ∃ w', (Instr.makeSlice t (.int kl (n : Int)) (.int kc (n : Int))).run P w = .ok (.slice (some ⟨w.heap.size, 0, none⟩) n n) w' ∧
      w'.ownsRow base e size (.slice (some ⟨w.heap.size, 0, none⟩) n n) n (madeCells z.cells (n * size)).toList ∧ w.grownBy w' none ∧ w.drawn ≤ w'.drawn := by
  subst hsize
  have h63' : (n : Int) ≤ 9223372036854775807 := by
    have h := h63
    simp [maxLen] at h
    omega
  have hb' : (i.bytes : Int) * (n : Int) ≤ 281474976710656 := by
    have h : ((i.bytes * n : Nat) : Int) ≤ 281474976710656 := by omega
    rwa [Int.natCast_mul] at h
  have hr := run_make (P := P) w t e i z ht hi hz kl kc n n (by omega) (Int.le_refl _) hb' h63'
  simp only [Int.toNat_natCast] at hr
  exact ⟨_, hr, World.ownsRow_lit w _ n hbase h63 (size_madeCells _ _), World.grownBy_alloc w _ none, Nat.le_refl _⟩

theorem makeSlice_good (hT : TOk E.P T) {t e : TypeId} {l c' : Operand} {kl kc : IntKind} {n m : Int} {i ie : TInfo} {c : TyC} (hl : ev fr l = some (.int kl n)) (hc' : ev fr c' = some (.int kc m)) (ht : T t = some i) (hd : i.desc = .slice e) (he : T e = some ie) (hc : ie.ty = some c)
    (h : (0 ≤ n ∧ m = n ∧ (ie.bytes : Int) * n ≤ 281474976710656 ∧ n ≤ 9223372036854775807) ∧ k ⟨none, [⟨c, e, true, List.replicate n.toNat c.dflt⟩], .row lr⟩) : Good E hg rg lb lr fr ⟨dst, .makeSlice t l c', ty, pos, after, guard⟩ k := by
  obtain ⟨⟨h0, rfl, hby, h63⟩, h⟩ := h
  obtain ⟨n, rfl⟩ := Int.eq_ofNat_of_zero_le h0
  refine ⟨_, h, fun A hp rw w ρ hcx h1 h2 h3 h4 h5 => ?_⟩
  have hund := (hT _ _ ht).und
  rw [hd] at hund
  obtain ⟨inf, z, hi, hsz, hbyt, hz, hzc⟩ := info_of (hT _ _ he)
  obtain ⟨hsz', henc, _⟩ := (hT _ _ he).ty c hc
  have h63' : n ≤ maxLen := by simp only [maxLen]; omega
  have hby' : inf.bytes * n ≤ 281474976710656 := by
    rw [hbyt]
    have : ((ie.bytes * n : Nat) : Int) ≤ 281474976710656 := by rw [Int.natCast_mul]; exact hby
    omega
  obtain ⟨w', hr, hown, hgr, hdr⟩ := make_full (P := E.P) w 0 t e inf z c.sz hund hi hz (by rw [hsz, hsz']) kl kc n hby' h63' (Nat.zero_le _)
  have hcells : (madeCells z.cells (n * c.sz)).toList = (List.replicate n c.dflt).flatMap fun x => dens A0 (c.enc x) := by
    have hl : (dens A0 (c.enc c.dflt)).length = c.sz := by rw [dens_eq, List.length_map, c.enc_len]
    rw [hzc, ← henc, ← hl, madeCells_eq _ _ (by rw [hl]; exact c.pos)]
    exact flatMap_rep (fun x => dens A0 (c.enc x)) c.dflt n
  have hrun : (execOp ρ ⟨dst, .makeSlice t l c', ty, pos, after, guard⟩).run E.P w = .ok (.value (.slice (some ⟨w.heap.size, 0, none⟩) n n)) w' := by
    simp only [execOp]
    refine wrapF _ _ _ _ ?_
    rw [h3 l (by simp [Op.operands]) _ hl, h3 c' (by simp [Op.operands]) _ hc']
    exact hr
  rw [hrun]
  have hcl : c.isL = false := ((hT _ _ he).ty c hc).2.2
  have hro : RowOwn w' ⟨some ⟨w.heap.size, 0, none⟩, n, n⟩ ⟨c, e, true, List.replicate (Int.ofNat n).toNat c.dflt⟩ := by
    unfold RowOwn Row.cells
    simp only [Hdr.val, Int.ofNat_eq_natCast, Int.toNat_natCast, List.length_replicate]
    rw [hcells] at hown
    exact hown
  exact post_row (ih := fun _ => ⟨none, 0, 0⟩) hcx ⟨⟨hgr.os, hgr.tape, hgr.output, hgr.size, fun q hq => hgr.block q hq (by simp)⟩, Dr.of hdr⟩ rfl (hro.rows hcl) (fun b hb' => by
    obtain ⟨_, a, ha, rfl⟩ := Feet.flat hb' hcl
    cases ha; exact Nat.le_refl _)

theorem cells_nils : ∀ n, (List.replicate n (⟨none, 0, 0⟩ : Hdr)).flatMap (fun x => dens A0 (TyC.sl.enc x)) = List.replicate n (Value.slice none 0 0)
  | 0 => rfl
  | n + 1 => by
    rw [List.replicate_succ, List.replicate_succ, ← cells_nils n]
    rfl
theorem own_nil (w : World) (c : TyC) (e : TypeId) : RowOwn w ⟨none, 0, 0⟩ ⟨c, e, true, []⟩ := ⟨by simp [Row.cells], .inl ⟨rfl, rfl⟩⟩

/-- An empty literal of slices: a row of rows. -/
theorem buildSlice0_good (hT : TOk E.P T) {t e e2 : TypeId} {ps : Array (Nat × Operand)} {i ie : TInfo} {c : TyC} (ht : T t = some i) (hd : i.desc = .slice e) (he : T e = some ie) (h1s : ie.size = 1) (hps : ps.toList = [])
    (h : k ⟨none, [⟨.lst c e2, e, true, @List.nil (List c.α)⟩], .row lr⟩) : Good E hg rg lb lr fr ⟨dst, .buildSlice t 0 ps, ty, pos, after, guard⟩ k := by
  obtain rfl : ps = #[] := by cases ps; simp at hps; simp [hps]
  refine ⟨_, h, fun A hp rw w ρ hcx h1 h2 h3 h4 h5 => ?_⟩
  have hund := (hT _ _ ht).und
  rw [hd] at hund
  have hrun : (execOp ρ ⟨dst, .buildSlice t 0 #[], ty, pos, after, guard⟩).run E.P w = .ok (.value (.slice (some ⟨w.heap.size, 0, none⟩) 0 0)) (w.alloc (.cells #[] e)) := by
    simp only [execOp]
    refine wrapF _ _ _ _ ?_
    have hlim : ¬ 0 * 1 > 2 ^ 24 := by decide
    simp only [Instr.buildSlice, Sem.run_bind, run_underlying hund, Result.andThen_ok, run_size (hT _ _ he), h1s, hlim, if_false]
    simp only [Nat.zero_mul, if_true]
    simp only [Sem.run_bind, Sem.run_pure, Result.andThen_ok]
    have e1 : ∀ z : Array Value, Array.map (fun x => z[x % z.size]!) (Array.range 0) = #[] := fun z => by simp
    have e2 : (Array.map (fun x : Nat × Operand => (x.1, ρ x.2)) #[]).toList = [] := by simp
    rw [e1, e2]
    simp only [Instr.fill]
    rfl
  rw [hrun]
  have hpl : (⟨.lst c e2, e, true, @List.nil (List c.α)⟩ : Row).parts ⟨some ⟨w.heap.size, 0, none⟩, 0, 0⟩ (fun _ => ⟨none, 0, 0⟩) =
      [(⟨some ⟨w.heap.size, 0, none⟩, 0, 0⟩, ⟨.sl, e, true, []⟩)] := rfl
  have hown := World.ownsRow_lit (base := 0) (e := e) (size := 1) w #[] 0 (Nat.zero_le _) (Nat.zero_le _) rfl
  have hro : RowOwn (w.alloc (.cells #[] e)) ⟨some ⟨w.heap.size, 0, none⟩, 0, 0⟩ ⟨.sl, e, true, []⟩ := hown
  refine post_row (hd := ⟨some ⟨w.heap.size, 0, none⟩, 0, 0⟩) (r := ⟨.lst c e2, e, true, @List.nil (List c.α)⟩) (ih := fun _ => ⟨none, 0, 0⟩) hcx ((Blw.refl _ _).alloc (Nat.le_refl _) _) rfl ⟨fun p hp => ?_, fun i j p q hi hj hij a b ha hb => ?_⟩ (fun b hb' => ?_)
  · rw [hpl] at hp
    rw [List.mem_singleton.1 hp]
    exact hro
  · rw [hpl] at hi hj
    cases i with
    | zero => cases j with
      | zero => exact absurd rfl hij
      | succ j => simp at hj
    | succ i => simp at hi
  · obtain ⟨p, hp, hf⟩ := hb'
    rw [hpl] at hp
    rw [List.mem_singleton.1 hp] at hf
    obtain ⟨_, a, ha, rfl⟩ := hf
    cases ha
    exact Nat.le_refl _

/-- A row of rows, all empty. -/
theorem makeRows_good (hT : TOk E.P T) {t e e2 : TypeId} {l c' : Operand} {kl kc : IntKind} {n m : Int} {i ie : TInfo} {c : TyC} (hl : ev fr l = some (.int kl n)) (hc' : ev fr c' = some (.int kc m)) (ht : T t = some i) (hd : i.desc = .slice e) (he : T e = some ie) (hz0 : ie.zero = [.raw (.slice none 0 0)])
    (h : (0 ≤ n ∧ m = n ∧ (ie.bytes : Int) * n ≤ 281474976710656 ∧ n ≤ 9223372036854775807) ∧ k ⟨none, [⟨.lst c e2, e, true, @List.replicate (List c.α) n.toNat []⟩], .row lr⟩) : Good E hg rg lb lr fr ⟨dst, .makeSlice t l c', ty, pos, after, guard⟩ k := by
  obtain ⟨⟨h0, rfl, hby, h63⟩, h⟩ := h
  obtain ⟨n, rfl⟩ := Int.eq_ofNat_of_zero_le h0
  refine ⟨_, h, fun A hp rw w ρ hcx h1 h2 h3 h4 h5 => ?_⟩
  have hund := (hT _ _ ht).und
  rw [hd] at hund
  obtain ⟨inf, z, hi, hsz, hbyt, hz, hzc⟩ := info_of (hT _ _ he)
  have hsz1 : ie.size = 1 := by rw [← (hT _ _ he).zlen, hz0]; rfl
  have h63' : n ≤ maxLen := by simp only [maxLen]; omega
  have hby' : inf.bytes * n ≤ 281474976710656 := by
    rw [hbyt]
    have : ((ie.bytes * n : Nat) : Int) ≤ 281474976710656 := by rw [Int.natCast_mul]; exact hby
    omega
  obtain ⟨w', hr, hown, hgr, hdr⟩ := make_full (P := E.P) w 0 t e inf z 1 hund hi hz (by rw [hsz, hsz1]) kl kc n hby' h63' (Nat.zero_le _)
  have hcells : (madeCells z.cells (n * 1)).toList = (List.replicate n (Value.slice none 0 0)) := by
    have := madeCells_eq [Value.slice none 0 0] n (by simp)
    rw [hzc, hz0]
    simp only [dens, AVal.den, List.length_singleton] at this ⊢
    rw [this]
    induction n with
    | zero => rfl
    | succ n ih => simp [List.replicate_succ]
  have hrun : (execOp ρ ⟨dst, .makeSlice t l c', ty, pos, after, guard⟩).run E.P w = .ok (.value (.slice (some ⟨w.heap.size, 0, none⟩) n n)) w' := by
    simp only [execOp]
    refine wrapF _ _ _ _ ?_
    rw [h3 l (by simp [Op.operands]) _ hl, h3 c' (by simp [Op.operands]) _ hc']
    exact hr
  rw [hrun]
  have hlen : (@List.replicate (List c.α) (Int.ofNat n).toNat []).length = n := by simp
  have hpl : (⟨.lst c e2, e, true, @List.replicate (List c.α) (Int.ofNat n).toNat []⟩ : Row).parts ⟨some ⟨w.heap.size, 0, none⟩, n, n⟩ (fun _ => ⟨none, 0, 0⟩) =
      (⟨some ⟨w.heap.size, 0, none⟩, n, n⟩, ⟨.sl, e, true, List.replicate n (⟨none, 0, 0⟩ : Hdr)⟩) :: List.replicate n ((⟨none, 0, 0⟩ : Hdr), (⟨c, e2, true, []⟩ : Row)) := by
    rw [parts_lst, hlen]
    have h1 : (List.range n).map (fun _ => (⟨none, 0, 0⟩ : Hdr)) = List.replicate n (⟨none, 0, 0⟩ : Hdr) := by simp [List.map_const']
    have h2 : ∀ i, (@List.replicate (List c.α) (Int.ofNat n).toNat []).getD i [] = [] := fun i => by
      rw [List.getD_eq_getElem?_getD, List.getElem?_replicate]
      split <;> rfl
    have h3 : (List.range n).map (fun i => ((⟨none, 0, 0⟩ : Hdr), (⟨c, e2, true, (@List.replicate (List c.α) (Int.ofNat n).toNat []).getD i []⟩ : Row))) = List.replicate n ((⟨none, 0, 0⟩ : Hdr), (⟨c, e2, true, []⟩ : Row)) := by
      simp only [h2]
      simp [List.map_const']
    exact congr (congrArg List.cons (congrArg (fun z : List Hdr => ((⟨some ⟨w.heap.size, 0, none⟩, n, n⟩ : Hdr), (⟨.sl, e, true, z⟩ : Row))) h1)) h3
  have hro : RowOwn w' ⟨some ⟨w.heap.size, 0, none⟩, n, n⟩ ⟨.sl, e, true, List.replicate n (⟨none, 0, 0⟩ : Hdr)⟩ := by
    unfold RowOwn Row.cells
    have hx := cells_nils n
    show w'.ownsRow 0 e 1 (Hdr.val _) (List.replicate n (⟨none, 0, 0⟩ : Hdr)).length _
    rw [hcells] at hown
    simp only [Hdr.val, List.length_replicate]
    show w'.ownsRow 0 e 1 _ n ((List.replicate n (⟨none, 0, 0⟩ : Hdr)).flatMap (fun x => dens A0 (TyC.sl.enc x)))
    rw [hx]
    exact hown
  refine post_row (hd := ⟨some ⟨w.heap.size, 0, none⟩, n, n⟩) (r := ⟨.lst c e2, e, true, @List.replicate (List c.α) (Int.ofNat n).toNat []⟩) (ih := fun _ => ⟨none, 0, 0⟩) hcx ⟨⟨hgr.os, hgr.tape, hgr.output, hgr.size, fun q hq => hgr.block q hq (by simp)⟩, Dr.of hdr⟩ rfl ⟨fun p hp => ?_, fun i j p q hi hj hij a b ha hb => ?_⟩ (fun b hb' => ?_)
  · rw [hpl] at hp
    simp only [List.mem_cons, List.mem_replicate] at hp
    rcases hp with rfl | ⟨_, rfl⟩
    · exact hro
    · exact own_nil _ _ _
  · rw [hpl] at hi hj
    cases i with
    | zero => cases j with
      | zero => exact absurd rfl hij
      | succ j =>
        simp only [List.getElem?_cons_succ, List.getElem?_replicate] at hj
        split at hj
        · cases hj; cases hb
        · cases hj
    | succ i =>
      simp only [List.getElem?_cons_succ, List.getElem?_replicate] at hi
      split at hi
      · cases hi; cases ha
      · cases hi
  · obtain ⟨p, hp, _, a, ha, rfl⟩ := hb'
    rw [hpl] at hp
    simp only [List.mem_cons, List.mem_replicate] at hp
    rcases hp with rfl | ⟨_, rfl⟩
    · cases ha; exact Nat.le_refl _
    · cases ha

/-- The bytes of a string, as a row that is only read. -/
theorem strToBytes_good (hT : TOk E.P T) {s d : TypeId} {x : Operand} {b : ByteArray} {si di ei : TInfo} {e : TypeId} (hx : ev fr x = some (.str b)) (hs : T s = some si) (hd : T d = some di) (hdd : di.desc = .slice e) (he : T e = some ei) (hed : ei.desc = .int .u8)
    (hsd : si.desc = .string) (h : b.size ≤ 9223372036854775807 ∧ k ⟨none, [⟨.int .u8, e, false, b.data.toList.map fun x => (x.toNat : Int)⟩], .row lr⟩) : Good E hg rg lb lr fr ⟨dst, .convert s d x, ty, pos, after, guard⟩ k := by
  obtain ⟨hbs, h⟩ := h
  refine ⟨_, h, fun A hp rw w ρ hc h1 h2 h3 h4 h5 => ?_⟩
  have hu1 := (hT _ _ hs).und
  have hu2 := (hT _ _ hd).und
  have hu3 := (hT _ _ he).und
  rw [hdd] at hu2
  rw [hsd] at hu1
  rw [hed] at hu3
  have hrun := run_bytes_of_string (P := E.P) w s d e b hu1 hu2 hu3
  have hgc := grownCap_ge w b.size 0 e
  have hgm := grownCap_le_maxLen w b.size 0 e (by simp only [maxLen]; omega)
  generalize grownCap w b.size 0 e = cap at *
  generalize hC : bytesRow b cap = C at *
  have hex : (execOp ρ ⟨dst, .convert s d x, ty, pos, after, guard⟩).run E.P w = .ok (.value (.slice (some ⟨w.heap.size, 0, none⟩) b.size cap)) (w.drew.alloc (.cells C e (C.size, C.size + 1))) := by
    simp only [execOp]
    refine wrapF _ _ _ _ ?_
    rw [h3 x (by simp [Op.operands]) _ hx]
    exact hrun
  rw [hex]
  have hB : Blw w.heap.size w (w.drew.alloc (.cells C e (C.size, C.size + 1))) := ((Blw.refl _ _).drew).alloc (Nat.le_refl _) _
  have hl : b.data.toList.length = b.size := by simp
  have hat : RowAt (w.drew.alloc (.cells C e (C.size, C.size + 1))) ⟨some ⟨w.heap.size, 0, none⟩, b.size, cap⟩ ⟨.int .u8, e, false, b.data.toList.map fun x => (x.toNat : Int)⟩ := by
    refine ⟨?_, hgc, hgm, fun i y hi => ⟨_, rfl, fun j cv hj => ?_⟩⟩
    · show b.size = (b.data.toList.map fun x => (x.toNat : Int)).length
      simp
    · have hi : (b.data.toList.map fun x => (x.toNat : Int))[i]? = some y := hi
      rw [List.getElem?_map] at hi
      cases hx0 : b.data.toList[i]? with
      | none => rw [hx0] at hi; cases hi
      | some x0 =>
        rw [hx0] at hi
        cases hi
        cases j with
        | zero =>
          cases hj
          have hadd : (⟨w.heap.size, 0, none⟩ : Addr).add (i * (TyC.int .u8).sz + 0) = ⟨w.heap.size, i, none⟩ := by
            simp only [TyC.sz, Nat.mul_one, Nat.add_zero]
            unfold Addr.add; split <;> simp_all
          rw [hadd]
          have hh : (w.drew.alloc (.cells C e (C.size, C.size + 1))).heap[w.heap.size]? = some (.cells C e (C.size, C.size + 1)) := by
            show (w.heap.push _)[w.heap.size]? = _
            simp
          have hCi : C[i]? = some (.int .u8 (x0.toNat : Int)) := by
            rw [← hC]
            unfold bytesRow
            have hlt : i < b.data.size := by
              have := (List.getElem?_eq_some_iff.1 hx0).1
              simpa using this
            rw [Array.getElem?_append_left (by simpa using hlt), Array.getElem?_map]
            have : b.data[i]? = some x0 := by simpa using hx0
            rw [this]; rfl
          simp only [World.cell?, hh, hCi, AVal.den]
          rfl
        | succ j => simp [TyC.enc] at hj
  have hm0 := hc.mem.grow hB hc.klt
  have hfoot : ∀ bk, Feet ⟨.int .u8, e, false, b.data.toList.map fun x => (x.toNat : Int)⟩ ⟨some ⟨w.heap.size, 0, none⟩, b.size, cap⟩ (fun _ => ⟨none, 0, 0⟩) bk → bk = w.heap.size := fun bk hf => by
    obtain ⟨_, a, ha, rfl⟩ := Feet.flat hf rfl
    cases ha; rfl
  have hag : Agr lb false lr 1 A (A.setRw lr ⟨some ⟨w.heap.size, 0, none⟩, b.size, cap⟩ (fun _ => ⟨none, 0, 0⟩)) := ⟨fun i _ => rfl, fun q hq => ⟨(upd_ne _ _ _ (by omega)).symm, (upd_ne _ _ _ (by omega)).symm⟩⟩
  have hm := hm0.addRow lr ⟨some ⟨w.heap.size, 0, none⟩, b.size, cap⟩ (fun _ => ⟨none, 0, 0⟩) ⟨.int .u8, e, false, b.data.toList.map fun x => (x.toNat : Int)⟩ (hc.fr lr (Nat.le_refl _) (by simp)) hc.n0 (hc.stb _ hag) (hat.rows rfl) (fun h => by cases h)
    (fun i ci bk h0 hi hf e => by have := hfoot bk hf; have := hc.mem.box_lt hi; omega)
    (fun k' r' bk hk' ho hf hf' => by have := hfoot bk hf; have := hc.mem.foot_lt hk' hf'; omega)
  refine ⟨⟨_, hag, ?_, ?_, hB.size⟩⟩
  · simp [AVal.den, Asg.setRw, upd_same, Hdr.val]
  · have hu : ∀ row : Row, updL rw lr [row] = upd rw lr (some row) := fun row => by
      funext i
      unfold updL upd
      by_cases hi : i = lr
      · subst hi; simp
      · rw [if_neg (by simp; omega), if_neg hi]
    simp only [updO_none, hu]
    exact hm

theorem len_slice_good (hT : TOk E.P T) {args : Array Operand} {argTypes : Array TypeId} {t e : TypeId} {ti : TInfo} {vs : List AVal} {v : AVal} {n : Nat}
    (hvs : vs.length = args.toList.length ∧ ∀ A (ρ : Operand → Value), (∀ x ∈ args.toList, ∀ v, ev fr x = some v → ρ x = v.den A) → args.toList.map ρ = dens A vs) (hv : vs = [v])
    (ha : nth argTypes.toList 0 = some t) (ht : T t = some ti) (hd : ti.desc = .slice e) (h : k (val (.int .i64 (n : Int))))
    (hl : ∀ A hp rw w, Mem E A hp rw w → (∀ i r, rg i = some r → rw i = some r) → ∃ a cap, v.den A = .slice a n cap) :
    Good E hg rg lb lr fr ⟨dst, .call { callee := .builtin .len, args, argTypes }, ty, pos, after, guard⟩ k := by
  refine good_val h fun A hp rw w ρ hm h1 h2 h3 => ?_
  have hund := (hT _ _ ht).und
  rw [hd] at hund
  obtain ⟨a, cap, hden⟩ := hl A hp rw w hm h2
  have hmap : args.map ρ = #[.slice a n cap] := by
    apply Array.ext'
    rw [Array.toList_map, hvs.2 A ρ (fun x hx v hxv => h3 x (by simp [Op.operands, Call.operands]; simpa using hx) v hxv), hv]
    simp [dens, hden]
  rw [nth_eq] at ha
  have ha' : argTypes[0]? = some t := by simpa using ha
  simp only [execOp, resolve, Sem.run_bind, Sem.run_pure, Result.andThen_ok, invoke, builtin, hmap]
  simp only [Builtin.len_, ha', Sem.run_bind, run_underlying hund, Result.andThen_ok]
  simp [goInt, AVal.den, run_underlying hund]

theorem len_str_good (hT : TOk E.P T) {args : Array Operand} {argTypes : Array TypeId} {s : ByteArray} {t : TypeId} {ti : TInfo} {vs : List AVal}
    (hvs : vs.length = args.toList.length ∧ ∀ A (ρ : Operand → Value), (∀ x ∈ args.toList, ∀ v, ev fr x = some v → ρ x = v.den A) → args.toList.map ρ = dens A vs) (hv : vs = [.str s])
    (ha : nth argTypes.toList 0 = some t) (ht : T t = some ti) (hd : ti.desc = .string) (h : k (val (.int .i64 (s.size : Int)))) :
    Good E hg rg lb lr fr ⟨dst, .call { callee := .builtin .len, args, argTypes }, ty, pos, after, guard⟩ k := by
  refine good_val h fun A hp rw w ρ hm h1 h2 h3 => ?_
  have hund := (hT _ _ ht).und
  rw [hd] at hund
  have hmap : args.map ρ = #[.string s] := by
    apply Array.ext'
    rw [Array.toList_map, hvs.2 A ρ (fun x hx v hxv => h3 x (by simp [Op.operands, Call.operands]; simpa using hx) v hxv), hv]
    simp [dens, AVal.den]
  rw [nth_eq] at ha
  have ha' : argTypes[0]? = some t := by simpa using ha
  simp only [execOp, resolve, Sem.run_bind, Sem.run_pure, Result.andThen_ok, invoke, builtin, hmap]
  simp only [Builtin.len_, ha', Sem.run_bind, run_underlying hund, Result.andThen_ok]
  simp [goInt, AVal.den, run_underlying hund]

theorem len_nil_good (hT : TOk E.P T) {args : Array Operand} {argTypes : Array TypeId} {t e : TypeId} {ti : TInfo} {vs : List AVal}
    (hvs : vs.length = args.toList.length ∧ ∀ A (ρ : Operand → Value), (∀ x ∈ args.toList, ∀ v, ev fr x = some v → ρ x = v.den A) → args.toList.map ρ = dens A vs) (hv : vs = [.raw (.slice none 0 0)])
    (ha : nth argTypes.toList 0 = some t) (ht : T t = some ti) (hd : ti.desc = .slice e) (h : k (val (.int .i64 0))) :
    Good E hg rg lb lr fr ⟨dst, .call { callee := .builtin .len, args, argTypes }, ty, pos, after, guard⟩ k := by
  refine good_val h fun A hp rw w ρ hm h1 h2 h3 => ?_
  have hund := (hT _ _ ht).und
  rw [hd] at hund
  have hmap : args.map ρ = #[.slice none 0 0] := by
    apply Array.ext'
    rw [Array.toList_map, hvs.2 A ρ (fun x hx v hxv => h3 x (by simp [Op.operands, Call.operands]; simpa using hx) v hxv), hv]
    simp [dens, AVal.den]
  rw [nth_eq] at ha
  have ha' : argTypes[0]? = some t := by simpa using ha
  simp only [execOp, resolve, Sem.run_bind, Sem.run_pure, Result.andThen_ok, invoke, builtin, hmap]
  simp only [Builtin.len_, ha', Sem.run_bind, run_underlying hund, Result.andThen_ok]
  simp [goInt, AVal.den, run_underlying hund]

theorem mm_good {b : Builtin} (hb : b = .min ∨ b = .max) {args : Array Operand} {argTypes : Array TypeId} {a : IntKind} {x y : Int} {vs : List AVal}
    (hvs : vs.length = args.toList.length ∧ ∀ A (ρ : Operand → Value), (∀ x ∈ args.toList, ∀ v, ev fr x = some v → ρ x = v.den A) → args.toList.map ρ = dens A vs) (hv : vs = [.int a x, .int a y])
    (h : k (val (.int a (if b = .min then (if y < x then y else x) else (if y > x then y else x))))) :
    Good E hg rg lb lr fr ⟨dst, .call { callee := .builtin b, args, argTypes }, ty, pos, after, guard⟩ k := by
  refine good_val h fun A hp rw w ρ hm h1 h2 h3 => ?_
  have hmap : args.map ρ = #[.int a x, .int a y] := by
    apply Array.ext'
    rw [Array.toList_map, hvs.2 A ρ (fun x hx v hxv => h3 x (by simp [Op.operands, Call.operands]; simpa using hx) v hxv), hv]
    simp [dens, AVal.den]
  rcases hb with rfl | rfl
  · simp only [execOp, resolve, Sem.run_bind, Sem.run_pure, Result.andThen_ok, invoke, builtin, hmap]
    simp [Builtin.min_, Builtin.min2, AVal.den]
  · simp only [execOp, resolve, Sem.run_bind, Sem.run_pure, Result.andThen_ok, invoke, builtin, hmap]
    simp [Builtin.max_, Builtin.max2, AVal.den]

theorem upd_rgV (rg : Nat → Option Row) (m : Nat) (r : Row) (i : Nat) : rgV rg m r i = if i = m then some r else rg i := by
  unfold rgV
  by_cases h : i = m
  · subst h; simp
  · have : Nat.beq i m = false := by
      cases hb : Nat.beq i m with
      | false => rfl
      | true => exact absurd (Nat.eq_of_beq_eq_true hb) h
    rw [this, if_neg h]

/-- Parts of rows, as rows of their own: the values are the same. -/
theorem matz_sound {rg : Nat → Option Row} : ∀ (vs : List AVal) (m : Nat) (rg' : Nat → Option Row) (kk : List AVal → (Nat → Option Row) → Prop), matz rg m vs rg' kk →
    ∃ vs' rg2, kk vs' rg2 ∧ ∀ (A : Asg) (w : World) (B : Asg) (nb lr : Nat), lr ≤ m → (∀ i r, rg i = some r → RowsAt w (A.rw i) (A.inn i) r) → scs nb [] lr [] vs = true →
      B.bx = A.bx → (∀ i, i < lr → B.rw i = A.rw i ∧ B.inn i = A.inn i) → (∀ i r, rg' i = some r → RowsAt w (B.rw i) (B.inn i) r) →
      ∃ C : Asg, C.bx = A.bx ∧ (∀ i, i < m → C.rw i = B.rw i ∧ C.inn i = B.inn i) ∧ dens C vs' = dens A vs ∧ (∀ i r, rg2 i = some r → RowsAt w (C.rw i) (C.inn i) r)
  | [], m, rg', kk, h => ⟨[], rg', h, fun A w B nb lr _ _ _ hb _ hr => ⟨B, hb, fun _ _ => ⟨rfl, rfl⟩, rfl, hr⟩⟩
  | x :: l, m, rg', kk, h => by
    have key : ∀ (u : AVal) (hd : Asg → Hdr) (row : Row), row.c.isL = false → (∀ A w, (∀ i r, rg i = some r → RowsAt w (A.rw i) (A.inn i) r) → RowAt w (hd A) row ∧ (hd A).val = u.den A) →
        matz rg (m + 1) l (rgV rg' m row) (fun l' rg2 => kk (.row m :: l') rg2) →
        ∃ vs' rg2, kk vs' rg2 ∧ ∀ (A : Asg) (w : World) (B : Asg) (nb lr : Nat), lr ≤ m → (∀ i r, rg i = some r → RowsAt w (A.rw i) (A.inn i) r) → scs nb [] lr [] (u :: l) = true →
          B.bx = A.bx → (∀ i, i < lr → B.rw i = A.rw i ∧ B.inn i = A.inn i) → (∀ i r, rg' i = some r → RowsAt w (B.rw i) (B.inn i) r) →
          ∃ C : Asg, C.bx = A.bx ∧ (∀ i, i < m → C.rw i = B.rw i ∧ C.inn i = B.inn i) ∧ dens C vs' = dens A (u :: l) ∧ (∀ i r, rg2 i = some r → RowsAt w (C.rw i) (C.inn i) r) := by
      intro u hd row hcl hrow h
      obtain ⟨vs', rg2, hk, hall⟩ := matz_sound l (m + 1) _ _ h
      refine ⟨_, _, hk, fun A w B nb lr hlr hrg hsc hbx hB hr' => ?_⟩
      simp only [scs] at hsc
      split at hsc
      · obtain ⟨h1, h2⟩ := hrow A w hrg
        obtain ⟨C, c1, c2, c3, c4⟩ := hall A w (B.setRw m (hd A) (fun _ => ⟨none, 0, 0⟩)) nb lr (by omega) hrg hsc hbx (fun i hi => by
          show upd B.rw m _ i = _ ∧ upd B.inn m _ i = _
          rw [upd_ne _ _ _ (by omega), upd_ne _ _ _ (by omega)]; exact hB i hi) (fun i r hi => by
          rw [upd_rgV] at hi
          show RowsAt w (upd B.rw m _ i) (upd B.inn m _ i) r
          split at hi
          · rename_i e; subst e; cases hi
            rw [upd_same, upd_same]
            obtain ⟨rc, re, ro, rxs⟩ := row
            exact h1.rows hcl
          · rename_i e
            rw [upd_ne _ _ _ e, upd_ne _ _ _ e]; exact hr' i r hi)
        refine ⟨C, c1, fun i hi => ?_, ?_, c4⟩
        · obtain ⟨d1, d2⟩ := c2 i (by omega)
          rw [d1, d2]
          show upd B.rw m _ i = _ ∧ upd B.inn m _ i = _
          rw [upd_ne _ _ _ (by omega), upd_ne _ _ _ (by omega)]; exact ⟨rfl, rfl⟩
        · simp only [dens, c3, AVal.den]
          rw [(c2 m (by omega)).1]
          show (upd B.rw m (hd A) m).val :: _ = _
          rw [upd_same, h2]
      · cases hsc
    have plain : (∀ a b c d, x ≠ .vw a b c d) → (∀ a b, x ≠ .irow a b) → matz rg m l rg' (fun l' rg2 => kk (x :: l') rg2) →
        ∃ vs' rg2, kk vs' rg2 ∧ ∀ (A : Asg) (w : World) (B : Asg) (nb lr : Nat), lr ≤ m → (∀ i r, rg i = some r → RowsAt w (A.rw i) (A.inn i) r) → scs nb [] lr [] (x :: l) = true →
          B.bx = A.bx → (∀ i, i < lr → B.rw i = A.rw i ∧ B.inn i = A.inn i) → (∀ i r, rg' i = some r → RowsAt w (B.rw i) (B.inn i) r) →
          ∃ C : Asg, C.bx = A.bx ∧ (∀ i, i < m → C.rw i = B.rw i ∧ C.inn i = B.inn i) ∧ dens C vs' = dens A (x :: l) ∧ (∀ i r, rg2 i = some r → RowsAt w (C.rw i) (C.inn i) r) := by
      intro _ _ h
      obtain ⟨vs', rg2, hk, hall⟩ := matz_sound l m _ _ h
      refine ⟨_, _, hk, fun A w B nb lr hlr hrg hsc hbx hB hr' => ?_⟩
      simp only [scs] at hsc
      split at hsc
      · rename_i hx
        obtain ⟨C, c1, c2, c3, c4⟩ := hall A w B nb lr hlr hrg hsc hbx hB hr'
        refine ⟨C, c1, c2, ?_, c4⟩
        simp only [dens, c3]
        rw [AVal.den_congr (B := A) (nb := nb) (nr := lr) (eb := []) (er := []) (fun i _ => by rw [c1]) (fun i hi => by
          have hi : i < lr := by simpa using hi
          obtain ⟨d1, d2⟩ := c2 i (by omega)
          obtain ⟨d3, d4⟩ := hB i hi
          exact ⟨d1.trans d3, d2.trans d4⟩) x hx]
      · cases hsc
    cases x with
    | vw r lo n sz =>
      simp only [matz] at h
      cases hr : rg r with
      | none => simp [hr] at h
      | some row =>
        obtain ⟨c, e, own, xs⟩ := row
        simp only [hr] at h
        split at h
        · rename_i hcl hsz
          have hsz := Nat.eq_of_beq_eq_true hsz
          subst hsz
          obtain ⟨hn, h⟩ := h
          exact key (.vw r lo n c.sz) (fun A => (A.rw r).view lo n c.sz) ⟨c, e, false, (xs.drop lo).take n⟩ hcl (fun A w hrg => ⟨((hrg r _ hr).flat hcl).view lo n hn, rfl⟩) h
        · exact h.elim
    | irow r i =>
      simp only [matz] at h
      split at h
      · rename_i c e' e own yss hr
        split at h
        · rename_i hcl
          obtain ⟨hn, h⟩ := h
          refine key (.irow r i) (fun A => A.inn r i) ⟨c, e', false, @List.getD (List c.α) yss i []⟩ hcl (fun A w hrg => ⟨?_, rfl⟩) h
          have := (hrg r _ hr).inner hn
          exact ⟨this.len, this.cap, this.max, this.cell⟩
        · exact h.elim
      · exact h.elim
    | _ => exact plain (fun _ _ _ _ => by simp) (fun _ _ => by simp) (by simpa only [matz] using h)

theorem call_good (hG : GOk E.P G) {f : Operand} {args : Array Operand} {argTypes : Array TypeId} {g : FuncId} {fs cs vs : List AVal} {c : PCtr}
    (hf : ev fr f = some (.fn g fs cs)) (hvs : ∀ A (ρ : Operand → Value), (∀ x ∈ args.toList, ∀ v, ev fr x = some v → ρ x = v.den A) → args.toList.map ρ = dens A vs)
    (hl : look G g = some (.p c)) (h : callA c hg rg lb lr (fs ++ (vs ++ cs)) k) :
    Good E hg rg lb lr fr ⟨dst, .call { callee := .value f, args, argTypes }, ty, pos, after, guard⟩ k := by
  have hc : PCtrOk E.P g c := hG g _ hl
  have hrun : ∀ (A : Asg) (w : World) (ρ : Operand → Value), Match fr ⟨dst, .call { callee := .value f, args, argTypes }, ty, pos, after, guard⟩ ρ A →
      (execOp ρ ⟨dst, .call { callee := .value f, args, argTypes }, ty, pos, after, guard⟩).run E.P w = .ok (.enter g (dens A (fs ++ (vs ++ cs))).toArray) w := fun A w ρ h3 => by
    have hmap : args.map ρ = (dens A vs).toArray := by
      apply Array.ext'
      rw [Array.toList_map, hvs A ρ (fun x hx v hxv => h3 x (by simp [Op.operands, Call.operands]; exact .inr (by simpa using hx)) v hxv)]
    have hfv : ρ f = .func (.func g) (dens A fs).toArray (dens A cs).toArray := by
      rw [h3 f (by simp [Op.operands, Call.operands]) _ hf]; simp [AVal.den]
    simp only [execOp, resolve, Deferred.ofValue, hfv, Sem.run_bind, Sem.run_pure, Result.andThen_ok, invoke, hc.enter, hmap]
    simp [dens_eq]
  unfold callA at h
  split at h
  · obtain ⟨rows, v, hk, hcalls⟩ := hc.calls _ _ _ _ _ h
    refine ⟨_, hk, fun A hp rw w ρ hcx h1 h2 h3 h4 h5 => ?_⟩
    rw [hrun A w ρ h3]
    refine Calls.mono (hcalls A w (fun i cs hi => (hcx.mem.box i cs (h1 _ _ hi)).1) (fun i r hi => (hcx.mem.row i r (h2 _ _ hi)).1)) ?_
    rintro e w' ⟨hs, he, hB, hnew⟩
    exact ⟨_, he, post_rows hcx hB hnew⟩
  · split at h
    · rename_i hscs
      obtain ⟨vs', rg2, h, hall⟩ := matz_sound _ _ _ _ h
      obtain ⟨rows, v, hk, hcalls⟩ := hc.calls _ _ _ _ _ h
      split at hk
      · rename_i hle
        have hle := Nat.le_of_ble_eq_true hle
        rw [lenN_eq] at hle
        split at hk
        · rename_i hvsc
          rw [lenN_eq] at hvsc
          refine ⟨_, hk, fun A hp rw w ρ hcx h1 h2 h3 h4 h5 => ?_⟩
          rw [hrun A w ρ h3]
          have hrg : ∀ i r, rg i = some r → RowsAt w (A.rw i) (A.inn i) r := fun i r hi => (hcx.mem.row i r (h2 _ _ hi)).1
          obtain ⟨C, c1, c2, c3, c4⟩ := hall A w A lb lr (by omega) hrg hscs rfl (fun _ _ => ⟨rfl, rfl⟩) hrg
          rw [← c3]
          refine Calls.mono (hcalls C w (fun i cs hi => by
            obtain ⟨t, ht⟩ := (hcx.mem.box i cs (h1 _ _ hi)).1
            exact ⟨t, by rw [c1, h5 i cs hi C c1 (fun q hq => c2 q hq)]; exact ht⟩) c4) ?_
          rintro e w' ⟨hs, he, hB, hnew⟩
          refine ⟨_, he, ?_⟩
          have hpost := post_rows (v := v) hcx hB hnew
          have hden : v.den (C.setRws lr hs) = v.den (A.setRws lr hs) := by
            refine AVal.den_congr (nb := lb) (nr := lr + rows.length) (eb := []) (er := []) (fun i _ => ?_) (fun i hi => ?_) v hvsc
            · show C.bx i = A.bx i
              rw [c1]
            · have hi : i < lr + rows.length := by simpa using hi
              have hlen := hnew.len
              by_cases hlt : i < lr
              · obtain ⟨d1, d2⟩ := setRws_out C lr hs i (.inl hlt)
                obtain ⟨d3, d4⟩ := setRws_out A lr hs i (.inl hlt)
                obtain ⟨d5, d6⟩ := c2 i (by omega)
                exact ⟨by rw [d1, d3, d5], by rw [d2, d4, d6]⟩
              · have hj : hs[i - lr]? = some hs[i - lr] := List.getElem?_eq_getElem (by omega)
                obtain ⟨d1, d2⟩ := setRws_in C lr hs (i - lr) _ hj
                obtain ⟨d3, d4⟩ := setRws_in A lr hs (i - lr) _ hj
                rw [show lr + (i - lr) = i by omega] at d1 d2 d3 d4
                exact ⟨by rw [d1, d3], by rw [d2, d4]⟩
          rw [hden]
          exact hpost
        · exact hk.elim
      · exact hk.elim
    · exact h.elim

theorem bcall_good (hG : GOk E.P G) {f : Operand} {args : Array Operand} {argTypes : Array TypeId} {g : FuncId} {fs cs vs : List AVal} {c : BCtr}
    (hf : ev fr f = some (.fn g fs cs)) (hvs : ∀ A (ρ : Operand → Value), (∀ x ∈ args.toList, ∀ v, ev fr x = some v → ρ x = v.den A) → args.toList.map ρ = dens A vs)
    (hl : look G g = some (.b c)) (h : c hg rg lb lr (fs ++ (vs ++ cs)) fun box rows v => k ⟨box, rows, v⟩) :
    Good E hg rg lb lr fr ⟨dst, .call { callee := .value f, args, argTypes }, ty, pos, after, guard⟩ k := by
  have hc : BCtrOk E.P g c := hG g _ hl
  have hrun : ∀ (A : Asg) (w : World) (ρ : Operand → Value), Match fr ⟨dst, .call { callee := .value f, args, argTypes }, ty, pos, after, guard⟩ ρ A →
      (execOp ρ ⟨dst, .call { callee := .value f, args, argTypes }, ty, pos, after, guard⟩).run E.P w = .ok (.enter g (dens A (fs ++ (vs ++ cs))).toArray) w := fun A w ρ h3 => by
    have hmap : args.map ρ = (dens A vs).toArray := by
      apply Array.ext'
      rw [Array.toList_map, hvs A ρ (fun x hx v hxv => h3 x (by simp [Op.operands, Call.operands]; exact .inr (by simpa using hx)) v hxv)]
    have hfv : ρ f = .func (.func g) (dens A fs).toArray (dens A cs).toArray := by
      rw [h3 f (by simp [Op.operands, Call.operands]) _ hf]; simp [AVal.den]
    simp only [execOp, resolve, Deferred.ofValue, hfv, Sem.run_bind, Sem.run_pure, Result.andThen_ok, invoke, hc.enter, hmap]
    simp [dens_eq]
  obtain ⟨box, rows, v, hk, hcalls⟩ := hc.calls _ _ _ _ _ _ h
  refine ⟨_, hk, fun A hp rw w ρ hcx h1 h2 h3 h4 h5 => ?_⟩
  rw [hrun A w ρ h3]
  refine Calls.mono (hcalls A w (fun i cs hi => (hcx.mem.box i cs (h1 _ _ hi)).1) (fun i r hi => (hcx.mem.row i r (h2 _ _ hi)).1)) ?_
  intro e w' hq
  exact post_bcall hcx hq

end
end Go.Proofs.YtmbfflckgmdncaaDoor.Fw

/- Maps from pairs of texts to whole numbers: what the machine does with them. -/
namespace Go.Proofs.YtmbfflckgmdncaaDoor.Fw
open Go Go.RowKit
set_option linter.unusedVariables false
set_option linter.unusedSimpArgs false

section
variable {E : Env} {T : TypeId → Option TInfo} {hg : Nat → Option (List AVal)} {rg : Nat → Option Row} {lb lr : Nat} {fr : List AVal} {k : Eff → Prop} {P : Program}

theorem keyOk_inv {kt : TypeId} (h : keyOk T kt) : ∃ ki fs f0 f1 i0 i1, T kt = some ki ∧ ki.desc = .struct fs ∧ fs.toList = [f0, f1] ∧ T f0.type = some i0 ∧ T f1.type = some i1 ∧ i0.desc = .string ∧ i1.desc = .string ∧ i0.agg = false ∧ i1.agg = false ∧ f0.offset = 0 ∧ f1.offset = 1 := by
  unfold keyOk at h
  split at h
  case h_2 => exact h.elim
  rename_i ki hki
  split at h
  case h_2 => exact h.elim
  rename_i fs hfs
  split at h
  case h_2 => exact h.elim
  rename_i f0 f1 hff
  split at h
  case h_2 => exact h.elim
  rename_i i0 i1 h0 h1
  split at h
  case h_2 => exact h.elim
  rename_i d0 d1 a0 a1
  split at h
  case h_2 => exact h.elim
  rename_i o0 o1
  exact ⟨ki, fs, f0, f1, i0, i1, hki, hfs, hff, h0, h1, d0, d1, a0, a1, o0, o1⟩

theorem run_keyPart (hT : TOk P T) {t : TypeId} {i : TInfo} (ht : T t = some i) (ha : i.agg = false) {cs : Array Value} {off : Nat} {v : Value} (hv : cs[off]? = some v) (w : World) : (part t cs off).run P w = .ok v w := by
  unfold part
  simp only [Sem.run_bind, run_agg (hT _ _ ht), Result.andThen_ok, ha]
  simp [hv]

theorem run_checkString (hT : TOk P T) {t : TypeId} {i : TInfo} (ht : T t = some i) (hd : i.desc = .string) (em : Bool) (n : Nat) (s : ByteArray) (w : World) : (Instr.checkKey em (n + 1) t (.string s)).run P w = .ok () w := by
  have hu := (hT _ _ ht).und
  rw [hd] at hu
  simp [Instr.checkKey, run_underlying hu]

theorem run_check (hT : TOk P T) {kt : TypeId} (hk : keyOk T kt) (a b : ByteArray) (em : Bool) (w : World) : (Instr.checkKey em 10000 kt (.agg #[.string a, .string b])).run P w = .ok () w := by
  obtain ⟨ki, fs, f0, f1, i0, i1, hki, hfs, hff, h0, h1, d0, d1, a0, a1, o0, o1⟩ := keyOk_inv hk
  have hu := (hT _ _ hki).und
  rw [hfs] at hu
  have e0 : (part f0.type #[.string a, .string b] f0.offset).run P w = .ok (.string a) w := run_keyPart hT h0 a0 (by rw [o0]; rfl) w
  have e1 : (part f1.type #[.string a, .string b] f1.offset).run P w = .ok (.string b) w := run_keyPart hT h1 a1 (by rw [o1]; rfl) w
  have c0 := run_checkString hT h0 d0 em 9998 a w
  have c1 := run_checkString hT h1 d1 em 9998 b w
  rw [show (10000 : Nat) = 9999 + 1 from rfl]
  unfold Instr.checkKey
  simp only [Sem.run_bind, run_underlying hu, Result.andThen_ok]
  rw [← Array.forIn_toList, hff]
  by_cases n0 : f0.name = "_" <;> by_cases n1 : f1.name = "_" <;> simp [n0, n1, e0, e1, c0, c1]

/-- Where an entry lies that has the key. -/
def idxM (a b : ByteArray) : Nat → List ((ByteArray × ByteArray) × Int) → Option (Nat × Value)
  | _, [] => none
  | i, e :: l => if entB a b e = true then some (i, .int .i64 e.2) else idxM a b (i + 1) l
theorem idxM_eq (a b : ByteArray) : ∀ (l : List ((ByteArray × ByteArray) × Int)) (i : Nat), (idxM a b i l).map (·.2) = (l.find? (entB a b)).map fun e => Value.int .i64 e.2
  | [], i => rfl
  | e :: l, i => by
    unfold idxM
    rw [List.find?_cons]
    cases h : entB a b e <;> simp [h, idxM_eq a b l]
theorem run_asking (hT : TOk P T) {kt : TypeId} {a b : ByteArray} (hq : eqKey T kt a b) (w : World) : ∀ (l : List ((ByteArray × ByteArray) × Int)) (n i : Nat), (Instr.findAsking kt (.agg #[.string a, .string b]) (entsOf n l) i).run P w = .ok (idxM a b i l) w
  | [], n, i => by simp [entsOf, Instr.findAsking, idxM]
  | e :: l, n, i => by
    obtain ⟨r, hr, hrun⟩ := eqV_sound hT 6 kt _ _ _ (hq e.1.1 e.1.2)
    have h1 := hrun A0 (Op.maxDepth - 6) w
    simp only [AVal.den, dens] at h1
    have h2 : (Op.equal kt (.agg #[.string a, .string b]) (.agg #[.string e.1.1, .string e.1.2])).run P w = .ok r w := h1
    unfold entsOf Instr.findAsking
    simp only [Sem.run_bind, h2, Result.andThen_ok]
    have he : entB a b e = r := by rw [hr]; rfl
    unfold idxM
    rw [he]
    cases r
    · simp [run_asking hT hq w l (n + 1) (i + 1)]
    · simp
theorem run_find (hT : TOk P T) {kt : TypeId} (hk : keyOk T kt) {a b : ByteArray} (hq : eqKey T kt a b) (w : World) (l : List ((ByteArray × ByteArray) × Int)) (n : Nat) : (Instr.findKey kt (.agg #[.string a, .string b]) (entsOf n l)).run P w = .ok (idxM a b 0 l) w := by
  obtain ⟨ki, fs, f0, f1, i0, i1, hki, hfs, hff, _⟩ := keyOk_inv hk
  have hu := (hT _ _ hki).und
  rw [hfs] at hu
  rw [run_findKey_eq w (by rw [hu])]
  exact run_asking hT hq w l n 0
theorem mapT_inv {t : TypeId} {a b : ByteArray} {k : Prop} (h : mapT T t a b k) : ∃ ti kt et ei, T t = some ti ∧ ti.desc = .map kt et ∧ T et = some ei ∧ ei.zero = [.int .i64 0] ∧ ei.agg = false ∧ keyOk T kt ∧ eqKey T kt a b ∧ k := by
  unfold mapT at h
  split at h
  case h_2 => exact h.elim
  rename_i ti hti
  split at h
  case h_2 => exact h.elim
  rename_i kt et hd
  split at h
  case h_2 => exact h.elim
  rename_i ei he
  split at h
  case h_2 => exact h.elim
  rename_i z hz ha
  obtain ⟨⟨h1, h2, h3⟩, h4⟩ := h
  subst h1
  exact ⟨ti, kt, et, ei, hti, hd, he, hz, ha, h2, h3, h4⟩

theorem makeMap_good {dst ty pos after guard} {t : TypeId} (h : k ⟨some [.mps []], [], .mpr lb⟩) : Good E hg rg lb lr fr ⟨dst, .makeMap t none, ty, pos, after, guard⟩ k := by
  refine ⟨_, h, fun A hp rw w ρ hc h1 h2 h3 h4 h5 => ?_⟩
  have hrun : (execOp ρ ⟨dst, .makeMap t none, ty, pos, after, guard⟩).run E.P w = .ok (.value (.map (some w.heap.size))) (w.alloc (.map #[] 0)) := by
    simp only [execOp]
    exact wrapF _ _ _ _ rfl
  rw [hrun]
  exact post_boxO (t := 0) (cs := [.mps []]) hc (fun B _ => rfl) (u := fun b => .map (some b)) (v := .mpr lb) (fun B => by simp [AVal.den])

theorem lookup_good (hT : TOk E.P T) {dst ty pos after guard} {t : TypeId} {x i : Operand} {b : Nat} {p q : ByteArray} {cs : List AVal} {es : List ((ByteArray × ByteArray) × Int)} (hx : ev fr x = some (.mpr b)) (hi : ev fr i = some (.agg [.str p, .str q]))
    (hb : hg b = some cs) (hm : mapOf cs = some es) (h : mapT T t p q (k (val (.tup [.int .i64 (valM es p q), .bool (hasM es p q)])))) : Good E hg rg lb lr fr ⟨dst, .lookup t x i true, ty, pos, after, guard⟩ k := by
  obtain ⟨ti, kt, et, ei, hti, hd, he, hz, ha, hk, hq, h⟩ := mapT_inv h
  refine good_val h fun A hp rw w ρ hmm h1 h2 h3 => ?_
  have ex := h3 x (by simp [Op.operands]) _ hx
  have ei' := h3 i (by simp [Op.operands]) _ hi
  simp only [AVal.den, dens] at ex ei'
  have hu := (hT _ _ hti).und
  rw [hd] at hu
  obtain ⟨t', ht'⟩ := (hmm.box b cs (h1 _ _ hb)).1
  have ho : objOf cs (dens A cs) t' = .map (entsOf 0 es).toArray es.length := by unfold objOf; rw [hm]
  rw [ho] at ht'
  obtain ⟨z, hz0, hzc, hz2⟩ := (hT _ _ he).info
  have hzv : (zeroValue et).run E.P w = .ok (.int .i64 0) w := by
    obtain ⟨inf, z', g1, g2, g3, g4, g5⟩ := info_of (hT _ _ he)
    rw [g1] at hz0
    simp only [Option.map_some, Option.some.injEq, Prod.mk.injEq] at hz0
    have : z' = z := by rw [g4] at hz0; exact Option.some.inj hz0.2.2
    subst this
    rw [ha, hz] at hz2
    simp [dens, AVal.den] at hz2
    subst hz2
    simp [zeroValue, typeInfo, g1, g4]
  have hget : (getObj (A.bx b)).run E.P w = .ok (.map (entsOf 0 es).toArray es.length) w := by simp [getObj, Sem.run, ht']
  simp only [execOp]
  refine wrapF _ _ _ _ ?_
  rw [ex, ei']
  unfold Instr.lookup
  simp only [Sem.run_bind, run_underlying hu, Result.andThen_ok, hget, Sem.run_pure, run_check hT hk, run_find hT hk hq]
  have hidx := idxM_eq p q es 0
  cases hf : es.find? (entB p q) with
  | none =>
    rw [hf] at hidx
    have : idxM p q 0 es = none := by simpa using hidx
    rw [this]
    simp [hzv, AVal.den, dens, valM, hasM, hf]
  | some e =>
    rw [hf] at hidx
    obtain ⟨r, hr, hr2⟩ : ∃ r, idxM p q 0 es = some r ∧ r.2 = Value.int .i64 e.2 := by
      cases hi2 : idxM p q 0 es with
      | none => rw [hi2] at hidx; simp at hidx
      | some r => exact ⟨r, rfl, by rw [hi2] at hidx; simpa using hidx⟩
    rw [hr]
    obtain ⟨r1, r2⟩ := r
    simp only at hr2
    subst hr2
    simp [AVal.den, dens, valM, hasM, hf]
end
end Go.Proofs.YtmbfflckgmdncaaDoor.Fw

/- The effect of an operation, whichever it is, is what the machine comes to. -/
namespace Go.Proofs.YtmbfflckgmdncaaDoor.Fw
open Go Go.RowKit
set_option linter.unusedVariables false
set_option linter.unusedSimpArgs false

variable {E : Env} {T : TypeId → Option TInfo} {G : List (FuncId × Ctr)} {hg : Nat → Option (List AVal)} {rg : Nat → Option Row} {lb lr : Nat} {fr : List AVal} {k : Eff → Prop}

theorem withs_eq' {fr : List AVal} {l : List Operand} {k : List AVal → Prop} (h : withs fr l k) : ∃ vs, k vs ∧ (vs.length = l.length ∧ ∀ A (ρ : Operand → Value), (∀ x ∈ l, ∀ v, ev fr x = some v → ρ x = v.den A) → l.map ρ = dens A vs) := by
  obtain ⟨vs, h1, h2, h3⟩ := withs_eq fr l k h
  exact ⟨vs, h1, h2, h3⟩

theorem opEff_sound (hT : TOk E.P T) (hG : GOk E.P G) {o : Oper} (h : opEff T G hg rg lb lr fr o.op k) : Good E hg rg lb lr fr o k := by
  obtain ⟨dst, op, ty, pos, after, guard⟩ := o
  simp only at h
  unfold opEff at h
  split at h
  · replace h := with1_eq h; obtain ⟨v, hv, h⟩ := h; exact move_good hv h
  · replace h := with1_eq h; obtain ⟨v, hv, h⟩ := h; exact assign_good hv h
  · replace h := with1_eq h; obtain ⟨v, hv, h⟩ := h
    split at h
    · exact pick_good hv h
    · exact h.elim
  · rename_i t
    cases ht : T t with
    | none => simp [ht] at h
    | some i => simp only [ht, copyK_eq] at h; exact alloc_good hT ht h
  · replace h := with1_eq h; obtain ⟨v, hv, h⟩ := h; exact box_good hv h
  · rename_i t ps
    cases ht : T t with
    | none => simp [ht] at h
    | some i =>
      simp only [ht] at h
      split at h
      · rename_i fs hd
        split at h
        · rename_i hk; rw [copyK_eq] at h; exact build_good hT ht hd hk h
        · exact h.elim
      · exact h.elim
  · rename_i t n ps
    cases ht : T t with
    | none => simp [ht] at h
    | some i =>
      simp only [ht] at h
      split at h
      · rename_i e hd
        cases he : T e with
        | none => simp [he] at h
        | some ie =>
          simp only [he] at h
          cases hc : ie.ty with
          | none =>
            simp only [hc] at h
            split at h
            · rename_i h1s hds
              split at h
              · rename_i hps
                split at h
                · split at h
                  · exact buildSlice0_good hT ht hd he h1s hps h
                  · exact h.elim
                · exact h.elim
              · exact buildSliceB_good hT ht hd he h1s h
            · rename_i h1s hds
              exact buildSliceB_good hT ht hd he h1s h
            · exact h.elim
          | some c => simp only [hc] at h; exact buildSlice_good hT ht hd he hc h
      · exact h.elim
  · rename_i t x
    replace h := with1_eq h; obtain ⟨v, hv, h⟩ := h
    cases ht : T t with
    | none => simp [ht] at h
    | some i => simp only [ht] at h; exact load_good hT hv ht h
  · rename_i s x f
    replace h := with1_eq h; obtain ⟨v, hv, h⟩ := h
    cases ht : T s with
    | none => simp [ht] at h
    | some i => simp only [ht] at h; exact fieldAddr_good hT hv ht h
  · rename_i s x f
    replace h := with1_eq h; obtain ⟨v, hv, h⟩ := h
    split at h
    · rename_i cs
      cases ht : T s with
      | none => simp [ht] at h
      | some i => simp only [ht] at h; exact field_good hT hv ht h
    · exact h.elim
  · rename_i t x i
    replace h := with1_eq h; obtain ⟨v, hv, h⟩ := h
    replace h := with1_eq h; obtain ⟨n, hn, h⟩ := h
    split at h
    · rename_i kd n'
      cases ht : T t with
      | none => simp [ht] at h
      | some ti =>
        simp only [ht] at h
        split at h
        · rename_i e' hd
          cases he : T e' with
          | none => simp [he] at h
          | some ei =>
            simp only [he] at h
            split at h
            · rename_i r
              split at h
              · rename_i c e own xs hr
                split at h
                · rename_i hsz
                  have hsz := Nat.eq_of_beq_eq_true hsz
                  refine indexAddr_good hT hv hn ht hd he h.2 fun A hp rw w hm hrg => ?_
                  obtain ⟨hra, _⟩ := hm.row r _ (hrg _ _ hr)
                  have hlen : (A.rw r).len = xs.length := hra.len
                  obtain ⟨a, ha⟩ := hra.there (i := n'.toNat) (by show n'.toNat < xs.length; omega)
                  exact ⟨A.rw r, a, rfl, ha, by rw [hlen]; exact h.1, by simp only [AVal.den, Hdr.ptr, ha, Option.getD_some, Nat.add_zero]⟩
                · exact h.elim
              · exact h.elim
            · rename_i r lo m sz
              split at h
              · rename_i c e own xs hr
                split at h
                · rename_i hsz hsz2
                  have hsz := Nat.eq_of_beq_eq_true hsz
                  have hsz2 := Nat.eq_of_beq_eq_true hsz2
                  obtain ⟨⟨c1, c2, c3⟩, h⟩ := h
                  refine indexAddr_good hT hv hn ht hd he h fun A hp rw w hm hrg => ?_
                  obtain ⟨hra, _⟩ := hm.row r _ (hrg _ _ hr)
                  have hlen : (A.rw r).len = xs.length := hra.len
                  have hcap := hra.cap
                  obtain ⟨a, ha⟩ := hra.there (i := lo + n'.toNat) (by show lo + n'.toNat < xs.length; omega)
                  refine ⟨(A.rw r).view lo m sz, a.add (lo * sz), rfl, ?_, ⟨c1, c2⟩, ?_⟩
                  · show (if (A.rw r).cap = lo then (A.rw r).a else (A.rw r).a.map (·.add (lo * sz))) = _
                    rw [if_neg (by omega), ha]; rfl
                  · simp only [AVal.den, Hdr.ptr, ha, Option.getD_some, Nat.add_zero, add_add, hsz, hsz2, Nat.add_mul]
                · exact h.elim
              · exact h.elim
            · rename_i r i0
              split at h
              · rename_i c e1 e own yss hr
                split at h
                · rename_i hsz
                  obtain ⟨⟨c1, c2, c3⟩, h⟩ := h
                  refine indexAddr_good hT hv hn ht hd he h fun A hp rw w hm hrg => ?_
                  obtain ⟨hra, _⟩ := hm.row r _ (hrg _ _ hr)
                  have hin := hra.inner c3
                  have hlen : (A.inn r i0).len = (@List.getD (List c.α) yss i0 []).length := hin.len
                  obtain ⟨a, ha⟩ := hin.there (i := n'.toNat) (by show n'.toNat < (@List.getD (List c.α) yss i0 []).length; omega)
                  exact ⟨A.inn r i0, a, rfl, ha, by rw [hlen]; exact ⟨c1, c2⟩, by simp only [AVal.den, Hdr.ptr, ha, Option.getD_some, Nat.add_zero]⟩
                · exact h.elim
              · exact h.elim
            · rename_i b m
              split at h
              case h_2 => exact h.elim
              rename_i hsz
              obtain ⟨⟨c1, c2⟩, h⟩ := h
              rw [numK_eq] at h
              refine indexAddr_good hT hv hn ht hd he h fun A hp rw w hm hrg => ?_
              refine ⟨⟨some ⟨A.bx b, 0, none⟩, m, m⟩, ⟨A.bx b, 0, none⟩, by simp [AVal.den, Hdr.val], rfl, ⟨c1, c2⟩, ?_⟩
              rw [hsz, Nat.mul_one]
              simp only [AVal.den]
              unfold Addr.add
              split <;> simp_all
            · exact h.elim
        · exact h.elim
    · exact h.elim
  · rename_i t x i
    replace h := with1_eq h; obtain ⟨v, hv, h⟩ := h
    replace h := with1_eq h; obtain ⟨n, hn, h⟩ := h
    split at h
    · cases ht : T t with
      | none => simp [ht] at h
      | some ti =>
        simp only [ht] at h
        split at h
        · rename_i hd; exact index_good hT hv hn ht hd h.1 h.2
        · exact h.elim
    · exact h.elim
  · rename_i op t x y yt
    replace h := with1_eq h; obtain ⟨v, hv, h⟩ := h
    replace h := with1_eq h; obtain ⟨u, hu, h⟩ := h
    split at h
    · split at h
      · exact eqOp_good hT hv hu false (.inl ⟨_, _, rfl, rfl⟩) (by simpa using h)
      · exact eqOp_good hT hv hu true (.inl ⟨_, _, rfl, rfl⟩) (by simpa using h)
      · exact h.elim
    · split at h
      · exact eqOp_good hT hv hu false (.inr ⟨_, _, rfl, rfl⟩) (by simpa using h)
      · exact eqOp_good hT hv hu true (.inr ⟨_, _, rfl, rfl⟩) (by simpa using h)
      · exact h.elim
    · exact evBin_good hv hu h
  · replace h := with1_eq h; obtain ⟨v, hv, h⟩ := h; exact unOp_good hv h
  · rename_i s d x
    replace h := with1_eq h; obtain ⟨v, hv, h⟩ := h
    cases hs : T s with
    | none => simp [hs] at h
    | some si =>
      simp only [hs] at h
      cases hd : T d with
      | none => simp [hd] at h
      | some di =>
        simp only [hd] at h
        split at h
        · rename_i kd kd0 n hdd; exact convert_good hT hv hs hd hdd h.1 h.2
        · rename_i r hdd
          split at h
          · rename_i e hsd
            cases he : T e with
            | none => simp [he] at h
            | some ei =>
              simp only [he] at h
              split at h
              · rename_i hed
                split at h
                · rename_i e0 own xs hr
                  exact bytesToStr_good hT hv hs hd hdd hsd he hed (fun A hp rw w hm hrg => ⟨_, e0, own, rfl, (hm.row r _ (hrg _ _ hr)).1.flat rfl⟩) h
                · exact h.elim
              · exact h.elim
          · exact h.elim
        · rename_i r lo n hdd
          split at h
          · rename_i e hsd
            cases he : T e with
            | none => simp [he] at h
            | some ei =>
              simp only [he] at h
              split at h
              · rename_i hed
                split at h
                · rename_i e0 own xs hr
                  refine bytesToStr_good hT hv hs hd hdd hsd he hed (fun A hp rw w hm hrg => ⟨_, e0, false, rfl, ?_⟩) h.2
                  exact ((hm.row r _ (hrg _ _ hr)).1.flat rfl).view lo n h.1
                · exact h.elim
              · exact h.elim
          · exact h.elim
        · rename_i e b hdd
          cases he : T e with
          | none => simp [he] at h
          | some ei =>
            simp only [he] at h
            split at h
            · rename_i hed
              split at h
              · rename_i hsd; exact strToBytes_good hT hv hs hd hdd he hed hsd h
              · exact h.elim
            · exact h.elim
        · exact h.elim
  · exact makeFunc_good h
  · replace h := with1_eq h; obtain ⟨v, hv, h⟩ := h
    split at h
    · rename_i vs
      split at h
      · rename_i u hn; exact extract_good hv hn h
      · exact h.elim
    · exact h.elim
  · rename_i t x lo hi
    replace h := with1_eq h; obtain ⟨v, hv, h⟩ := h
    split at h
    · rename_i s
      cases ht : T t with
      | none => simp [ht] at h
      | some ti =>
        simp only [ht] at h
        split at h
        · rename_i hd
          split at h
          · refine slice_good hT hv ht hd 0 s.size h (fun ρ _ _ P w => by simp [Instr.sliceBounds]) ⟨fun y hy => by simp at hy, fun y hy => by simp at hy⟩
          · rename_i lo
            replace h := with1_eq h; obtain ⟨l, hl, h⟩ := h
            split at h
            · rename_i kd l
              refine slice_good hT hv ht hd l.toNat s.size h.2 (fun ρ h1 _ P w => ?_) ⟨fun y hy => ⟨kd, l, by cases hy; exact hl⟩, fun y hy => by simp at hy⟩
              have e1 := h1 lo rfl _ hl
              simp only [AVal.den] at e1
              simp [Instr.sliceBounds, e1, bound_ok P w kd l s.size .sliceB h.1]
            · exact h.elim
          · rename_i hi
            replace h := with1_eq h; obtain ⟨l, hl, h⟩ := h
            split at h
            · rename_i kd l
              refine slice_good hT hv ht hd 0 l.toNat h.2 (fun ρ _ h1 P w => ?_) ⟨fun y hy => by simp at hy, fun y hy => ⟨kd, l, by cases hy; exact hl⟩⟩
              have e1 := h1 hi rfl _ hl
              simp only [AVal.den] at e1
              simp [Instr.sliceBounds, e1, bound_ok P w kd l s.size .sliceAlen h.1]
            · exact h.elim
          · rename_i lo hi
            replace h := with1_eq h; obtain ⟨l, hl, h⟩ := h
            replace h := with1_eq h; obtain ⟨g, hg', h⟩ := h
            split at h
            · rename_i kd l kd' g
              refine slice_good hT hv ht hd l.toNat g.toNat h.2 (fun ρ h1 h2 P w => ?_) ⟨fun y hy => ⟨kd, l, by cases hy; exact hl⟩, fun y hy => ⟨kd', g, by cases hy; exact hg'⟩⟩
              have e1 := h1 lo rfl _ hl
              have e2 := h2 hi rfl _ hg'
              simp only [AVal.den] at e1 e2
              obtain ⟨⟨c1, c2, c3⟩, _⟩ := h
              simp [Instr.sliceBounds, e1, e2, bound_ok P w kd' g s.size .sliceAlen ⟨by omega, c3⟩, bound_ok P w kd l g.toNat .sliceB ⟨c1, by omega⟩]
            · exact h.elim
        · exact h.elim
    · rename_i r
      cases ht : T t with
      | none => simp [ht] at h
      | some ti =>
        simp only [ht] at h
        split at h
        · rename_i e' hd
          cases he : T e' with
          | none => simp [he] at h
          | some ei =>
            simp only [he] at h
            split at h
            · rename_i c e own xs hr
              split at h
              · rename_i hcl hsz
                have hsz := Nat.eq_of_beq_eq_true hsz
                split at h
                · exact rowSlice_good hT hv hr hcl ht hd he hsz h
                · exact ownSlice_good hT hv hr ht hd he h
              · exact h.elim
            · exact h.elim
        · exact h.elim
    · rename_i r a0 n0 sz
      cases ht : T t with
      | none => simp [ht] at h
      | some ti =>
        simp only [ht] at h
        split at h
        · rename_i e' hd
          cases he : T e' with
          | none => simp [he] at h
          | some ei =>
            simp only [he] at h
            split at h
            · rename_i c e own xs hr
              split at h
              · rename_i hcl hsz hsz2
                have hsz := Nat.eq_of_beq_eq_true hsz
                have hsz2 := Nat.eq_of_beq_eq_true hsz2
                subst hsz2
                rw [← hsz] at hv
                exact vwSlice_good hT hv hr ht hd he h.1 h.2
              · exact h.elim
            · exact h.elim
        · exact h.elim
    · exact h.elim
  · rename_i t l0 c0
    replace h := with1_eq h; obtain ⟨l, hl, h⟩ := h
    replace h := with1_eq h; obtain ⟨c', hc', h⟩ := h
    split at h
    · rename_i kl n kc m
      cases ht : T t with
      | none => simp [ht] at h
      | some i =>
        simp only [ht] at h
        split at h
        · rename_i e hd
          cases he : T e with
          | none => simp [he] at h
          | some ie =>
            simp only [he] at h
            cases hc : ie.ty with
            | none =>
              simp only [hc] at h
              split at h
              · rename_i e2 hds
                cases he2 : T e2 with
                | none => simp [he2] at h
                | some ie2 =>
                  simp only [he2] at h
                  split at h
                  · rename_i c hc2
                    split at h
                    · rename_i hz0; exact makeRows_good hT hl hc' ht hd he hz0 h
                    · exact h.elim
                  · exact h.elim
              · exact h.elim
            | some c => simp only [hc] at h; exact makeSlice_good hT hl hc' ht hd he hc h
        · exact h.elim
    · exact h.elim
  · replace h := with1_eq h; obtain ⟨v, hv, h⟩ := h
    split at h
    · exact nilCheck_good hv h
    · exact h.elim
  · replace h := with1_eq h; obtain ⟨g, hg', h⟩ := h
    replace h := withs_eq' h; obtain ⟨vs, h, hvs⟩ := h
    split at h
    · rename_i g fs cs
      split at h
      · rename_i c hl; exact call_good hG hg' hvs.2 hl h
      · rename_i c hl; exact bcall_good hG hg' hvs.2 hl h
      · exact h.elim
    · exact h.elim
  · rename_i t
    cases ht : T t with
    | none => simp [ht] at h
    | some ti =>
      simp only [ht] at h
      split at h
      · exact makeMap_good h
      · exact h.elim
  · rename_i t x i
    replace h := with1_eq h; obtain ⟨v, hv, h⟩ := h
    replace h := with1_eq h; obtain ⟨n, hn, h⟩ := h
    split at h
    case h_2 => exact h.elim
    rename_i b p q
    cases hb : hg b with
    | none => simp [hb] at h
    | some cs =>
      simp only [hb] at h
      cases hm : mapOf cs with
      | none => simp [hm] at h
      | some es =>
        simp only [hm] at h
        exact lookup_good hT hv hn hb hm h
  · replace h := withs_eq' h; obtain ⟨vs, h, hvs⟩ := h
    split at h
    · rename_i v
      split at h
      · rename_i t ha
        cases ht : T t with
        | none => simp [ht] at h
        | some ti =>
          simp only [ht] at h
          split at h
          · rename_i r e hd
            split at h
            · rename_i c e own xs hr
              exact len_slice_good hT hvs rfl ha ht hd h (fun A hp rw w hm hrg => ⟨(A.rw r).a, (A.rw r).cap, by
                have := (hm.row r _ (hrg _ _ hr)).1.len
                simp only [AVal.den, Hdr.val, this]⟩)
            · exact h.elim
          · rename_i r lo n sz e hd
            exact len_slice_good hT hvs rfl ha ht hd h (fun A hp rw w hm hrg => ⟨_, _, rfl⟩)
          · rename_i i n e hd
            exact len_slice_good hT hvs rfl ha ht hd h (fun A hp rw w hm hrg => ⟨_, _, rfl⟩)
          · rename_i r i e hd
            split at h
            · rename_i c e1 e2 own yss hr
              exact len_slice_good hT hvs rfl ha ht hd h.2 (fun A hp rw w hm hrg => ⟨(A.inn r i).a, (A.inn r i).cap, by
                have := ((hm.row r _ (hrg _ _ hr)).1.inner h.1).len
                simp only [AVal.den, Hdr.val, this]⟩)
            · exact h.elim
          · rename_i s hd; exact len_str_good hT hvs rfl ha ht hd h
          · rename_i e hd; exact len_nil_good hT hvs rfl ha ht hd h
          · exact h.elim
      · exact h.elim
    · exact h.elim
  · replace h := withs_eq' h; obtain ⟨vs, h, hvs⟩ := h
    split at h
    · split at h
      · rename_i hk; obtain rfl := sameK_eq hk
        exact mm_good (.inl rfl) hvs rfl (by simpa using h)
      · exact h.elim
    · exact h.elim
  · replace h := withs_eq' h; obtain ⟨vs, h, hvs⟩ := h
    split at h
    · split at h
      · rename_i hk; obtain rfl := sameK_eq hk
        exact mm_good (.inr rfl) hvs rfl (by simpa using h)
      · exact h.elim
    · exact h.elim
  · exact h.elim

end Go.Proofs.YtmbfflckgmdncaaDoor.Fw

/- The walk by reckoning is sound: pieces of code one behind the other. -/
namespace Go.Proofs.YtmbfflckgmdncaaDoor.Fw
open Go Go.RowKit
set_option linter.unusedVariables false
set_option linter.unusedSimpArgs false

mutual
theorem AVal.sc_mono {nb nb' nr nr' : Nat} (h1 : nb ≤ nb') (h2 : nr ≤ nr') : ∀ x : AVal, x.sc nb [] nr [] = true → x.sc nb' [] nr' [] = true
  | .loc i _, h => by simp only [AVal.sc, lvl_eq, List.not_mem_nil, or_false] at h ⊢; omega
  | .ele k _ _ _, h => by simp only [AVal.sc, lvl_eq, List.not_mem_nil, or_false] at h ⊢; omega
  | .row k, h => by simp only [AVal.sc, lvl_eq, List.not_mem_nil, or_false] at h ⊢; omega
  | .irow k _, h => by simp only [AVal.sc, lvl_eq, List.not_mem_nil, or_false] at h ⊢; omega
  | .iele k _ _ _ _, h => by simp only [AVal.sc, lvl_eq, List.not_mem_nil, or_false] at h ⊢; omega
  | .vw k _ _ _, h => by simp only [AVal.sc, lvl_eq, List.not_mem_nil, or_false] at h ⊢; omega
  | .bsl k _, h => by simp only [AVal.sc, lvl_eq, List.not_mem_nil, or_false] at h ⊢; omega
  | .mpr k, h => by simp only [AVal.sc, lvl_eq, List.not_mem_nil, or_false] at h ⊢; omega
  | .mps _, _ => by simp only [AVal.sc]
  | .agg cs, h => by simp only [AVal.sc] at h ⊢; exact scs_mono h1 h2 cs h
  | .tup vs, h => by simp only [AVal.sc] at h ⊢; exact scs_mono h1 h2 vs h
  | .fn _ fs cs, h => by
    simp only [AVal.sc] at h ⊢
    split at h
    · rename_i h3; rw [scs_mono h1 h2 fs h3]; exact scs_mono h1 h2 cs h
    · cases h
  | .int _ _, _ => by simp [AVal.sc]
  | .bool _, _ => by simp [AVal.sc]
  | .str _, _ => by simp [AVal.sc]
  | .raw _, _ => by simp [AVal.sc]
  | .junk, _ => by simp [AVal.sc]
theorem scs_mono {nb nb' nr nr' : Nat} (h1 : nb ≤ nb') (h2 : nr ≤ nr') : ∀ l : List AVal, scs nb [] nr [] l = true → scs nb' [] nr' [] l = true
  | [], _ => by simp [scs]
  | x :: l, h => by
    simp only [scs] at h ⊢
    split at h
    · rename_i h3; rw [AVal.sc_mono h1 h2 x h3]; exact scs_mono h1 h2 l h
    · cases h
end

theorem scs_all {nb nr : Nat} {eb er : List Nat} : ∀ {l : List AVal}, scs nb eb nr er l = true ↔ ∀ x ∈ l, x.sc nb eb nr er = true
  | [] => by simp [scs]
  | x :: l => by
    have ih := scs_all (nb := nb) (nr := nr) (eb := eb) (er := er) (l := l)
    simp only [scs, List.mem_cons, forall_eq_or_imp]
    split
    · rename_i h; simp [h, ih]
    · rename_i h; simp [h]

def boxL : Option (List AVal) → List (Option (List AVal)) | none => [] | some c => [some c]

theorem pushO_eq (l : List (Option (List AVal))) (x : Option (List AVal)) (k : List (Option (List AVal)) → Prop) : pushO l x k = k (l ++ boxL x) := by
  cases x <;> simp [pushO, pushK_eq, boxL]
theorem pushR_eq : ∀ (l : List (Option Row)) (rs : List Row) (k : List (Option Row) → Prop), pushR l rs k = k (l ++ rs.map some)
  | l, [], k => by simp [pushR]
  | l, r :: rs, k => by simp [pushR, pushK_eq, pushR_eq]

theorem nthj_rows (l : List (Option Row)) (rs : List Row) : nthj (l ++ rs.map some) = updL (nthj l) l.length rs := by
  funext i
  unfold updL
  rw [nthj_eq, nthj_eq]
  split
  · rename_i h
    rw [List.getElem?_append_right h.1, List.getElem?_map]
    cases hr : rs[i - l.length]? with
    | none => rfl
    | some r => rfl
  · rename_i h
    rw [List.getElem?_append]
    split
    · rfl
    · rw [List.getElem?_eq_none (by simp; omega), List.getElem?_eq_none (by omega)]

theorem nthj_boxes (l : List (Option (List AVal))) (x : Option (List AVal)) : nthj (l ++ boxL x) = updO (nthj l) l.length x := by
  funext i
  cases x with
  | none => simp [updO, boxL]
  | some c =>
    simp only [updO, boxL]
    rw [nthj_snoc]

section
variable {E : Env} {A : Asg} {σ : St} {a : Act} {w : World}

theorem Sat.ctx (h : Sat E A σ a w) (bo : Bool) (m : Nat) : Ctx E A (nthj σ.hp) (nthj σ.rows) σ.hp.length bo σ.rows.length m w where
  mem := h.mem
  klt := h.klt
  fb := fun _ => nthj_none (Nat.le_refl _)
  fr := fun i hi _ => nthj_none hi
  n0 := h.n0
  b0 := h.b0
  stb := fun B hB i c hi => (dens_congr (fun j hj => by
      have : j < σ.hp.length := by simpa using hj
      exact hB.bx j (fun _ => by omega)) (fun j hj => by
      have : j < σ.rows.length := by simpa using hj
      exact hB.rw j (.inl this)) c (h.hsc i c hi)).symm

theorem Sat.match (h : Sat E A σ a w) (o : Oper) : Match σ.fr o a.eval A := fun x _ v hv => ev_sound h hv

theorem putE_sound {eff : Eff} {u : Value} {w' : World} {dst : Option Tmp} {k : St → Prop} (h : Sat E A σ a w)
    (hp : Post E A (nthj σ.hp) (nthj σ.rows) σ.hp.length σ.rows.length w eff u w') (hk : putE σ dst eff k) : ∃ σ', k σ' ∧ ∃ B, Sat E B σ' (a.put dst u) w' := by
  obtain ⟨fr, hpl, rows⟩ := σ
  obtain ⟨box, rs, v⟩ := eff
  simp only [putE, pushO_eq, pushR_eq, lenN_eq] at hk
  split at hk
  · rename_i hsc
    split at hk
    · rename_i hbox
      obtain ⟨B, hag, rfl, hm, hsz⟩ := hp.out
      simp only at hag hm hsc hbox
      have hlen1 : hpl.length ≤ (hpl ++ boxL box).length := by simp
      have hlen2 : rows.length ≤ (rows ++ rs.map some).length := by simp
      have hden : ∀ x : AVal, x.sc hpl.length [] rows.length [] = true → x.den A = x.den B := fun x hx =>
        AVal.den_congr (fun j hj => by
          have : j < hpl.length := by simpa using hj
          exact hag.bx j (fun _ => by omega))
          (fun j hj => by
          have : j < rows.length := by simpa using hj
          exact hag.rw j (.inl this)) x hx
      have base : ∀ fr' (a' : Act), a'.defers = [] → a'.tmps.size = fr'.length →
          (∀ (t : Nat) (x : AVal), fr'[t]? = some x → (x = .junk ∨ a'.tmps.getD t undef = x.den B) ∧ x.sc (hpl ++ boxL box).length [] (rows ++ rs.map some).length [] = true) →
          Sat E B ⟨fr', hpl ++ boxL box, rows ++ rs.map some⟩ a' w' := fun fr' a' hd hs hf =>
        { defers := hd
          size := hs
          fr := fun t x hx => (hf t x hx).1
          sc := fun t x hx => (hf t x hx).2
          hsc := fun i cs hi => by
            simp only at hi ⊢
            rw [nthj_boxes] at hi
            cases box with
            | none => exact scs_mono hlen1 hlen2 cs (h.hsc i cs hi)
            | some c =>
              simp only [updO] at hi
              split at hi
              · cases hi; exact scs_mono hlen1 (Nat.le_refl _) _ hbox
              · exact scs_mono hlen1 hlen2 cs (h.hsc i cs hi)
          mem := by
            show Mem E B (nthj _) (nthj _) w'
            rw [nthj_boxes, nthj_rows]; exact hm
          klt := fun b hb => Nat.lt_of_lt_of_le (h.klt b hb) hsz
          n0 := Nat.le_trans h.n0 hlen2
          b0 := Nat.le_trans h.b0 hlen1 }
      have old : ∀ (t : Nat) (x : AVal), fr[t]? = some x → (x = .junk ∨ a.tmps.getD t undef = x.den B) ∧ x.sc (hpl ++ boxL box).length [] (rows ++ rs.map some).length [] = true := fun t x hx =>
        ⟨(h.fr t x hx).imp id (fun e => e.trans (hden x (h.sc t x hx))), AVal.sc_mono hlen1 hlen2 x (h.sc t x hx)⟩
      cases dst with
      | none => exact ⟨_, hk, B, base fr a h.defers h.size old⟩
      | some d =>
        simp only [setK_eq] at hk
        refine ⟨_, hk, B, base _ _ h.defers (by simp [Act.put, h.size]) fun t x hx => ?_⟩
        by_cases htd : t = d
        · subst htd
          rw [List.getElem?_set_self'] at hx
          cases hf : fr[t]? with
          | none => simp [hf] at hx
          | some y =>
            simp [hf] at hx
            subst hx
            have hlt : t < a.tmps.size := by rw [h.size]; exact (List.getElem?_eq_some_iff.1 hf).1
            exact ⟨.inr (by simp [Act.put, hlt]), hsc⟩
        · rw [List.getElem?_set_ne (fun e => htd e.symm)] at hx
          obtain ⟨h1, h2⟩ := old t x hx
          refine ⟨h1.imp id (fun e => ?_), h2⟩
          rw [← e]
          simp only [Act.put, Array.getD_eq_getD_getElem?]
          rw [Array.getElem?_setIfInBounds_ne (fun e => htd e.symm)]
    · exact hk.elim
  · exact hk.elim

/-- a place whose content the walk may forget -/
theorem Sat.setFr (h : Sat E A σ a w) (d : Nat) (x : AVal) (hx : ∀ y, σ.fr[d]? = some y → (x = .junk ∨ a.tmps.getD d undef = x.den A) ∧ x.sc σ.hp.length [] σ.rows.length [] = true) :
    Sat E A ⟨σ.fr.set d x, σ.hp, σ.rows⟩ a w :=
  { h with
    size := by simp [h.size]
    fr := fun t y hy => by
      by_cases htd : t = d
      · subst htd
        rw [List.getElem?_set_self'] at hy
        cases hf : σ.fr[t]? with
        | none => simp [hf] at hy
        | some z => simp [hf] at hy; subst hy; exact (hx z hf).1
      · rw [List.getElem?_set_ne (fun e => htd e.symm)] at hy; exact h.fr t y hy
    sc := fun t y hy => by
      by_cases htd : t = d
      · subst htd
        rw [List.getElem?_set_self'] at hy
        cases hf : σ.fr[t]? with
        | none => simp [hf] at hy
        | some z => simp [hf] at hy; subst hy; exact (hx z hf).2
      · rw [List.getElem?_set_ne (fun e => htd e.symm)] at hy; exact h.sc t y hy }

theorem Sat.skip (h : Sat E A σ a w) (d : Nat) : Sat E A ⟨σ.fr.set d uV, σ.hp, σ.rows⟩ (a.put (some d) undef) w :=
  { h with
    size := by simp [Act.put, h.size]
    fr := fun t y hy => by
      by_cases htd : t = d
      · subst htd
        rw [List.getElem?_set_self'] at hy
        cases hf : σ.fr[t]? with
        | none => simp [hf] at hy
        | some z =>
          simp [hf] at hy; subst hy
          refine .inr ?_
          have hlt : t < a.tmps.size := by rw [h.size]; exact (List.getElem?_eq_some_iff.1 hf).1
          simp [Act.put, hlt, uV, AVal.den, undef]
      · rw [List.getElem?_set_ne (fun e => htd e.symm)] at hy
        refine (h.fr t y hy).imp id (fun e => ?_)
        rw [← e]
        simp only [Act.put, Array.getD_eq_getD_getElem?]
        rw [Array.getElem?_setIfInBounds_ne (fun e => htd e.symm)]
    sc := fun t y hy => by
      by_cases htd : t = d
      · subst htd
        rw [List.getElem?_set_self'] at hy
        cases hf : σ.fr[t]? with
        | none => simp [hf] at hy
        | some z => simp [hf] at hy; subst hy; simp [uV, AVal.sc]
      · rw [List.getElem?_set_ne (fun e => htd e.symm)] at hy; exact h.sc t y hy }

end
end Go.Proofs.YtmbfflckgmdncaaDoor.Fw

/- The walk by reckoning is sound. -/
namespace Go.Proofs.YtmbfflckgmdncaaDoor.Fw
open Go Go.RowKit
set_option linter.unusedVariables false
set_option linter.unusedSimpArgs false

section
variable {E : Env} {A : Asg} {σ : St} {a : Act} {w : World} {T : TypeId → Option TInfo} {G : List (FuncId × Ctr)}

theorem setRow_other (w : World) (g : Nat) (cs : Array Value) (k : Nat) (h : k ≠ g) : (w.setRow g cs).heap[k]? = w.heap[k]? := by
  simp only [World.setRow, Array.getElem?_modify]
  rw [if_neg (fun e => h e.symm)]
theorem setRow_size (w : World) (g : Nat) (cs : Array Value) : (w.setRow g cs).heap.size = w.heap.size := by simp [World.setRow]

theorem Mem.setBox {hp : Nat → Option (List AVal)} {rw_ : Nat → Option Row} (h : Mem E A hp rw_ w) {i : Nat} {cs cs' : List AVal} (hi0 : E.ow i) (hi : hp i = some cs) (hm1 : mapOf cs = none) (hm2 : mapOf cs' = none) :
    Mem E A (upd hp i (some cs')) rw_ (w.setRow (A.bx i) (dens A cs').toArray) := by
  obtain ⟨hbx, hn⟩ := h.box i cs hi
  obtain ⟨t, ht⟩ := hbx.cells hm1
  have cases' : ∀ j c, upd hp i (some cs') j = some c → (j = i ∧ c = cs') ∨ (j ≠ i ∧ hp j = some c) := fun j c hj => by
    by_cases e : j = i
    · subst e; rw [upd_same] at hj; exact .inl ⟨rfl, (Option.some.inj hj).symm⟩
    · rw [upd_ne _ _ _ e] at hj; exact .inr ⟨e, hj⟩
  have some' : ∀ j c, upd hp i (some cs') j = some c → ∃ c', hp j = some c' := fun j c hj => by
    rcases cases' j c hj with ⟨rfl, _⟩ | ⟨_, h'⟩
    · exact ⟨cs, hi⟩
    · exact ⟨c, h'⟩
  refine ⟨?_, fun j c hj => ?_, fun k r hk => ?_, fun j l cj cl h0 hj hl hjl => ?_, fun j cj k r b h0 hj hk hf => ?_, h.rr, h.args⟩
  · refine h.kept.trans ⟨rfl, rfl, rfl, by rw [setRow_size]; exact Nat.le_refl _, fun k hk => setRow_other _ _ _ _ (fun e => hn.2 hi0 (e ▸ hk)), Dr.of (Nat.le_refl w.drawn)⟩
  · rcases cases' j c hj with ⟨rfl, rfl⟩ | ⟨hne, hj'⟩
    · exact ⟨⟨t, by rw [objOf_cells hm2]; exact setRow_heap _ _ _ _ _ _ ht⟩, hn⟩
    · obtain ⟨⟨t', ht'⟩, hn'⟩ := h.box j c hj'
      exact ⟨⟨t', by rw [setRow_other _ _ _ _ (fun e => h.bb i j cs c hi0 hi hj' (fun e => hne e.symm) e.symm)]; exact ht'⟩, hn'⟩
  · obtain ⟨hr, ho⟩ := h.row k r hk
    have hne : ∀ b, Feet r (A.rw k) (A.inn k) b → b ≠ A.bx i := fun b hb e => h.br i cs k r b hi0 hi hk hb e.symm
    refine ⟨hr.keep fun b hb => setRow_other _ _ _ _ (hne b hb), fun hown => ?_⟩
    obtain ⟨h1, h2⟩ := ho hown
    exact ⟨h1.keep hown fun b hb => setRow_other _ _ _ _ (hne b hb), h2⟩
  · obtain ⟨c1, h1⟩ := some' j cj hj
    obtain ⟨c2, h2⟩ := some' l cl hl
    exact h.bb j l c1 c2 h0 h1 h2 hjl
  · obtain ⟨c1, h1⟩ := some' j cj hj
    exact h.br j c1 k r b h0 h1 hk hf

theorem nthj_set {α : Type _} (l : List (Option α)) (i : Nat) (x : α) (hi : i < l.length) : nthj (l.set i (some x)) = upd (nthj l) i (some x) := by
  funext j
  rw [nthj_eq]
  by_cases h : j = i
  · subst h
    rw [upd_same, List.getElem?_set_self hi]; rfl
  · rw [upd_ne _ _ _ h, List.getElem?_set_ne (fun e => h e.symm), nthj_eq]

theorem one_den {x : AVal} (h : x.one = true) (A : Asg) : (x.den A).oneCell' = true := by
  cases x <;> simp_all [AVal.one, AVal.den, Value.oneCell', Hdr.ptr, Hdr.val]
theorem allOne_den : ∀ {l : List AVal}, allOne l = true → ∀ A, ∀ v ∈ dens A l, v.oneCell' = true
  | [], _, A, v, hv => by simp [dens] at hv
  | x :: l, h, A, v, hv => by
    simp only [allOne] at h
    split at h
    · rename_i hx
      simp only [dens, List.mem_cons] at hv
      rcases hv with rfl | hv
      · exact one_den hx A
      · exact allOne_den h A v hv
    · cases h

theorem cellsA_sc {v : AVal} {k : List AVal → Prop} (h : cellsA v k) {nb nr : Nat} (hv : v.sc nb [] nr [] = true) : ∃ cs, k cs ∧ (∀ A, (v.den A).cells = (dens A cs).toArray) ∧ scs nb [] nr [] cs = true := by
  unfold cellsA at h
  split at h
  case h_1 => exact ⟨_, h, fun A => by simp [AVal.den, Value.cells], by simpa [AVal.sc] using hv⟩
  all_goals first
    | exact h.elim
    | (refine ⟨_, h, fun A => ?_, ?_⟩
       · simp [AVal.den, Value.cells, dens, Hdr.val, Hdr.ptr]
       · simp only [scs, hv])

theorem flatMap_set {α β : Type} (f : α → List β) (xs : List α) (i : Nat) (x : α) (h : i < xs.length) : (xs.set i x).flatMap f = (xs.take i).flatMap f ++ f x ++ (xs.drop (i + 1)).flatMap f := by
  rw [List.set_eq_take_append_cons_drop, if_pos h]
  simp [List.flatMap_append, List.flatMap_cons]

theorem take_mid {α β : Type} (f : α → List β) (sz : Nat) (hf : ∀ x, (f x).length = sz) (xs : List α) (i : Nat) (x' d : α) (h : i < xs.length) (L V : List β) (off : Nat) (hoff : off + V.length ≤ sz) (hL : L.take (xs.length * sz) = xs.flatMap f)
    (hx : f x' = (f (xs.getD i d)).take off ++ V ++ (f (xs.getD i d)).drop (off + V.length)) :
    (L.take (i * sz + off) ++ V ++ L.drop (i * sz + off + V.length)).take (xs.length * sz) = (xs.set i x').flatMap f := by
  have hxs : xs = xs.take i ++ xs.getD i d :: xs.drop (i + 1) := by
    rw [List.getD_eq_getElem?_getD, List.getElem?_eq_getElem h]; simp
  have hP : ((xs.take i).flatMap f).length = i * sz := by rw [flatMap_length f sz hf, List.length_take, Nat.min_eq_left (by omega)]
  have hS : ((xs.drop (i + 1)).flatMap f).length = (xs.length - (i + 1)) * sz := by rw [flatMap_length f sz hf]; simp
  have hC : xs.flatMap f = (xs.take i).flatMap f ++ (f (xs.getD i d) ++ (xs.drop (i + 1)).flatMap f) := by
    conv => lhs; rw [hxs]
    simp [List.flatMap_append, List.flatMap_cons]
  have hN : xs.length * sz = i * sz + sz + (xs.length - (i + 1)) * sz := by
    rw [show i * sz + sz = (i + 1) * sz by rw [Nat.add_mul]; omega, ← Nat.add_mul]; congr 1; omega
  have hLL : L = (xs.take i).flatMap f ++ (f (xs.getD i d) ++ ((xs.drop (i + 1)).flatMap f ++ L.drop (xs.length * sz))) := by
    conv => lhs; rw [← List.take_append_drop (xs.length * sz) L, hL, hC]
    simp
  rw [flatMap_set f xs i x' h, hx]
  generalize L.drop (xs.length * sz) = R at hLL
  subst hLL
  generalize (xs.take i).flatMap f = P at *
  generalize (xs.drop (i + 1)).flatMap f = S at *
  have hy := hf (xs.getD i d)
  generalize f (xs.getD i d) = Y at *
  have t1 : (P ++ (Y ++ (S ++ R))).take (i * sz + off) = P ++ Y.take off := by
    rw [List.take_append, List.take_of_length_le (by omega), hP, show i * sz + off - i * sz = off by omega, List.take_append_of_le_length (by omega)]
  have t2 : (P ++ (Y ++ (S ++ R))).drop (i * sz + off + V.length) = Y.drop (off + V.length) ++ (S ++ R) := by
    rw [List.drop_append, List.drop_eq_nil_of_le (by omega), hP, show i * sz + off + V.length - i * sz = off + V.length by omega, List.drop_append_of_le_length (by omega), List.nil_append]
  rw [t1, t2]
  have hlen : (P ++ Y.take off ++ V ++ (Y.drop (off + V.length) ++ S)).length = xs.length * sz := by
    simp [hP, hS, hy]; omega
  rw [show P ++ Y.take off ++ V ++ (Y.drop (off + V.length) ++ (S ++ R)) = (P ++ Y.take off ++ V ++ (Y.drop (off + V.length) ++ S)) ++ R by simp, ← hlen, List.take_left']
  · simp
  · rfl

/-- A box is told anew: all other blocks stay. -/
theorem Mem.turnBox {hp : Nat → Option (List AVal)} {rw_ : Nat → Option Row} {w' : World} (h : Mem E A hp rw_ w) {i : Nat} {cs cs' : List AVal} (hi0 : E.ow i) (hi : hp i = some cs)
    (hk : Kept (fun b => b < w.heap.size ∧ b ≠ A.bx i) w w') (hK : ∀ b, E.K b → b < w.heap.size) (hb : BoxAt A w' (A.bx i) cs') : Mem E A (upd hp i (some cs')) rw_ w' := by
  have hn := (h.box i cs hi).2
  have cases' : ∀ j c, upd hp i (some cs') j = some c → (j = i ∧ c = cs') ∨ (j ≠ i ∧ hp j = some c) := fun j c hj => by
    by_cases e : j = i
    · subst e; rw [upd_same] at hj; exact .inl ⟨rfl, (Option.some.inj hj).symm⟩
    · rw [upd_ne _ _ _ e] at hj; exact .inr ⟨e, hj⟩
  have some' : ∀ j c, upd hp i (some cs') j = some c → ∃ c', hp j = some c' := fun j c hj => by
    rcases cases' j c hj with ⟨rfl, _⟩ | ⟨_, h'⟩
    · exact ⟨cs, hi⟩
    · exact ⟨c, h'⟩
  have other : ∀ b, b < w.heap.size → b ≠ A.bx i → w'.heap[b]? = w.heap[b]? := fun b h1 h2 => hk.block b ⟨h1, h2⟩
  refine ⟨h.kept.trans ⟨hk.os, hk.tape, hk.output, hk.size, fun b hKb => hk.block b ⟨hK b hKb, fun e => hn.2 hi0 (e ▸ hKb)⟩, hk.drawn⟩, fun j c hj => ?_, fun k r hk' => ?_, fun j l cj cl h0 hj hl hjl => ?_, fun j cj k r b h0 hj hk' hf => ?_, h.rr, h.args⟩
  · rcases cases' j c hj with ⟨rfl, rfl⟩ | ⟨hne, hj'⟩
    · exact ⟨hb, hn⟩
    · obtain ⟨⟨t', ht'⟩, hn'⟩ := h.box j c hj'
      exact ⟨⟨t', by rw [other _ (lt_of_heap ht') (fun e => h.bb i j cs c hi0 hi hj' (fun e => hne e.symm) e.symm)]; exact ht'⟩, hn'⟩
  · obtain ⟨hr, ho⟩ := h.row k r hk'
    have hne : ∀ b, Feet r (A.rw k) (A.inn k) b → b ≠ A.bx i := fun b hb e => h.br i cs k r b hi0 hi hk' hb e.symm
    refine ⟨hr.keep fun b hb => other b (h.foot_lt hk' hb) (hne b hb), fun hown => ?_⟩
    obtain ⟨h1, h2⟩ := ho hown
    exact ⟨h1.keep hown fun b hb => other b (h.foot_lt hk' hb) (hne b hb), h2⟩
  · obtain ⟨c1, h1⟩ := some' j cj hj
    obtain ⟨c2, h2⟩ := some' l cl hl
    exact h.bb j l c1 c2 h0 h1 h2 hjl
  · obtain ⟨c1, h1⟩ := some' j cj hj
    exact h.br j c1 k r b h0 h1 hk' hf

/-- Blocks of rows of the walk's own are turned: what is told of all others stays. -/
theorem Mem.drop {hp : Nat → Option (List AVal)} {rw_ rw' : Nat → Option Row} {w' : World} (h : Mem E A hp rw_ w) {tch : Nat → Prop} (hsub : ∀ k r, rw' k = some r → rw_ k = some r)
    (htch : ∀ b, tch b → ∃ k r, rw_ k = some r ∧ r.own = true ∧ rw' k = none ∧ Feet r (A.rw k) (A.inn k) b) (hk : Kept (fun b => b < w.heap.size ∧ ¬ tch b) w w') (hK : ∀ b, E.K b → b < w.heap.size) : Mem E A hp rw' w' := by
  have hnK : ∀ b, tch b → ¬ E.K b := fun b hb => by
    obtain ⟨k, r, h1, h2, _, h4⟩ := htch b hb
    exact ((h.row k r h1).2 h2).2 b h4
  refine (h.sub (fun _ _ h => h) hsub).keep ⟨hk.os, hk.tape, hk.output, hk.size, fun b hb => hk.block b ⟨hK b hb, fun ht => hnK b ht hb⟩, hk.drawn⟩ (fun i cs hi => hk.block _ ⟨h.box_lt hi, fun ht => ?_⟩) fun k r b hr hf => hk.block b ⟨h.foot_lt (hsub k r hr) hf, fun ht => ?_⟩
  · rcases h.kOr hi with hlt | hge
    · exact hnK _ ht hlt
    · obtain ⟨k, r, h1, h2, _, h4⟩ := htch _ ht
      exact h.br i cs k r _ hge hi h1 h4 rfl
  · obtain ⟨k', r', h1, h2, h3, h4⟩ := htch b ht
    exact h.rr k' k r' r b h1 (hsub k r hr) (fun e => by subst e; rw [hr] at h3; cases h3) h2 h4 hf

/-- A row of the walk's own is told anew: the blocks are the same. -/
theorem Mem.redo {hp : Nat → Option (List AVal)} {rw_ : Nat → Option Row} {w' : World} (h : Mem E A hp rw_ w) {r : Nat} {row row' : Row} (hr : rw_ r = some row) (ho : row.own = true)
    (hk : Kept (fun b => b < w.heap.size ∧ ¬ Feet row (A.rw r) (A.inn r) b) w w') (hK : ∀ b, E.K b → b < w.heap.size) (hrow : RowsOwn w' (A.rw r) (A.inn r) row')
    (hfeet : ∀ b, Feet row' (A.rw r) (A.inn r) b → Feet row (A.rw r) (A.inn r) b) : Mem E A hp (upd rw_ r (some row')) w' := by
  have hd := h.drop (rw' := upd rw_ r none) (tch := Feet row (A.rw r) (A.inn r)) (fun k c hk' => by
    by_cases e : k = r
    · subst e; rw [upd_same] at hk'; cases hk'
    · rwa [upd_ne _ _ _ e] at hk') (fun b hb => ⟨r, row, hr, ho, upd_same _ _ _, hb⟩) hk hK
  have hnk := ((h.row r row hr).2 ho).2
  have cases' : ∀ j c, upd rw_ r (some row') j = some c → (j = r ∧ c = row') ∨ (j ≠ r ∧ rw_ j = some c ∧ upd rw_ r none j = some c) := fun j c hj => by
    by_cases e : j = r
    · subst e; rw [upd_same] at hj; exact .inl ⟨rfl, (Option.some.inj hj).symm⟩
    · rw [upd_ne _ _ _ e] at hj; exact .inr ⟨e, hj, by rw [upd_ne _ _ _ e]; exact hj⟩
  refine ⟨hd.kept, hd.box, fun k c hk' => ?_, hd.bb, fun i ci k c b h0 hi hk' hf => ?_, fun k k' c c' b hk1 hk2 hkk hown hf hf' => ?_, hd.args⟩
  · rcases cases' k c hk' with ⟨rfl, rfl⟩ | ⟨hne, _, hk2⟩
    · exact ⟨hrow.at, fun _ => ⟨hrow, fun b hb => hnk b (hfeet b hb)⟩⟩
    · exact hd.row k c hk2
  · rcases cases' k c hk' with ⟨rfl, rfl⟩ | ⟨hne, _, hk2⟩
    · exact h.br i ci k row b h0 hi hr (hfeet b hf)
    · exact hd.br i ci k c b h0 hi hk2 hf
  · rcases cases' k c hk1 with ⟨rfl, rfl⟩ | ⟨_, h1, h1'⟩ <;> rcases cases' k' c' hk2 with ⟨rfl, rfl⟩ | ⟨_, h2, h2'⟩
    · exact hkk rfl
    · exact h.rr k k' row c' b hr h2 hkk ho (hfeet b hf) hf'
    · exact h.rr k k' c row b h1 hr hkk hown hf (hfeet b hf')
    · exact h.rr k k' c c' b h1 h2 hkk hown hf hf'

theorem kept_setRow (w : World) (g : Nat) (cs : Array Value) {K : Nat → Prop} (hK : ∀ b, K b → b ≠ g) : Kept K w (w.setRow g cs) :=
  ⟨rfl, rfl, rfl, by rw [setRow_size]; exact Nat.le_refl _, fun k hk => setRow_other _ _ _ _ (hK k hk), Dr.of (Nat.le_refl w.drawn)⟩

/-- A store into an element of a row of the walk's own. -/
theorem store_own {P : Program} {T : TypeId → Option TInfo} (hT : TOk P T) {t : TypeId} {ti : TInfo} (ht : T t = some ti) {hd : Hdr} {c : TyC} {e : TypeId} {xs : List c.α} (ho : RowOwn w hd ⟨c, e, true, xs⟩) {i off : Nat} (hi : i < xs.length) {vs cs' : List AVal} {x' : c.α}
    (hb : vs.length = ti.size) (hle : off + vs.length ≤ c.sz) (hcs' : cs' = (c.enc (xs.getD i c.dflt)).take off ++ vs ++ (c.enc (xs.getD i c.dflt)).drop (off + vs.length)) (hdec : c.dec cs' = some x') (vv : Value) (hvs : vv.cells = (dens A vs).toArray) :
    ∃ g cur', hd.a = some ⟨g, 0, none⟩ ∧ RowOwn (w.setRow g cur') hd ⟨c, e, true, xs.set i x'⟩ ∧ ∀ ρ : Operand → Value, ∀ x v ty pos after guard, ρ x = hd.ptr (i * c.sz + off) → ρ v = vv →
      (execOp ρ ⟨none, .store t x v, ty, pos, after, guard⟩).run P w = .ok .skip (w.setRow g cur') := by
  have henc := TyC.dec_enc hdec
  have hfl : ∀ v ∈ vs, v.flat = true := fun v hv => c.flat x' v (by rw [henc, hcs']; simp [hv])
  have hv0 : dens A vs = dens A0 vs := dens_flat hfl A A0
  have hone : ∀ v ∈ dens A vs, v.oneCell' = true := fun v hv => by
    rw [dens_eq] at hv
    obtain ⟨y, hy, rfl⟩ := List.mem_map.1 hv
    have := hfl y hy
    cases y <;> simp_all [AVal.flat, AVal.den, Value.oneCell']
  rcases ho.2 with ⟨_, hn⟩ | ⟨g, cap, cur, hv, _, hg, hle2, hm2, hcs, htk⟩
  · simp at hn; rw [hn] at hi; simp at hi
  · have hv' := hv
    simp only [Hdr.val, Value.slice.injEq] at hv'
    obtain ⟨hva, hvl, hvc⟩ := hv'
    have hcs : cur.size = cap * c.sz := hcs
    have hle2 : xs.length ≤ cap := hle2
    have hl2 : (dens A vs).length = vs.length := by rw [dens_eq]; simp
    have hbnd : i * c.sz + off + vs.length ≤ cur.size := by
      have h1 : (i + 1) * c.sz ≤ cap * c.sz := Nat.mul_le_mul_right _ (by omega)
      rw [Nat.add_mul] at h1
      rw [hcs]; omega
    have hst := run_storeCells_at P g (i * c.sz + off) e (dens A vs) 0 cur w hg (by rw [hl2]; omega) hone
    simp only [Nat.add_zero, hl2] at hst
    let cur' : Array Value := (cur.toList.take (i * c.sz + off) ++ dens A vs ++ cur.toList.drop (i * c.sz + off + vs.length)).toArray
    have hown' : RowOwn (w.setRow g cur') hd ⟨c, e, true, xs.set i x'⟩ := by
      refine ⟨by rw [Row.cells_length], .inr ⟨g, cap, cur', by rw [hv]; simp, Nat.zero_le _, setRow_heap _ _ _ _ _ _ hg, by simpa using hle2, hm2, ?_, ?_⟩⟩
      · show cur'.size = cap * c.sz
        simp only [cur', List.size_toArray, List.length_append, List.length_take, List.length_drop, hl2, Array.length_toList]; omega
      · simp only [cur', List.length_set, Row.cells]
        rw [← hl2]
        refine take_mid (fun x => dens A0 (c.enc x)) c.sz (fun x => by rw [dens_eq]; simp [c.enc_len]) xs i x' c.dflt hi cur.toList (dens A vs) off (by rw [hl2]; exact hle) htk ?_
        rw [hl2, hv0, henc, hcs']
        simp only [dens_eq, List.map_append, List.map_take, List.map_drop]
    refine ⟨g, cur', hva, hown', fun ρ x v ty pos after guard ex evv => ?_⟩
    have hszs : ((dens A vs).toArray.size ≠ ti.size) = False := by simp [hl2, hb]
    have hadd : (⟨g, 0, none⟩ : Addr).add (i * c.sz + off) = ⟨g, i * c.sz + off, none⟩ := by unfold Addr.add; split <;> simp_all
    have hptr : hd.ptr (i * c.sz + off) = .pointer (some ⟨g, i * c.sz + off, none⟩) := by
      simp only [Hdr.ptr, hva, Option.getD_some, hadd]
    simp only [execOp, ex, evv, hptr]
    simp only [Instr.storeAt, Instr.sureAddr, Sem.run_bind, Sem.run_pure, Result.andThen_ok, storeVar, run_size (hT _ _ ht), hvs, hszs, if_false, hst]
    rfl

section
variable {c : TyC} {e' e : TypeId} {yss : List (List c.α)} {h : Hdr} {ih : Nat → Hdr}
theorem parts_get {own : Bool} (j : Nat) (hj : j < yss.length) : ((⟨.lst c e', e, own, yss⟩ : Row).parts h ih)[j + 1]? = some (ih j, ⟨c, e', own, yss.getD j []⟩) := by
  rw [parts_lst, List.getElem?_cons_succ, List.getElem?_map, List.getElem?_range hj]; rfl
/-- One of the rows in a row of rows is told anew, in its own block. -/
theorem RowsOwn.setInner {i g : Nat} {ys : List c.α} {cur' : Array Value} (ho : RowsOwn w h ih ⟨.lst c e', e, true, yss⟩) (hi : i < yss.length) (hva : (ih i).a = some ⟨g, 0, none⟩)
    (hown : RowOwn (w.setRow g cur') (ih i) ⟨c, e', true, ys⟩) : RowsOwn (w.setRow g cur') h ih ⟨.lst c e', e, true, yss.set i ys⟩ := by
  have hpi := parts_get (e' := e') (e := e) (h := h) (ih := ih) (own := true) i hi
  refine ⟨fun p hp => ?_, fun i1 j1 p q hp hq hij a b ha hb => ?_⟩
  · rw [parts_lst, List.length_set] at hp
    simp only [List.mem_cons, List.mem_map, List.mem_range] at hp
    rcases hp with rfl | ⟨k, hk, rfl⟩
    · refine (ho.outer).keep fun a ha => setRow_other _ _ _ _ ?_
      exact ho.dis 0 (i + 1) _ _ rfl hpi (by omega) a _ ha hva
    · by_cases hki : k = i
      · subst hki
        have : (yss.set k ys).getD k [] = ys := by simp [List.getD, hi]
        rw [this]; exact hown
      · have : (yss.set i ys).getD k [] = yss.getD k [] := by
          rw [List.getD_eq_getElem?_getD, List.getD_eq_getElem?_getD, List.getElem?_set_ne (fun e => hki e.symm)]
        rw [this]
        refine (ho.inner hk).keep fun a ha => setRow_other _ _ _ _ ?_
        exact ho.dis (k + 1) (i + 1) _ _ (parts_get k hk) hpi (by omega) a _ ha hva
  · have same : ∀ (m : Nat) (p : Hdr × Row), ((⟨.lst c e', e, true, yss.set i ys⟩ : Row).parts h ih)[m]? = some p → ∃ q, ((⟨.lst c e', e, true, yss⟩ : Row).parts h ih)[m]? = some q ∧ q.1 = p.1 := fun m p hm => by
      rw [parts_lst, List.length_set] at hm
      rw [parts_lst]
      cases m with
      | zero => simp at hm; subst hm; exact ⟨_, rfl, rfl⟩
      | succ m =>
        rw [List.getElem?_cons_succ, List.getElem?_map] at hm ⊢
        cases hr : (List.range yss.length)[m]? with
        | none => rw [hr] at hm; cases hm
        | some y => rw [hr] at hm; cases hm; exact ⟨_, rfl, rfl⟩
    obtain ⟨p', hp', e1⟩ := same _ _ hp
    obtain ⟨q', hq', e2⟩ := same _ _ hq
    exact ho.dis i1 j1 p' q' hp' hq' hij a b (by rw [e1]; exact ha) (by rw [e2]; exact hb)
theorem feet_setInner {i : Nat} {ys : List c.α} {own : Bool} {b : Nat} (ho : own = true) (hf : Feet ⟨.lst c e', e, own, yss.set i ys⟩ h ih b) : Feet ⟨.lst c e', e, own, yss⟩ h ih b := by
  subst ho
  obtain ⟨p, hp, _, a, ha, rfl⟩ := hf
  rw [parts_lst, List.length_set] at hp
  simp only [List.mem_cons, List.mem_map, List.mem_range] at hp
  rcases hp with rfl | ⟨k, hk, rfl⟩
  · exact ⟨_, mem_outer, .inl rfl, a, ha, rfl⟩
  · exact ⟨_, mem_inner hk, .inl rfl, a, ha, rfl⟩
end

theorem nthj_setR (l : List (Option Row)) (i : Nat) (x : Row) (hi : i < l.length) : nthj (l.set i (some x)) = upd (nthj l) i (some x) := nthj_set l i x hi

theorem stA_sound (hT : TOk E.P T) {t : TypeId} {x v : Operand} {k : St → Prop} (hs : Sat E A σ a w) (h : stA T E.owB σ t x v k) :
    ∃ σ' w', k σ' ∧ Sat E A σ' a w' ∧ ∀ ty pos after guard, (execOp a.eval ⟨none, .store t x v, ty, pos, after, guard⟩).run E.P w = .ok .skip w' := by
  obtain ⟨fr, hp, rows⟩ := σ
  simp only [stA] at h
  replace h := with1_eq h; obtain ⟨xv, hx, h⟩ := h
  replace h := with1_eq h; obtain ⟨vv, hv, h⟩ := h
  have ex := ev_sound hs (x := x) hx
  have evv := ev_sound hs (x := v) hv
  have hvsc := ev_sc hs (x := v) hv
  cases xv <;> simp only at h
  case loc i off =>
    cases hb0 : E.owB i with
    | false => simp [hb0] at h
    | true =>
    have hi0 : E.ow i := hb0
    simp only [hb0] at h
    cases hi : nthj hp i with
    | none => simp [hi] at h
    | some cs =>
      simp only [hi] at h
      cases ht : T t with
      | none => simp [ht] at h
      | some ti =>
        simp only [ht] at h
        replace h := cellsA_sc h hvsc; obtain ⟨vs, h, hvs, hsc⟩ := h
        split at h
        · rename_i hb
          have hb := Nat.eq_of_beq_eq_true hb
          rw [lenN_eq] at hb
          split at h
          · rename_i hone
            obtain ⟨hle, h⟩ := over_eq _ _ _ _ h
            split at h
            case h_2 => exact h.elim
            rename_i hm1 hm2
            rw [setK_eq] at h
            have hil : i < hp.length := by
              rcases Nat.lt_or_ge i hp.length with h' | h'
              · exact h'
              · rw [nthj_none h'] at hi; cases hi
            have hm := hs.mem.setBox (cs' := cs.take off ++ vs ++ cs.drop (off + vs.length)) hi0 hi hm1 hm2
            refine ⟨_, w.setRow (A.bx i) (dens A (cs.take off ++ vs ++ cs.drop (off + vs.length))).toArray, h, ?_, fun ty pos after guard => ?_⟩
            · have hcsc := hs.hsc i cs hi
              refine { hs with
                sc := fun t y hy => by simpa using hs.sc t y hy
                hsc := fun j c hj => ?_
                mem := ?_
                klt := fun b hb' => by rw [setRow_size]; exact hs.klt b hb'
                b0 := by simpa using hs.b0 }
              · simp only [List.length_set]
                simp only [nthj_set _ _ _ hil] at hj
                by_cases hji : j = i
                · subst hji
                  rw [upd_same] at hj
                  cases hj
                  rw [scs_all] at hcsc ⊢
                  rw [scs_all] at hsc
                  intro y hy
                  simp only [List.mem_append] at hy
                  rcases hy with (hy | hy) | hy
                  · exact hcsc y (List.mem_of_mem_take hy)
                  · exact hsc y hy
                  · exact hcsc y (List.mem_of_mem_drop hy)
                · rw [upd_ne _ _ _ hji] at hj; exact hs.hsc j c hj
              · simp only [nthj_set _ _ _ hil]; exact hm
            · obtain ⟨t', ht'⟩ := (hs.mem.box i cs hi).1.cells hm1
              have hl : (dens A cs).length = cs.length := by rw [dens_eq]; simp
              have hl2 : (dens A vs).length = vs.length := by rw [dens_eq]; simp
              have hst := run_storeCells_at E.P (A.bx i) off t' (dens A vs) 0 (dens A cs).toArray w ht' (by simp [hl, hl2]; omega) (allOne_den hone A)
              have hcells : (vv.den A).cells = (dens A vs).toArray := hvs A
              have hsz : ((dens A vs).toArray.size ≠ ti.size) = False := by simp [hl2, hb]
              simp only [execOp, ex, evv, AVal.den]
              simp only [Instr.storeAt, Instr.sureAddr, Sem.run_bind, Sem.run_pure, Result.andThen_ok, storeVar, run_size (hT _ _ ht), hcells, hsz, if_false, hst]
              simp only [dens_eq, List.map_append, List.map_take, List.map_drop, Nat.add_zero, List.length_map]
          · exact h.elim
        · exact h.elim
  case ele r i off sz =>
    cases hr : nthj rows r with
    | none => simp [hr] at h
    | some row =>
      obtain ⟨c, e, own, xs⟩ := row
      cases own
      case false => simp [hr] at h
      case true =>
      simp only [hr] at h
      cases ht : T t with
      | none => simp [ht] at h
      | some ti =>
        simp only [ht] at h
        split at h
        case h_2 => exact h.elim
        rename_i hcl
        replace h := cellsA_sc h hvsc; obtain ⟨vs, h, hvs, hsc⟩ := h
        split at h
        · rename_i hb
          have hb := Nat.eq_of_beq_eq_true hb
          rw [lenN_eq] at hb
          split at h
          · rename_i hsz
            have hsz := Nat.eq_of_beq_eq_true hsz
            obtain ⟨hle, h⟩ := over_eq _ _ _ _ h
            rw [c.enc_len] at hle
            split at h
            · rename_i x' hdec
              obtain ⟨hi, h⟩ := h
              replace h := eqK_eq h
              rw [setK_eq] at h
              obtain ⟨hat, ho⟩ := hs.mem.row r _ hr
              obtain ⟨ho, hnk⟩ := ho rfl
              have hil : r < rows.length := by
                rcases Nat.lt_or_ge r rows.length with h' | h'
                · exact h'
                · rw [nthj_none h'] at hr; cases hr
              obtain ⟨g, cur', hva, hown', hrun⟩ := store_own (A := A) hT ht (ho.flat hcl) hi hb hle rfl hdec (vv.den A) (hvs A)
              have hm := hs.mem.redo (row' := ⟨c, e, true, xs.set i x'⟩) hr rfl (kept_setRow w g cur' fun b hb2 e2 => hb2.2 (by subst e2; exact Foot.feet ⟨.inl rfl, _, hva, rfl⟩ hcl)) hs.klt (hown'.rows hcl) (fun b hb2 => by
                obtain ⟨_, h2⟩ := Feet.flat hb2 hcl
                exact Foot.feet ⟨.inl rfl, h2⟩ hcl)
              refine ⟨_, w.setRow g cur', h, ?_, fun ty pos after guard => hrun a.eval x v ty pos after guard (by rw [ex]; simp only [AVal.den, hsz]) evv⟩
              refine { hs with
                sc := fun t y hy => by simpa using hs.sc t y hy
                hsc := fun j cc hj => by simpa using hs.hsc j cc hj
                mem := ?_
                klt := fun b hb' => by rw [setRow_size]; exact hs.klt b hb'
                n0 := by simpa using hs.n0 }
              simp only [nthj_set _ _ _ hil]; exact hm
            · exact h.elim
          · exact h.elim
        · exact h.elim
  case iele r i j off sz =>
    split at h
    case h_2 => exact h.elim
    rename_i c e' e yss hr
    cases ht : T t with
    | none => simp [ht] at h
    | some ti =>
      simp only [ht] at h
      split at h
      case h_2 => exact h.elim
      rename_i hcl
      replace h := cellsA_sc h hvsc; obtain ⟨vs, h, hvs, hsc⟩ := h
      split at h
      · rename_i hb
        have hb := Nat.eq_of_beq_eq_true hb
        rw [lenN_eq] at hb
        split at h
        · rename_i hsz
          have hsz := Nat.eq_of_beq_eq_true hsz
          obtain ⟨hle, h⟩ := over_eq _ _ _ _ h
          rw [c.enc_len] at hle
          split at h
          · rename_i x' hdec
            obtain ⟨⟨hi, hj⟩, h⟩ := h
            replace h := eqK_eq h
            rw [setK_eq] at h
            obtain ⟨hat, ho⟩ := hs.mem.row r _ hr
            obtain ⟨ho, hnk⟩ := ho rfl
            have hil : r < rows.length := by
              rcases Nat.lt_or_ge r rows.length with h' | h'
              · exact h'
              · rw [nthj_none h'] at hr; cases hr
            obtain ⟨g, cur', hva, hown', hrun⟩ := store_own (A := A) hT ht (ho.inner hi) hj hb hle rfl hdec (vv.den A) (hvs A)
            have hfg : Feet ⟨.lst c e', e, true, yss⟩ (A.rw r) (A.inn r) g := ⟨_, mem_inner hi, .inl rfl, _, hva, rfl⟩
            have hm := hs.mem.redo (row' := ⟨.lst c e', e, true, @List.set (List c.α) yss i ((@List.getD (List c.α) yss i []).set j x')⟩) hr rfl (kept_setRow w g cur' fun b hb2 e2 => hb2.2 (by subst e2; exact hfg)) hs.klt (ho.setInner hi hva hown') (fun b hb2 => feet_setInner rfl hb2)
            refine ⟨_, w.setRow g cur', h, ?_, fun ty pos after guard => hrun a.eval x v ty pos after guard (by rw [ex]; simp only [AVal.den, hsz]) evv⟩
            refine { hs with
              sc := fun t y hy => by simpa using hs.sc t y hy
              hsc := fun j cc hj => by simpa using hs.hsc j cc hj
              mem := ?_
              klt := fun b hb' => by rw [setRow_size]; exact hs.klt b hb'
              n0 := by simpa using hs.n0 }
            simp only [nthj_set _ _ _ hil]; exact hm
          · exact h.elim
        · exact h.elim
      · exact h.elim
  all_goals exact h.elim

end
end Go.Proofs.YtmbfflckgmdncaaDoor.Fw
