/- Each operation's effect is what the machine comes to: more of them. -/
import Derived.Test.YtlplngafncobkaaFwI
namespace Go.Proofs.Ytlplngafncobkaa.Fw
open Go Go.RowKit
set_option linter.unusedVariables false
set_option linter.unusedSimpArgs false

section
variable {E : Env} {T : TypeId → Option TInfo} {G : List (FuncId × Ctr)} {hg : Nat → Option (List AVal)} {rg : Nat → Option Row} {lb lr : Nat} {fr : List AVal} {o : Oper} {k : Eff → Prop}
variable {dst : Option Tmp} {ty : TypeId} {pos : String} {after : Array Edge} {guard : Option (Nat × Bool)}

theorem move_good {x : Operand} {v : AVal} (hx : ev fr x = some v) (h : k (val v)) : Good E hg rg lb lr fr ⟨dst, .move x, ty, pos, after, guard⟩ k :=
  good_val h fun A hp rw w ρ hm h1 h2 h3 => by simp only [execOp, h3 x (by simp [Op.operands]) v hx]; rfl
theorem assign_good {x : Operand} {v : AVal} (hx : ev fr x = some v) (h : k (val v)) : Good E hg rg lb lr fr ⟨dst, .assign x, ty, pos, after, guard⟩ k :=
  good_val h fun A hp rw w ρ hm h1 h2 h3 => by simp only [execOp, h3 x (by simp [Op.operands]) v hx]; rfl

theorem pick_good {c a b : Operand} {b0 : Bool} (hc : ev fr c = some (.bool b0)) (h : bcond b0 (with1 fr a fun v => k (val v)) (with1 fr b fun v => k (val v))) :
    Good E hg rg lb lr fr ⟨dst, .pick c a b, ty, pos, after, guard⟩ k := by
  cases b0
  · obtain ⟨v, hv, hk⟩ := with1_eq (show with1 fr b fun v => k (val v) from h)
    refine good_val hk fun A hp rw w ρ hm h1 h2 h3 => ?_
    simp only [execOp, h3 c (by simp [Op.operands]) _ hc, h3 b (by simp [Op.operands]) _ hv, AVal.den]
    simp [asBool]
  · obtain ⟨v, hv, hk⟩ := with1_eq (show with1 fr a fun v => k (val v) from h)
    refine good_val hk fun A hp rw w ρ hm h1 h2 h3 => ?_
    simp only [execOp, h3 c (by simp [Op.operands]) _ hc, h3 a (by simp [Op.operands]) _ hv, AVal.den]
    simp [asBool]

theorem run_newVar (P : Program) (w : World) (t : TypeId) (v : Value) : (newVar t v).run P w = .ok ⟨w.heap.size, 0, none⟩ { w with heap := w.heap.push (.cells v.cells t) } := by
  simp [newVar, newRow, newObj, Sem.run]

theorem alloc_good (hT : TOk E.P T) {t : TypeId} {i : TInfo} (ht : T t = some i) (h : k ⟨some i.zero, [], .loc lb 0⟩) : Good E hg rg lb lr fr ⟨dst, .alloc t, ty, pos, after, guard⟩ k := by
  refine ⟨_, h, fun A hp rw w ρ hc h1 h2 h3 h4 h5 => ?_⟩
  obtain ⟨z, hz, hzc⟩ := run_zero (hT _ _ ht) w
  have hfl : ∀ c ∈ i.zero, c.flat = true := List.all_eq_true.1 (hT _ _ ht).flat
  have hrun : (execOp ρ ⟨dst, .alloc t, ty, pos, after, guard⟩).run E.P w = .ok (.value (.pointer (some ⟨w.heap.size, 0, none⟩))) { w with heap := w.heap.push (.cells (dens A i.zero).toArray t) } := by
    simp only [execOp]
    refine wrapF _ _ _ _ ?_
    simp only [Instr.alloc, Sem.run_bind, hz, Result.andThen_ok, run_newVar, Sem.run_pure, hzc, dens_flat hfl A0 A]
  rw [hrun]
  exact post_box hc (fun B hB => dens_flat hfl _ _)

theorem box_good {t : TypeId} {x : Operand} {v : AVal} (hx : ev fr x = some v) (h : cellsA v fun cs => k ⟨some cs, [], .loc lb 0⟩) : Good E hg rg lb lr fr ⟨dst, .box t x, ty, pos, after, guard⟩ k := by
  obtain ⟨cs, hk, hcs⟩ := cellsA_eq h
  refine ⟨_, hk, fun A hp rw w ρ hc h1 h2 h3 h4 h5 => ?_⟩
  have hrun : (execOp ρ ⟨dst, .box t x, ty, pos, after, guard⟩).run E.P w = .ok (.value (.pointer (some ⟨w.heap.size, 0, none⟩))) { w with heap := w.heap.push (.cells (dens A cs).toArray t) } := by
    simp only [execOp]
    refine wrapF _ _ _ _ ?_
    rw [h3 x (by simp [Op.operands]) _ hx]
    simp only [Instr.box, Sem.run_bind, run_newVar, Result.andThen_ok, Sem.run_pure, hcs]
  rw [hrun]
  exact post_box hc (fun B hB => h4 B hB cs rfl)

theorem unOp_good {op : UnOp} {t : TypeId} {x : Operand} {v : AVal} (hx : ev fr x = some v) (h : evUn op v fun r => k (val r)) : Good E hg rg lb lr fr ⟨dst, .unOp op t x, ty, pos, after, guard⟩ k := by
  obtain ⟨u, hk, hu⟩ := evUn_sound h
  refine good_val hk fun A hp rw w ρ hm h1 h2 h3 => ?_
  simp only [execOp]
  refine wrapF _ _ _ _ ?_
  rw [h3 x (by simp [Op.operands]) _ hx]
  exact hu A E.P w

theorem fieldA_eq {i : TInfo} {f : Nat} {k : Field → Prop} (h : fieldA i f k) : ∃ fs fd, i.desc = .struct fs ∧ fs[f]? = some fd ∧ k fd := by
  unfold fieldA at h
  split at h
  · rename_i fs hd
    rw [nth_eq] at h
    cases hf : fs.toList[f]? with
    | none => simp [hf] at h
    | some fd => simp only [hf] at h; exact ⟨fs, fd, hd, by simpa using hf, h⟩
  · exact h.elim

theorem fieldAddr_good (hT : TOk E.P T) {s : TypeId} {x : Operand} {f : Nat} {v : AVal} {i : TInfo} (hx : ev fr x = some v) (hs : T s = some i)
    (h : fieldA i f fun fd => (match T fd.type with
      | some fi => (match fi.size with
        | 0 => False
        | _ + 1 => faddrA v fd.offset fun u => k (val u))
      | none => False)) : Good E hg rg lb lr fr ⟨dst, .fieldAddr s x f, ty, pos, after, guard⟩ k := by
  obtain ⟨fs, fd, hd, hfd, h⟩ := fieldA_eq h
  cases hft : T fd.type with
  | none => simp [hft] at h
  | some fi =>
    simp only [hft] at h
    have hund := (hT _ _ hs).und
    rw [hd] at hund
    have add_add : ∀ (a : Addr) (m n : Nat), (a.add m).add n = a.add (m + n) := fun a m n => by
      unfold Addr.add
      by_cases h1 : m = 0 <;> by_cases h2 : n = 0 <;> simp [h1, h2] <;> omega
    have hrun : ∀ (a : Addr) (w : World), fi.size ≠ 0 → (Instr.fieldAt s (.pointer (some a)) f).run E.P w = .ok (.pointer (some (a.add fd.offset))) w := fun a w hne => by
      simp only [Instr.fieldAt, Sem.run_bind, run_underlying hund, Result.andThen_ok, hfd, Instr.sureAddr, Sem.run_pure, fieldPlace, run_size (hT _ _ hft)]
      rw [if_neg hne]
      rfl
    split at h
    · exact h.elim
    · rename_i n hn
      unfold faddrA at h
      cases v <;> simp only [numK_eq] at h
      case loc b off _ =>
        refine good_val h fun A hp rw w ρ hm h1 h2 h3 => ?_
        simp only [execOp]
        refine wrapF _ _ _ _ ?_
        rw [h3 x (by simp [Op.operands]) _ hx]
        simp only [AVal.den]
        rw [hrun _ _ (by omega)]
        have : (⟨A.bx b, off, none⟩ : Addr).add fd.offset = ⟨A.bx b, off + fd.offset, none⟩ := by unfold Addr.add; split <;> simp_all
        rw [this]
      case ele r j off sz _ =>
        refine good_val h fun A hp rw w ρ hm h1 h2 h3 => ?_
        simp only [execOp]
        refine wrapF _ _ _ _ ?_
        rw [h3 x (by simp [Op.operands]) _ hx]
        simp only [AVal.den, Hdr.ptr]
        rw [hrun _ _ (by omega), add_add, Nat.add_assoc]
      all_goals exact h.elim

theorem field_good (hT : TOk E.P T) {s : TypeId} {x : Operand} {f : Nat} {cs : List AVal} {i : TInfo} (hx : ev fr x = some (.agg cs)) (hs : T s = some i)
    (h : fieldA i f fun fd => (match T fd.type with | some fi => partA fi.agg fi.size cs fd.offset fun u => k (val u) | none => False)) : Good E hg rg lb lr fr ⟨dst, .field s x f, ty, pos, after, guard⟩ k := by
  obtain ⟨fs, fd, hd, hfd, h⟩ := fieldA_eq h
  cases hft : T fd.type with
  | none => simp [hft] at h
  | some fi =>
    simp only [hft] at h
    have hund := (hT _ _ hs).und
    rw [hd] at hund
    obtain ⟨u, hk, hu⟩ := part_sound (hT _ _ hft) h
    refine good_val hk fun A hp rw w ρ hm h1 h2 h3 => ?_
    simp only [execOp]
    refine wrapF _ _ _ _ ?_
    rw [h3 x (by simp [Op.operands]) _ hx]
    simp only [AVal.den, Instr.field, Sem.run_bind, run_underlying hund, Result.andThen_ok, hfd, asAgg, Sem.run_pure, hu]

/-- An index into a slice of a length. -/
theorem indexAt_run {P : Program} {T : TypeId → Option TInfo} (hT : TOk P T) {t e' : TypeId} {ti ei : TInfo} (ht : T t = some ti) (hd : ti.desc = .slice e') (he : T e' = some ei) (w : World) (kd : IntKind) (n : Int) (a : Addr) (len cap : Nat)
    (hn : 0 ≤ n ∧ n < (len : Int)) : (Instr.indexAt t (.slice (some a) len cap) (.int kd n)).run P w = .ok (.pointer (some (a.add (n.toNat * ei.size)))) w := by
  have hund := (hT _ _ ht).und
  rw [hd] at hund
  simp only [Instr.indexAt, asIntOf, Sem.run_bind, Sem.run_pure, Result.andThen_ok, run_underlying hund, Sem.run_ite, hn, and_self, if_true, run_size (hT _ _ he)]

theorem indexAddr_good (hT : TOk E.P T) {t : TypeId} {x i : Operand} {kd : IntKind} {n : Int} {v u : AVal} {ti ei : TInfo} {e' : TypeId}
    (hx : ev fr x = some v) (hi : ev fr i = some (.int kd n)) (ht : T t = some ti) (hd : ti.desc = .slice e') (he : T e' = some ei) (h : k (val u))
    (hv : ∀ A hp rw w, Mem E A hp rw w → (∀ i r, rg i = some r → rw i = some r) → ∃ (hd : Hdr) (a : Addr), v.den A = hd.val ∧ hd.a = some a ∧ (0 ≤ n ∧ n < (hd.len : Int)) ∧ u.den A = .pointer (some (a.add (n.toNat * ei.size)))) :
    Good E hg rg lb lr fr ⟨dst, .indexAddr t x i, ty, pos, after, guard⟩ k := by
  refine good_val h fun A hp rw w ρ hm h1 h2 h3 => ?_
  obtain ⟨hdr, a, e1, e2, e3, e4⟩ := hv A hp rw w hm h2
  simp only [execOp]
  refine wrapF _ _ _ _ ?_
  rw [h3 x (by simp [Op.operands]) _ hx, h3 i (by simp [Op.operands]) _ hi, e1, e4]
  simp only [Hdr.val, e2, AVal.den]
  exact indexAt_run hT ht hd he w kd n a hdr.len hdr.cap e3

theorem index_good (hT : TOk E.P T) {t : TypeId} {x i : Operand} {s : ByteArray} {kd : IntKind} {n : Int} {ti : TInfo}
    (hx : ev fr x = some (.str s)) (hi : ev fr i = some (.int kd n)) (ht : T t = some ti) (hd : ti.desc = .string)
    (hn : 0 ≤ n ∧ n < (s.size : Int)) (h : k (val (.int .u8 (byteAt s n.toNat : Int)))) : Good E hg rg lb lr fr ⟨dst, .index t x i, ty, pos, after, guard⟩ k := by
  refine good_val h fun A hp rw w ρ hm h1 h2 h3 => ?_
  have hund := (hT _ _ ht).und
  rw [hd] at hund
  have hlt : n.toNat < s.size := by omega
  simp only [execOp]
  refine wrapF _ _ _ _ ?_
  rw [h3 x (by simp [Op.operands]) _ hx, h3 i (by simp [Op.operands]) _ hi]
  have hb : s[n.toNat]? = some (s[n.toNat]) := by simp [hlt]
  simp only [AVal.den, Instr.index, asIntOf, Sem.run_bind, Sem.run_pure, Result.andThen_ok, run_underlying hund, hn.1, if_true, hb]
  have : (byteAt s n.toNat : Int) = (s[n.toNat].toNat : Int) := by
    unfold byteAt
    have hl : n.toNat < s.data.toList.length := by simpa using hlt
    rw [List.getD_eq_getElem?_getD, List.getElem?_eq_getElem hl]
    rfl
  rw [this]

theorem convert_good (hT : TOk E.P T) {s d : TypeId} {x : Operand} {kd0 kd : IntKind} {n : Int} {si di : TInfo} (hx : ev fr x = some (.int kd0 n)) (hs : T s = some si) (hd : T d = some di) (hdd : di.desc = .int kd)
    (hr : Rng kd n) (h : k (val (.int kd n))) : Good E hg rg lb lr fr ⟨dst, .convert s d x, ty, pos, after, guard⟩ k := by
  refine good_val h fun A hp rw w ρ hm h1 h2 h3 => ?_
  have hu1 := (hT _ _ hs).und
  have hu2 := (hT _ _ hd).und
  rw [hdd] at hu2
  simp only [execOp]
  refine wrapF _ _ _ _ ?_
  rw [h3 x (by simp [Op.operands]) _ hx]
  simp only [AVal.den, convert, Sem.run_bind, run_underlying hu1, run_underlying hu2, Result.andThen_ok]
  cases si.desc <;> simp [Conv.intToInt, wrap_of_rng hr]

theorem bytes_string_run {P : Program} (w : World) (src dst e : TypeId) (hs : P.underlying src = some (.slice e)) (he : P.underlying e = some (.int .u8)) (hd : P.underlying dst = some .string) (h : Hdr) (e0 : TypeId) (own : Bool) (xs : List Int)
    (hr : RowAt w h ⟨.int .u8, e0, own, xs⟩) : (convert src dst h.val).run P w = .ok (.string (strOfNums xs)) w := by
  cases xs with
  | nil =>
    have hl : h.len = 0 := hr.len
    cases ha : h.a with
    | none =>
      have := run_convert_bytes_nil (P := P) w src e hs he h.len h.cap dst hd
      simp only [Hdr.val, ha, this]
      rfl
    | some a =>
      have hl' : (loadCells a 0).run P w = .ok #[] w := by simpa using run_loadCells_list (P := P) w a [] (by simp)
      rw [Hdr.val, ha, hl, run_convert_bytes_string w src dst e _ 0 h.cap hs he hd, run_bytesToString w a 0 h.cap [] (by simpa using hl')]
      rfl
  | cons x l =>
    obtain ⟨a, ha⟩ := hr.there (i := 0) (by show 0 < (x :: l).length; simp)
    have hlen : h.len = (x :: l).length := hr.len
    have hload : (loadCells a h.len).run P w = .ok ((x :: l).map (Value.int .u8)).toArray w := by
      have := run_loadCells_list (P := P) w a ((x :: l).map (Value.int .u8)) (fun j v hj => by
        rw [List.getElem?_map] at hj
        cases hx : (x :: l)[j]? with
        | none => rw [hx] at hj; cases hj
        | some y =>
          rw [hx] at hj
          cases hj
          obtain ⟨a', ha', hc⟩ := hr.cell j y hx
          rw [ha] at ha'; cases ha'
          have := hc 0 (.int .u8 y) rfl
          simpa [TyC.sz, AVal.den] using this)
      rw [List.length_map, ← hlen] at this
      exact this
    rw [Hdr.val, ha, run_convert_bytes_string w src dst e _ h.len h.cap hs he hd, run_bytesToString w a h.len h.cap _ hload, foldl_push_bytes]
    simp [strOfNums, ByteArray.empty, ByteArray.emptyWithCapacity]
    try rfl

theorem bytesToStr_good (hT : TOk E.P T) {s d : TypeId} {x : Operand} {v : AVal} {si di ei : TInfo} {e : TypeId} {xs : List Int} (hx : ev fr x = some v) (hs : T s = some si) (hd : T d = some di) (hdd : di.desc = .string) (hsd : si.desc = .slice e) (he : T e = some ei) (hed : ei.desc = .int .u8)
    (hv : ∀ A hp rw w, Mem E A hp rw w → (∀ i r, rg i = some r → rw i = some r) → ∃ (hd : Hdr) (e0 : TypeId) (own : Bool), v.den A = hd.val ∧ RowAt w hd ⟨.int .u8, e0, own, xs⟩)
    (h : k (val (.str (strOfNums xs)))) : Good E hg rg lb lr fr ⟨dst, .convert s d x, ty, pos, after, guard⟩ k := by
  refine good_val h fun A hp rw w ρ hm h1 h2 h3 => ?_
  have hu1 := (hT _ _ hs).und
  have hu2 := (hT _ _ hd).und
  have hu3 := (hT _ _ he).und
  rw [hdd] at hu2
  rw [hsd] at hu1
  rw [hed] at hu3
  obtain ⟨hdr, e0, own, e1, hr⟩ := hv A hp rw w hm h2
  simp only [execOp]
  refine wrapF _ _ _ _ ?_
  rw [h3 x (by simp [Op.operands]) _ hx, e1]
  exact bytes_string_run w s d e hu1 hu3 hu2 hdr e0 own xs hr

theorem makeFunc_good {f : FuncId} {first cap : Array Operand} (h : withs fr first.toList fun fs => withs fr cap.toList fun cs => k (val (.fn f fs cs))) :
    Good E hg rg lb lr fr ⟨dst, .makeFunc (.func f) first cap, ty, pos, after, guard⟩ k := by
  obtain ⟨fs, h, _, hfs⟩ := withs_eq _ _ _ h
  obtain ⟨cs, h, _, hcs⟩ := withs_eq _ _ _ h
  refine good_val h fun A hp rw w ρ hm h1 h2 h3 => ?_
  have e1 := hfs A ρ (fun x hx v hv => h3 x (by simp [Op.operands]; simp at hx; exact .inl hx) v hv)
  have e2 := hcs A ρ (fun x hx v hv => h3 x (by simp [Op.operands]; simp at hx; exact .inr hx) v hv)
  simp only [execOp]
  refine wrapF _ _ _ _ ?_
  have a1 : first.map ρ = (dens A fs).toArray := by apply Array.ext'; rw [← e1]; exact Array.toList_map
  have a2 : cap.map ρ = (dens A cs).toArray := by apply Array.ext'; rw [← e2]; exact Array.toList_map
  simp only [Instr.makeFunc, Sem.run_pure, AVal.den, a1, a2]

theorem extract_good {x : Operand} {n : Nat} {vs : List AVal} {u : AVal} (hx : ev fr x = some (.tup vs)) (hn : nth vs n = some u) (h : k (val u)) :
    Good E hg rg lb lr fr ⟨dst, .extract x n, ty, pos, after, guard⟩ k := by
  refine good_val h fun A hp rw w ρ hm h1 h2 h3 => ?_
  rw [nth_eq] at hn
  simp only [execOp]
  refine wrapF _ _ _ _ ?_
  rw [h3 x (by simp [Op.operands]) _ hx]
  simp [AVal.den, Instr.extract, dens_eq, hn]

theorem nilCheck_good {x : Operand} {b off : Nat} (hx : ev fr x = some (.loc b off)) (h : k (val (.loc b off))) : Good E hg rg lb lr fr ⟨dst, .nilCheck x, ty, pos, after, guard⟩ k := by
  refine good_val h fun A hp rw w ρ hm h1 h2 h3 => ?_
  simp only [execOp]
  rw [h3 x (by simp [Op.operands]) _ hx]
  simp [AVal.den]

end
end Go.Proofs.Ytlplngafncobkaa.Fw
