/- All operations that are taken by themselves, together. -/
import Derived.Test.YtlplngafncobkaaFwK
namespace Go.Proofs.Ytlplngafncobkaa.Fw
open Go Go.RowKit
set_option linter.unusedVariables false
set_option linter.unusedSimpArgs false

section
variable {E : Env} {T : TypeId → Option TInfo} {G : List (FuncId × PCtr)} {hg : Nat → Option (List AVal)} {rg : Nat → Option Row} {lb lr : Nat} {fr : List AVal} {o : Oper} {k : Eff → Prop}
variable {dst : Option Tmp} {ty : TypeId} {pos : String} {after : Array Edge} {guard : Option (Nat × Bool)}

theorem bound_ok (P : Program) (w : World) (kd : IntKind) (n : Int) (y : Nat) (code : BoundsCode) (h : 0 ≤ n ∧ n ≤ (y : Int)) : (Instr.sliceBound (.int kd n) y code).run P w = .ok n.toNat w := by
  simp only [Instr.sliceBound, asIntOf, Sem.run_bind, Sem.run_pure, Result.andThen_ok, Sem.run_ite, h, and_self, if_true]

/-- the bounds of a slice expression on a string -/
def boundsA (lo hi : Option Int) (len : Nat) : Option (Nat × Nat) :=
  match lo, hi with
  | none, none => some (0, len)
  | some l, none => some (l.toNat, len)
  | none, some h => some (0, h.toNat)
  | some l, some h => some (l.toNat, h.toNat)

theorem slice_good (hT : TOk E.P T) {t : TypeId} {x : Operand} {lo hi : Option Operand} {s : ByteArray} {ti : TInfo} (hx : ev fr x = some (.str s)) (ht : T t = some ti) (hd : ti.desc = .string)
    (a b : Nat) (hk : k (val (.str (s.extract a b))))
    (hb : ∀ (ρ : Operand → Value), (∀ y, lo = some y → ∀ v, ev fr y = some v → ρ y = v.den A0) → (∀ y, hi = some y → ∀ v, ev fr y = some v → ρ y = v.den A0) →
      ∀ P w, (Instr.sliceBounds false s.size s.size (lo.map ρ) (hi.map ρ) none).run P w = .ok (a, b, s.size) w)
    (hfl : (∀ y, lo = some y → ∃ kd n, ev fr y = some (.int kd n)) ∧ (∀ y, hi = some y → ∃ kd n, ev fr y = some (.int kd n))) :
    Good E hg rg lb lr fr ⟨dst, .slice t x lo hi none, ty, pos, after, guard⟩ k := by
  refine good_val hk fun A hp rw w ρ hm h1 h2 h3 => ?_
  have hund := (hT _ _ ht).und
  rw [hd] at hund
  have hbb := hb ρ (fun y hy v hv => by
    obtain ⟨kd, n, hn⟩ := hfl.1 y hy
    rw [hn] at hv; cases hv
    rw [h3 y (by simp [Op.operands, hy]) _ hn]; rfl) (fun y hy v hv => by
    obtain ⟨kd, n, hn⟩ := hfl.2 y hy
    rw [hn] at hv; cases hv
    rw [h3 y (by simp [Op.operands, hy]) _ hn]; rfl) E.P w
  simp only [execOp]
  refine wrapF _ _ _ _ ?_
  rw [h3 x (by simp [Op.operands]) _ hx]
  simp only [AVal.den, Option.map_none, Instr.sliceAt, Sem.run_bind, run_underlying hund, Result.andThen_ok, Instr.slice, Option.isSome_none, Bool.false_eq_true, if_false, hbb, Sem.run_pure]

theorem add_add' (a : Addr) (m n : Nat) : (a.add m).add n = a.add (m + n) := by
  unfold Addr.add
  by_cases h1 : m = 0 <;> by_cases h2 : n = 0 <;> simp [h1, h2] <;> omega

/-- A part of a row that is only read. -/
theorem rowSlice_good (hT : TOk E.P T) {t e' : TypeId} {x : Operand} {lo hi : Option Operand} {r : Nat} {c : TyC} {e : TypeId} {xs xs' : List c.α} {ti ei : TInfo} (hx : ev fr x = some (.row r)) (hr : rg r = some ⟨c, e, false, xs⟩)
    (ht : T t = some ti) (hd : ti.desc = .slice e') (he : T e' = some ei) (hsz : ei.size = c.sz) (a b : Nat) (hab : a ≤ b ∧ b ≤ xs.length) (hxs : xs' = (xs.take b).drop a)
    (hk : k ⟨none, [⟨c, e, false, xs'⟩], .row lr⟩)
    (hb : ∀ (ρ : Operand → Value), (∀ y, lo = some y → ∀ v, ev fr y = some v → ρ y = v.den A0) → (∀ y, hi = some y → ∀ v, ev fr y = some v → ρ y = v.den A0) →
      ∀ P w cap, xs.length ≤ cap → (Instr.sliceBounds true xs.length cap (lo.map ρ) (hi.map ρ) none).run P w = .ok (a, b, cap) w)
    (hfl : (∀ y, lo = some y → ∃ kd n, ev fr y = some (.int kd n)) ∧ (∀ y, hi = some y → ∃ kd n, ev fr y = some (.int kd n))) :
    Good E hg rg lb lr fr ⟨dst, .slice t x lo hi none, ty, pos, after, guard⟩ k := by
  refine ⟨_, hk, fun A hp rw w ρ hc h1 h2 h3 h4 => ?_⟩
  have hund := (hT _ _ ht).und
  rw [hd] at hund
  have hrow := h2 _ _ hr
  obtain ⟨hat, _⟩ := hc.mem.row _ _ hrow
  have hlen : (A.rw r).len = xs.length := hat.len
  have hcap : xs.length ≤ (A.rw r).cap := by rw [← hlen]; exact hat.cap
  have hbb := hb ρ (fun y hy v hv => by
    obtain ⟨kd, n, hn⟩ := hfl.1 y hy
    rw [hn] at hv; cases hv
    rw [h3 y (by simp [Op.operands, hy]) _ hn]; rfl) (fun y hy v hv => by
    obtain ⟨kd, n, hn⟩ := hfl.2 y hy
    rw [hn] at hv; cases hv
    rw [h3 y (by simp [Op.operands, hy]) _ hn]; rfl) E.P w (A.rw r).cap hcap
  let hd' : Hdr := ⟨if (A.rw r).cap = a then (A.rw r).a else (A.rw r).a.map (·.add (a * ei.size)), b - a, (A.rw r).cap - a⟩
  have hrun : (execOp ρ ⟨dst, .slice t x lo hi none, ty, pos, after, guard⟩).run E.P w = .ok (.value hd'.val) w := by
    simp only [execOp]
    refine wrapF _ _ _ _ ?_
    rw [h3 x (by simp [Op.operands]) _ hx]
    simp only [AVal.den, Hdr.val, Option.map_none, Instr.sliceAt, Sem.run_bind, run_underlying hund, Result.andThen_ok, Instr.slice, hlen, hbb, run_size (hT _ _ he), Sem.run_pure]
    rfl
  rw [hrun]
  have hne : ∀ i y, xs'[i]? = some y → xs[a + i]? = some y ∧ a + i < b := fun i y hi => by
    rw [hxs, List.getElem?_drop, List.getElem?_take] at hi
    split at hi
    · exact ⟨hi, by assumption⟩
    · cases hi
  have hlen' : xs'.length = b - a := by rw [hxs]; simp; omega
  have hfoot : ∀ bk, Foot ⟨c, e, false, xs'⟩ hd' bk → Foot ⟨c, e, false, xs⟩ (A.rw r) bk := fun bk ⟨h5, a', ha', hbk⟩ => by
    have h6 : xs' ≠ [] := by rcases h5 with h5 | h5; cases h5; exact h5
    refine ⟨.inr fun h7 => h6 (by have h7 : xs = [] := h7; rw [hxs, h7]; simp), ?_⟩
    by_cases hca : (A.rw r).cap = a
    · exact ⟨a', by simpa [hd', hca] using ha', hbk⟩
    · simp only [hd', hca, if_false, Option.map_eq_some_iff] at ha'
      obtain ⟨a0, ha0, rfl⟩ := ha'
      exact ⟨a0, ha0, by rw [← hbk, add_block]⟩
  have hat' : RowAt w hd' ⟨c, e, false, xs'⟩ := by
    refine ⟨hlen'.symm, ?_, ?_, fun i y hi => ?_⟩
    · show b - a ≤ (A.rw r).cap - a; omega
    · have := hat.max; show (A.rw r).cap - a ≤ maxLen; omega
    · obtain ⟨h8, h9⟩ := hne i y hi
      obtain ⟨a0, ha0, hcell⟩ := hat.cell (a + i) y h8
      refine ⟨a0.add (a * c.sz), ?_, fun j cv hj => ?_⟩
      · have : (A.rw r).cap ≠ a := by omega
        simp [hd', this, ha0, hsz]
      · rw [add_add', show a * c.sz + (i * c.sz + j) = (a + i) * c.sz + j by rw [Nat.add_mul]; omega]
        exact hcell j cv hj
  have hag : Agr lb false lr 1 A (A.setRw lr hd') := ⟨fun i _ => rfl, fun q hq => ⟨(upd_ne _ _ _ (by omega)).symm, rfl⟩⟩
  have hm := hc.mem.addRow lr hd' ⟨c, e, false, xs'⟩ (hc.fr lr (Nat.le_refl _) (by simp)) hc.n0 (hc.stb _ hag) hat' (fun h => by cases h)
    (fun i ci bk h0 hi hf => hc.mem.br i ci r _ bk h0 hi hrow (hfoot bk hf))
    (fun k' r' bk hk' ho hf hf' => by
      rcases ho with ho | ho
      · cases ho
      · exact hc.mem.rr k' r r' _ bk hk' hrow (fun hkr => by subst hkr; rw [hrow] at hk'; cases hk'; cases ho) ho hf' (hfoot bk hf))
  refine ⟨⟨A.setRw lr hd', hag, ?_, ?_, Nat.le_refl _⟩⟩
  · simp [AVal.den, Asg.setRw, upd_same]
  · have hu : updL rw lr [(⟨c, e, false, xs'⟩ : Row)] = upd rw lr (some ⟨c, e, false, xs'⟩) := by
      funext i
      unfold updL upd
      by_cases hi : i = lr
      · subst hi; simp
      · rw [if_neg (by simp; omega), if_neg hi]
    simp only [updO_none, hu]
    exact hm

theorem cycle_get {α : Type} (z : List α) : ∀ (n j : Nat), j < n * z.length → ((List.replicate n z).flatMap id)[j]? = z[j % z.length]?
  | 0, j, h => by simp at h
  | n + 1, j, h => by
    have ih := cycle_get z n (j - z.length)
    rw [List.replicate_succ, List.flatMap_cons]
    simp only [id]
    rcases Nat.lt_or_ge j z.length with h1 | h1
    · rw [List.getElem?_append_left h1, Nat.mod_eq_of_lt h1]
    · rw [List.getElem?_append_right h1, ih (by rw [Nat.add_mul] at h; omega), Nat.mod_eq_sub_mod h1]

theorem madeCells_eq (z : List Value) (n : Nat) (hz : 0 < z.length) : (madeCells z.toArray (n * z.length)).toList = (List.replicate n z).flatMap id := by
  apply List.ext_getElem?
  intro j
  have hl : ((List.replicate n z).flatMap id).length = n * z.length := by
    simp [List.length_flatMap]
  rcases Nat.lt_or_ge j (n * z.length) with h | h
  · rw [cycle_get z n j h]
    have hj : j % z.length < z.length := Nat.mod_lt _ hz
    simp only [madeCells, Array.getElem?_toList, Array.getElem?_map, Array.getElem?_range, h, if_true, Option.map_some, List.size_toArray]
    rw [List.getElem?_eq_getElem hj]
    simp [hj]
  · rw [List.getElem?_eq_none (by simp [madeCells]; exact h), List.getElem?_eq_none (by rw [hl]; exact h)]

theorem flatMap_rep {α β : Type} (f : α → List β) (x : α) : ∀ n, (List.replicate n (f x)).flatMap id = (List.replicate n x).flatMap f
  | 0 => rfl
  | n + 1 => by rw [List.replicate_succ, List.flatMap_cons, List.replicate_succ, List.flatMap_cons, flatMap_rep f x n]; rfl

theorem makeSlice_good (hT : TOk E.P T) {t e : TypeId} {l c' : Operand} {kl kc : IntKind} {n m : Int} {i ie : TInfo} {c : TyC} (hl : ev fr l = some (.int kl n)) (hc' : ev fr c' = some (.int kc m)) (ht : T t = some i) (hd : i.desc = .slice e) (he : T e = some ie) (hc : ie.ty = some c)
    (h : (0 ≤ n ∧ m = n ∧ (ie.bytes : Int) * n ≤ 281474976710656 ∧ n ≤ 9223372036854775807) ∧ k ⟨none, [⟨c, e, true, List.replicate n.toNat c.dflt⟩], .row lr⟩) : Good E hg rg lb lr fr ⟨dst, .makeSlice t l c', ty, pos, after, guard⟩ k := by
  obtain ⟨⟨h0, rfl, hby, h63⟩, h⟩ := h
  obtain ⟨n, rfl⟩ := Int.eq_ofNat_of_zero_le h0
  refine ⟨_, h, fun A hp rw w ρ hcx h1 h2 h3 h4 => ?_⟩
  have hund := (hT _ _ ht).und
  rw [hd] at hund
  obtain ⟨inf, z, hi, hsz, hbyt, hz, hzc⟩ := info_of (hT _ _ he)
  obtain ⟨hsz', henc⟩ := (hT _ _ he).ty c hc
  have h63' : n ≤ maxLen := by simp only [maxLen]; omega
  have hby' : inf.bytes * n ≤ 281474976710656 := by
    rw [hbyt]
    have : ((ie.bytes * n : Nat) : Int) ≤ 281474976710656 := by rw [Int.natCast_mul]; exact hby
    omega
  obtain ⟨w', hr, hown, hgr⟩ := run_make_full (P := E.P) w 0 t e inf z c.sz hund hi hz (by rw [hsz, hsz']) kl kc n hby' h63' (Nat.zero_le _)
  have hcells : (madeCells z.cells (n * c.sz)).toList = (List.replicate n c.dflt).flatMap fun x => dens A0 (c.enc x) := by
    have hl : (dens A0 (c.enc c.dflt)).length = c.sz := by rw [dens_eq, List.length_map, c.enc_len]
    rw [hzc, ← henc, ← hl, madeCells_eq _ _ (by rw [hl]; exact c.pos)]
    exact flatMap_rep (fun x => dens A0 (c.enc x)) c.dflt n
  have hrun : (execOp ρ ⟨dst, .makeSlice t l c', ty, pos, after, guard⟩).run E.P w = .ok (.value (.slice (some ⟨w.heap.size, 0, none⟩) n n)) w' := by
    simp only [execOp]
    refine wrapF _ _ _ _ ?_
    rw [h3 l (by simp [Op.operands]) _ hl, h3 c' (by simp [Op.operands]) _ hc']
    exact hr
  rw [hrun]
  have hpost := post_rows (lb := lb) (v := .row lr) (hs := [⟨some ⟨w.heap.size, 0, none⟩, n, n⟩]) hcx (w' := w') ⟨hgr.os, hgr.tape, hgr.output, hgr.size, fun q hq => hgr.block q hq (by simp)⟩ rfl
    (fun i r hd hi hh => by
      cases i with
      | zero =>
        simp at hi hh
        subst hi; subst hh
        refine ⟨rfl, ?_, fun a ha => by cases ha; exact Nat.le_refl _⟩
        unfold RowOwn Row.cells
        simp only [Hdr.val, Int.toNat_natCast, List.length_replicate]
        rw [hcells] at hown
        exact hown
      | succ i => simp at hi)
    (fun i j h h' a b hij hi hj => by
      cases i with
      | zero => cases j with
        | zero => exact absurd rfl hij
        | succ j => simp at hj
      | succ i => simp at hi)
  have hden : (AVal.row lr).den (A.setRws lr [⟨some ⟨w.heap.size, 0, none⟩, n, n⟩]) = .slice (some ⟨w.heap.size, 0, none⟩) n n := by
    simp [AVal.den, Asg.setRws, Hdr.val]
  rw [hden] at hpost
  exact hpost

theorem len_row_good (hT : TOk E.P T) {args : Array Operand} {argTypes : Array TypeId} {r : Nat} {t e : TypeId} {ti : TInfo} {row : Row} {vs : List AVal}
    (hvs : vs.length = args.toList.length ∧ ∀ A (ρ : Operand → Value), (∀ x ∈ args.toList, ∀ v, ev fr x = some v → ρ x = v.den A) → args.toList.map ρ = dens A vs) (hv : vs = [.row r])
    (ha : nth argTypes.toList 0 = some t) (ht : T t = some ti) (hd : ti.desc = .slice e) (hr : rg r = some row) (h : k (val (.int .i64 (row.xs.length : Int)))) :
    Good E hg rg lb lr fr ⟨dst, .call { callee := .builtin .len, args, argTypes }, ty, pos, after, guard⟩ k := by
  refine good_val h fun A hp rw w ρ hm h1 h2 h3 => ?_
  have hund := (hT _ _ ht).und
  rw [hd] at hund
  have hmap : args.map ρ = #[(A.rw r).val] := by
    apply Array.ext'
    rw [Array.toList_map, hvs.2 A ρ (fun x hx v hxv => h3 x (by simp [Op.operands, Call.operands]; simpa using hx) v hxv), hv]
    simp [dens, AVal.den]
  obtain ⟨hra, _⟩ := hm.row r _ (h2 _ _ hr)
  rw [nth_eq] at ha
  have ha' : argTypes[0]? = some t := by simpa using ha
  simp only [execOp, resolve, Sem.run_bind, Sem.run_pure, Result.andThen_ok, invoke, builtin, hmap]
  simp only [Builtin.len_, ha', Sem.run_bind, run_underlying hund, Result.andThen_ok, Hdr.val]
  simp [hra.len, goInt, AVal.den, run_underlying hund]

theorem len_str_good (hT : TOk E.P T) {args : Array Operand} {argTypes : Array TypeId} {s : ByteArray} {t : TypeId} {ti : TInfo} {vs : List AVal}
    (hvs : vs.length = args.toList.length ∧ ∀ A (ρ : Operand → Value), (∀ x ∈ args.toList, ∀ v, ev fr x = some v → ρ x = v.den A) → args.toList.map ρ = dens A vs) (hv : vs = [.str s])
    (ha : nth argTypes.toList 0 = some t) (ht : T t = some ti) (hd : ti.desc = .string) (h : k (val (.int .i64 (s.size : Int)))) :
    Good E hg rg lb lr fr ⟨dst, .call { callee := .builtin .len, args, argTypes }, ty, pos, after, guard⟩ k := by
  refine good_val h fun A hp rw w ρ hm h1 h2 h3 => ?_
  have hund := (hT _ _ ht).und
  rw [hd] at hund
  have hmap : args.map ρ = #[.string s] := by
    apply Array.ext'
    rw [Array.toList_map, hvs.2 A ρ (fun x hx v hxv => h3 x (by simp [Op.operands, Call.operands]; simpa using hx) v hxv), hv]
    simp [dens, AVal.den]
  rw [nth_eq] at ha
  have ha' : argTypes[0]? = some t := by simpa using ha
  simp only [execOp, resolve, Sem.run_bind, Sem.run_pure, Result.andThen_ok, invoke, builtin, hmap]
  simp only [Builtin.len_, ha', Sem.run_bind, run_underlying hund, Result.andThen_ok]
  simp [goInt, AVal.den, run_underlying hund]

theorem len_nil_good (hT : TOk E.P T) {args : Array Operand} {argTypes : Array TypeId} {t e : TypeId} {ti : TInfo} {vs : List AVal}
    (hvs : vs.length = args.toList.length ∧ ∀ A (ρ : Operand → Value), (∀ x ∈ args.toList, ∀ v, ev fr x = some v → ρ x = v.den A) → args.toList.map ρ = dens A vs) (hv : vs = [.raw (.slice none 0 0)])
    (ha : nth argTypes.toList 0 = some t) (ht : T t = some ti) (hd : ti.desc = .slice e) (h : k (val (.int .i64 0))) :
    Good E hg rg lb lr fr ⟨dst, .call { callee := .builtin .len, args, argTypes }, ty, pos, after, guard⟩ k := by
  refine good_val h fun A hp rw w ρ hm h1 h2 h3 => ?_
  have hund := (hT _ _ ht).und
  rw [hd] at hund
  have hmap : args.map ρ = #[.slice none 0 0] := by
    apply Array.ext'
    rw [Array.toList_map, hvs.2 A ρ (fun x hx v hxv => h3 x (by simp [Op.operands, Call.operands]; simpa using hx) v hxv), hv]
    simp [dens, AVal.den]
  rw [nth_eq] at ha
  have ha' : argTypes[0]? = some t := by simpa using ha
  simp only [execOp, resolve, Sem.run_bind, Sem.run_pure, Result.andThen_ok, invoke, builtin, hmap]
  simp only [Builtin.len_, ha', Sem.run_bind, run_underlying hund, Result.andThen_ok]
  simp [goInt, AVal.den, run_underlying hund]

theorem mm_good {b : Builtin} (hb : b = .min ∨ b = .max) {args : Array Operand} {argTypes : Array TypeId} {a : IntKind} {x y : Int} {vs : List AVal}
    (hvs : vs.length = args.toList.length ∧ ∀ A (ρ : Operand → Value), (∀ x ∈ args.toList, ∀ v, ev fr x = some v → ρ x = v.den A) → args.toList.map ρ = dens A vs) (hv : vs = [.int a x, .int a y])
    (h : k (val (.int a (if b = .min then (if y < x then y else x) else (if y > x then y else x))))) :
    Good E hg rg lb lr fr ⟨dst, .call { callee := .builtin b, args, argTypes }, ty, pos, after, guard⟩ k := by
  refine good_val h fun A hp rw w ρ hm h1 h2 h3 => ?_
  have hmap : args.map ρ = #[.int a x, .int a y] := by
    apply Array.ext'
    rw [Array.toList_map, hvs.2 A ρ (fun x hx v hxv => h3 x (by simp [Op.operands, Call.operands]; simpa using hx) v hxv), hv]
    simp [dens, AVal.den]
  rcases hb with rfl | rfl
  · simp only [execOp, resolve, Sem.run_bind, Sem.run_pure, Result.andThen_ok, invoke, builtin, hmap]
    simp [Builtin.min_, Builtin.min2, AVal.den]
  · simp only [execOp, resolve, Sem.run_bind, Sem.run_pure, Result.andThen_ok, invoke, builtin, hmap]
    simp [Builtin.max_, Builtin.max2, AVal.den]

theorem call_good (hG : GOk E.P G) {f : Operand} {args : Array Operand} {argTypes : Array TypeId} {g : FuncId} {fs cs vs : List AVal} {c : PCtr}
    (hf : ev fr f = some (.fn g fs cs)) (hvs : ∀ A (ρ : Operand → Value), (∀ x ∈ args.toList, ∀ v, ev fr x = some v → ρ x = v.den A) → args.toList.map ρ = dens A vs)
    (hl : look G g = some c) (h : c hg rg lr (fs ++ (vs ++ cs)) fun rows v => k ⟨none, rows, v⟩) :
    Good E hg rg lb lr fr ⟨dst, .call { callee := .value f, args, argTypes }, ty, pos, after, guard⟩ k := by
  have hc := hG g c hl
  obtain ⟨rows, v, hk, hcalls⟩ := hc.calls _ _ _ _ _ h
  refine ⟨_, hk, fun A hp rw w ρ hcx h1 h2 h3 h4 => ?_⟩
  have hmap : args.map ρ = (dens A vs).toArray := by
    apply Array.ext'
    rw [Array.toList_map, hvs A ρ (fun x hx v hxv => h3 x (by simp [Op.operands, Call.operands]; exact .inr (by simpa using hx)) v hxv)]
  have hfv : ρ f = .func (.func g) (dens A fs).toArray (dens A cs).toArray := by
    rw [h3 f (by simp [Op.operands, Call.operands]) _ hf]; simp [AVal.den]
  have hrun : (execOp ρ ⟨dst, .call { callee := .value f, args, argTypes }, ty, pos, after, guard⟩).run E.P w = .ok (.enter g (dens A (fs ++ (vs ++ cs))).toArray) w := by
    simp only [execOp, resolve, Deferred.ofValue, hfv, Sem.run_bind, Sem.run_pure, Result.andThen_ok, invoke, hc.enter, hmap]
    simp [dens_eq]
  rw [hrun]
  refine Calls.mono (hcalls A w (fun i cs hi => (hcx.mem.box i cs (h1 _ _ hi)).1) (fun i r hi => (hcx.mem.row i r (h2 _ _ hi)).1)) ?_
  rintro e w' ⟨hs, hlen, he, hB, hnew, hdis⟩
  exact ⟨_, he, post_rows hcx hB hlen hnew hdis⟩

end
end Go.Proofs.Ytlplngafncobkaa.Fw
