/- Operations that turn rows: clear, rows put into rows, calls of functions that turn rows. -/
import Derived.Test.YtlplngafncobkaaFwOa
namespace Go.Proofs.Ytlplngafncobkaa.Fw
open Go Go.RowKit
set_option linter.unusedVariables false
set_option linter.unusedSimpArgs false

section
variable {E : Env} {A : Asg} {a : Act} {w w' : World} {T : TypeId → Option TInfo} {G : List (FuncId × Ctr)}
variable {hpf : Nat → Option (List AVal)} {rw_ rwD rwN : Nat → Option Row}

/-- Rows of the walk's own are told anew, each in its own blocks. -/
theorem Mem.redoAll (h : Mem E A hpf rw_ w) (hd : Mem E A hpf rwD w') (hsub : ∀ k r, rwD k = some r → rw_ k = some r)
    (hN : ∀ k r', rwN k = some r' → rwD k = some r' ∨ ∃ r, rw_ k = some r ∧ r.own = true ∧ r'.own = true ∧ RowsOwn w' (A.rw k) (A.inn k) r' ∧ ∀ b, Feet r' (A.rw k) (A.inn k) b → Feet r (A.rw k) (A.inn k) b) : Mem E A hpf rwN w' := by
  have old : ∀ k r' b, rwN k = some r' → Feet r' (A.rw k) (A.inn k) b → ∃ r, rw_ k = some r ∧ Feet r (A.rw k) (A.inn k) b ∧ (r'.own = true → r.own = true) := fun k r' b hk hf => by
    rcases hN k r' hk with h1 | ⟨r, h1, h2, h3, h4, h5⟩
    · exact ⟨r', hsub k r' h1, hf, id⟩
    · exact ⟨r, h1, h5 b hf, fun _ => h2⟩
  refine ⟨hd.kept, hd.box, fun k r' hk => ?_, hd.bb, fun i ci k r' b h0 hi hk hf => ?_, fun k k' r r' b hk hk' hkk hown hf hf' => ?_, hd.args⟩
  · rcases hN k r' hk with h1 | ⟨r, h1, h2, h3, h4, h5⟩
    · exact hd.row k r' h1
    · exact ⟨h4.at, fun _ => ⟨h4, fun b hb => ((h.row k r h1).2 h2).2 b (h5 b hb)⟩⟩
  · obtain ⟨r, h1, h2, _⟩ := old k r' b hk hf
    exact h.br i ci k r b h0 hi h1 h2
  · obtain ⟨q, h1, h2, h3⟩ := old k r b hk hf
    obtain ⟨q', h1', h2', _⟩ := old k' r' b hk' hf'
    exact h.rr k k' q q' b h1 h1' hkk (h3 hown) h2 h2'

/-! ### calls that turn rows -/
def setUps : List (Option Row) → List (Nat × Option Row) → List (Option Row)
  | rows, [] => rows
  | rows, (i, u) :: l => setUps (rows.set i u) l
theorem upsK_eq : ∀ (l : List (Nat × Option Row)) (rows : List (Option Row)) (k : List (Option Row) → Prop), upsK l rows k = k (setUps rows l)
  | [], _, _ => rfl
  | (i, u) :: l, rows, k => by simp only [upsK, setK_eq, upsK_eq l, setUps]
theorem setUps_len : ∀ (l : List (Nat × Option Row)) (rows : List (Option Row)), (setUps rows l).length = rows.length
  | [], _ => rfl
  | (i, u) :: l, rows => by rw [setUps, setUps_len l, List.length_set]
theorem nthj_setAny (l : List (Option Row)) (i : Nat) (x : Option Row) (k : Nat) (hk : k ≠ i) : nthj (l.set i x) k = nthj l k := by
  rw [nthj_eq, nthj_eq, List.getElem?_set_ne (fun e => hk e.symm)]
theorem setUps_out : ∀ (l : List (Nat × Option Row)) (rows : List (Option Row)) (j : Nat), j ∉ l.map Prod.fst → nthj (setUps rows l) j = nthj rows j
  | [], _, _, _ => rfl
  | (i, u) :: l, rows, j, hj => by
    simp only [List.map_cons, List.mem_cons, not_or] at hj
    rw [setUps, setUps_out l _ j hj.2, nthj_setAny _ _ _ _ hj.1]
theorem setUps_in : ∀ (l : List (Nat × Option Row)) (rows : List (Option Row)) (j : Nat) (u : Option Row), (l.map Prod.fst).Nodup → (j, u) ∈ l → j < rows.length → nthj (setUps rows l) j = u
  | (i, v) :: l, rows, j, u, hn, hm, hj => by
    simp only [List.map_cons, List.nodup_cons] at hn
    rw [setUps]
    simp only [List.mem_cons, Prod.mk.injEq] at hm
    rcases hm with ⟨rfl, rfl⟩ | hm
    · rw [setUps_out l _ j hn.1, nthj_eq, List.getElem?_set_self hj]; rfl
    · exact setUps_in l _ j u hn.2 hm (by simpa using hj)

theorem mcallA_sound (hG : GOk E.P G) {fr : List AVal} {hp : List (Option (List AVal))} {rows : List (Option Row)} {f : Operand} {args : Array Operand} {argTypes : Array TypeId} {dst : Option Tmp} {k : St → Prop}
    (hs : Sat E A ⟨fr, hp, rows⟩ a w) (h : mcallA E G ⟨fr, hp, rows⟩ f args dst k) (ty : TypeId) (pos : String) (after : Array Edge) (guard : Option (Nat × Bool)) :
    Runs E.P (fun u w' => ∃ σ' B, k σ' ∧ Sat E B σ' (a.put dst u) w') ((execOp a.eval ⟨dst, .call { callee := .value f, args, argTypes }, ty, pos, after, guard⟩).run E.P w) := by
  simp only [mcallA] at h
  replace h := with1_eq h; obtain ⟨gv, hf, h⟩ := h
  replace h := withs_eq fr _ _ h; obtain ⟨vs, h, hvl, hvs⟩ := h
  split at h
  case h_2 => exact h.elim
  rename_i g fs cs
  split at h
  case h_2 => exact h.elim
  rename_i c hl
  have hc : MCtrOk E.P g c := hG g _ hl
  simp only [lenK_eq] at h
  obtain ⟨ups, new, v, h, hok, hcalls⟩ := hc.calls _ _ _ _ _ h
  simp only [upsK_eq, pushR_eq, lenN_eq] at h
  split at h
  case h_2 => exact h.elim
  rename_i hvsc
  have hmap : args.map a.eval = (dens A vs).toArray := by
    apply Array.ext'
    rw [Array.toList_map, hvs A a.eval (fun x hx v hxv => ev_sound hs hxv)]
  have hfv : a.eval f = .func (.func g) (dens A fs).toArray (dens A cs).toArray := by
    rw [ev_sound hs (x := f) hf]; simp [AVal.den]
  have hrun : (execOp a.eval ⟨dst, .call { callee := .value f, args, argTypes }, ty, pos, after, guard⟩).run E.P w = .ok (.enter g (dens A (fs ++ (vs ++ cs))).toArray) w := by
    simp only [execOp, resolve, Deferred.ofValue, hfv, Sem.run_bind, Sem.run_pure, Result.andThen_ok, invoke, hc.enter, hmap]
    simp [dens_eq]
  rw [hrun]
  have hm := hs.mem
  have hcm : CMem A (nthj hp) (nthj rows) w := ⟨fun i cs hi => (hm.box i cs hi).1, fun i r hi => ⟨(hm.row i r hi).1, fun ho => ((hm.row i r hi).2 ho).1⟩, fun i ci q r b hi hq ho hf e => by
    rcases Nat.lt_or_ge i E.b0 with hlt | hge
    · exact ((hm.row q r hq).2 ho).2 b hf (e ▸ (hm.box i ci hi).2.1 hlt)
    · exact hm.br i ci q r b hge hi hq hf e, hm.rr⟩
  refine Calls.mono (hcalls A w hcm) ?_
  rintro e w' ⟨hh, he, hkept, hupd, hnew⟩
  refine ⟨_, he, ?_⟩
  have hlen := hnew.len
  have hlt : ∀ i r, nthj rows i = some r → i < rows.length := fun i r hi => by
    rcases Nat.lt_or_ge i rows.length with h' | h'
    · exact h'
    · rw [nthj_none h'] at hi; cases hi
  let rwD : Nat → Option Row := fun q => if q ∈ ups.map Prod.fst then none else nthj rows q
  have hsub : ∀ q r, rwD q = some r → nthj rows q = some r := fun q r hq => by
    simp only [rwD] at hq
    split at hq
    · cases hq
    · exact hq
  have hD : Mem E A (nthj hp) rwD w' := hm.drop (tch := touched A (nthj rows) ups) hsub (fun b ⟨i, u, r, h1, h2, h3⟩ => by
    obtain ⟨r', h4, h5, _⟩ := hok.own i u h1
    rw [h2] at h4; cases h4
    refine ⟨i, r, h2, h5, ?_, h3⟩
    simp only [rwD]
    rw [if_pos (List.mem_map.2 ⟨_, h1, rfl⟩)]) hkept hs.klt
  have hN : ∀ q r', nthj (setUps rows ups) q = some r' → rwD q = some r' ∨ ∃ r, nthj rows q = some r ∧ r.own = true ∧ r'.own = true ∧ RowsOwn w' (A.rw q) (A.inn q) r' ∧ ∀ b, Feet r' (A.rw q) (A.inn q) b → Feet r (A.rw q) (A.inn q) b := fun q r' hq => by
    by_cases hin : q ∈ ups.map Prod.fst
    · obtain ⟨⟨i, u⟩, hiu, rfl⟩ := List.mem_map.1 hin
      obtain ⟨r, h1, h2, h3⟩ := hok.own i u hiu
      rw [setUps_in ups rows i u hok.nodup hiu (hlt i r h1)] at hq
      subst hq
      obtain ⟨h4, h5, h6⟩ := h3 r' rfl
      have hro := hupd i r' hiu
      obtain ⟨c', e', o', xs'⟩ := r'
      simp only at h4 h5
      subst h4
      refine .inr ⟨r, h1, h2, rfl, hro.rows h5, fun b hb => ?_⟩
      obtain ⟨_, h7⟩ := Feet.flat hb h5
      exact Foot.feet ⟨.inl h2, h7⟩ h6
    · rw [setUps_out ups rows q hin] at hq
      refine .inl ?_
      simp only [rwD]
      rw [if_neg hin]; exact hq
  have hM := hm.redoAll hD hsub hN
  have hfrd : ∀ b, freed A (nthj rows) ups b → ∃ i r, (i, none) ∈ ups ∧ nthj rows i = some r ∧ r.own = true ∧ Feet r (A.rw i) (A.inn i) b := fun b ⟨i, r, h1, h2, h3⟩ => by
    obtain ⟨r', h4, h5, _⟩ := hok.own i none h1
    rw [h2] at h4; cases h4
    exact ⟨i, r, h1, h2, h5, h3⟩
  have hsc : ∀ i cs, nthj hp i = some cs → dens (A.setRws rows.length hh) cs = dens A cs := fun i cs hi => (dens_congr (A := A) (B := A.setRws rows.length hh) (fun j hj => rfl) (fun j hj => by
    have hj : j < rows.length := by simpa using hj
    obtain ⟨q1, q2⟩ := setRws_out A rows.length hh j (.inl hj)
    exact ⟨q1.symm, q2.symm⟩) cs (hs.hsc i cs hi)).symm
  have hM2 := hM.addRows rows.length hh new hnew (fun b hb hK => by
      rcases hb with hb | hb
      · have := hs.klt b hK; omega
      · obtain ⟨i, r, h1, h2, h3, h4⟩ := hfrd b hb
        exact ((hm.row i r h2).2 h3).2 b h4 hK)
    (fun i cs b h0 hi hb e => by
      rcases hb with hb | hb
      · have := hm.box_lt hi; omega
      · obtain ⟨q, r, h1, h2, h3, h4⟩ := hfrd b hb
        exact hm.br i cs q r b h0 hi h2 h4 e)
    (fun q r b hq hf hb => by
      have hold : ∃ r0, nthj rows q = some r0 ∧ Feet r0 (A.rw q) (A.inn q) b ∧ (q, none) ∉ ups := by
        rcases hN q r hq with h1 | ⟨r0, h1, h2, h3, h4, h5⟩
        · refine ⟨r, hsub q r h1, hf, fun hu => ?_⟩
          simp only [rwD] at h1
          rw [if_pos (List.mem_map.2 ⟨_, hu, rfl⟩)] at h1; cases h1
        · refine ⟨r0, h1, h5 b hf, fun hu => ?_⟩
          rw [setUps_in ups rows q none hok.nodup hu (hlt q r0 h1)] at hq; cases hq
      obtain ⟨r0, h1, h2, h3⟩ := hold
      rcases hb with hb | hb
      · have := hm.foot_lt h1 h2; omega
      · obtain ⟨i, r1, q1, q2, q3, q4⟩ := hfrd b hb
        exact hm.rr i q r1 r0 b q2 h1 (fun e => by subst e; exact h3 q1) q3 q4 h2)
    (fun i h1 h2 => nthj_none (by rw [setUps_len]; exact h1)) hs.n0 hsc
  have hrows : nthj (setUps rows ups ++ new.map some) = updL (nthj (setUps rows ups)) rows.length new := by
    rw [nthj_rows, setUps_len]
  have hsat := hs.turned (B := A.setRws rows.length hh) (rows3 := setUps rows ups ++ new.map some) (w' := w') (fun _ _ => rfl) (fun q hq => setRws_out A rows.length hh q (.inl hq)) (by rw [List.length_append, setUps_len]; omega) (by rw [hrows]; exact hM2) hkept.size v dst hvsc
  cases dst with
  | none => exact ⟨_, _, h, hsat⟩
  | some d => simp only [setK_eq] at h; exact ⟨_, _, h, hsat⟩

/-! ### clear -/
theorem clrA_sound (hT : TOk E.P T) {fr : List AVal} {hp : List (Option (List AVal))} {rows : List (Option Row)} {t : TypeId} {x : Operand} {dst : Option Tmp} {k : St → Prop} (hs : Sat E A ⟨fr, hp, rows⟩ a w) (h : clrA T ⟨fr, hp, rows⟩ t x dst k) :
    ∃ σ' w', k σ' ∧ Sat E A σ' (a.put dst (.tuple #[])) w' ∧ ∀ ty, (Builtin.clear_ #[t] ty #[a.eval x]).run E.P w = .ok (.tuple #[]) w' := by
  simp only [clrA] at h
  replace h := with1_eq h; obtain ⟨xv, hxv, h⟩ := h
  have ex := ev_sound hs (x := x) hxv
  cases ht : T t with
  | none => simp [ht] at h
  | some ti =>
    simp only [ht] at h
    split at h
    case h_2 => exact h.elim
    rename_i e hd
    have hund := (hT _ _ ht).und
    rw [hd] at hund
    cases he : T e with
    | none => simp [he] at h
    | some ei =>
      simp only [he] at h
      split at h
      case h_2 => exact h.elim
      rename_i r lo n sz
      split at h
      case h_2 => exact h.elim
      rename_i c e1 xs hr
      split at h
      case h_2 => exact h.elim
      rename_i c' hc'
      split at h
      case h_2 => exact h.elim
      rename_i hcl hsame hsz
      have := TyC.same_eq hsame
      subst this
      have hsz := Nat.eq_of_beq_eq_true hsz
      subst hsz
      obtain ⟨hn, h⟩ := h
      replace h := eqK_eq h
      rw [setK_eq] at h
      obtain ⟨hsize, henc, _⟩ := (hT _ _ he).ty _ hc'
      obtain ⟨hat, ho⟩ := hs.mem.row r _ hr
      obtain ⟨ho, hnk⟩ := ho rfl
      have hof := ho.flat hcl
      have hil : r < rows.length := by
        rcases Nat.lt_or_ge r rows.length with h' | h'
        · exact h'
        · rw [nthj_none h'] at hr; cases hr
      have fin : ∀ w', Kept (fun b => b < w.heap.size ∧ ¬ Feet ⟨c', e1, true, xs⟩ (A.rw r) (A.inn r) b) w w' → RowOwn w' (A.rw r) ⟨c', e1, true, xs.take lo ++ (List.replicate n c'.dflt ++ xs.drop (lo + n))⟩ →
          ∃ σ', k σ' ∧ Sat E A σ' (a.put dst (.tuple #[])) w' := fun w' hk hro => by
        have hm := hs.mem.redo hr rfl hk hs.klt (hro.rows hcl) (fun b hb => by
          obtain ⟨_, h2⟩ := Feet.flat hb hcl
          exact Foot.feet ⟨.inl rfl, h2⟩ hcl)
        have := hs.turned (B := A) (rows3 := rows.set r (some ⟨c', e1, true, xs.take lo ++ (List.replicate n c'.dflt ++ xs.drop (lo + n))⟩)) (w' := w') (fun _ _ => rfl) (fun _ _ => ⟨rfl, rfl⟩) (by simp) (by rw [nthj_set _ _ _ hil]; exact hm) hk.size (.raw (.tuple #[])) dst (by simp [AVal.sc])
        cases dst with
        | none => exact ⟨_, h, this⟩
        | some d => simp only [setK_eq] at h; exact ⟨_, h, this⟩
      by_cases h0 : n = 0
      · subst h0
        have hself : xs.take lo ++ (List.replicate 0 c'.dflt ++ xs.drop (lo + 0)) = xs := by simp
        obtain ⟨σ', q1, q2⟩ := fin w (Kept.refl _ _) (by rw [hself]; exact hof)
        refine ⟨σ', w, q1, q2, fun ty => ?_⟩
        rw [ex]
        simp only [AVal.den, Hdr.val, Hdr.view]
        generalize (if (A.rw r).cap = lo then (A.rw r).a else Option.map (fun x => x.add (lo * c'.sz)) (A.rw r).a) = ad
        cases ad <;> simp [Builtin.clear_, run_underlying hund]
      · rcases hof.2 with ⟨_, hx0⟩ | ⟨g, cap, cur, hv, _, hg, hle2, hm2, hcs, htk⟩
        · have : xs.length = 0 := hx0
          omega
        · have hv' := hv
          simp only [Hdr.val, Value.slice.injEq] at hv'
          obtain ⟨hva, hvl, hvc⟩ := hv'
          have hcs : cur.size = cap * c'.sz := hcs
          have hle2 : xs.length ≤ cap := hle2
          obtain ⟨z, hz, hzc⟩ := run_zero (hT _ _ he) w
          let zs : List Value := (List.replicate n c'.dflt).flatMap fun x => dens A0 (c'.enc x)
          have hzl : zs.length = n * c'.sz := by
            simp only [zs]
            rw [flatMap_length _ c'.sz (fun x => by rw [dens_eq]; simp [c'.enc_len]), List.length_replicate]
          have hzero : (Builtin.zeroCells z.cells n).toList = zs := by
            have hl : (dens A0 (c'.enc c'.dflt)).length = c'.sz := by rw [dens_eq, List.length_map, c'.enc_len]
            have h1 : Builtin.zeroCells z.cells n = madeCells z.cells (n * z.cells.size) := rfl
            rw [h1, hzc, ← henc]
            simp only [List.size_toArray]
            rw [madeCells_eq _ _ (by rw [hl]; exact c'.pos)]
            exact flatMap_rep (fun x => dens A0 (c'.enc x)) c'.dflt n
          have hone : ∀ v ∈ zs, v.oneCell' = true := fun v hv => by
            obtain ⟨y, hy, hv⟩ := List.mem_flatMap.1 hv
            rw [dens_eq] at hv
            obtain ⟨q, hq, rfl⟩ := List.mem_map.1 hv
            have := c'.flat y q hq
            cases q <;> simp_all [AVal.flat, AVal.den, Value.oneCell']
          have hb1 : (lo + n) * c'.sz ≤ cap * c'.sz := Nat.mul_le_mul_right _ (by omega)
          have hst := run_storeCells_at E.P g (lo * c'.sz) e1 zs 0 cur w hg (by rw [hzl, hcs]; rw [Nat.add_mul] at hb1; omega) hone
          simp only [Nat.add_zero] at hst
          let cur' : Array Value := (cur.toList.take (lo * c'.sz) ++ zs ++ cur.toList.drop (lo * c'.sz + zs.length)).toArray
          obtain ⟨σ', q1, q2⟩ := fin (w.setRow g cur') (kept_setRow w g cur' fun b hb2 e2 => hb2.2 (by subst e2; exact Foot.feet ⟨.inl rfl, _, hva, rfl⟩ hcl)) (by
            have hxl : (xs.take lo ++ (List.replicate n c'.dflt ++ xs.drop (lo + n))).length = xs.length := by simp; omega
            refine ⟨by rw [Row.cells_length], .inr ⟨g, cap, cur', by rw [hv]; simp only [hxl], Nat.zero_le _, setRow_heap _ _ _ _ _ _ hg, by rw [hxl]; exact hle2, hm2, ?_, ?_⟩⟩
            · show cur'.size = cap * c'.sz
              simp only [cur', List.size_toArray, List.length_append, List.length_take, List.length_drop, Array.length_toList, hzl]
              rw [hcs]; rw [Nat.add_mul] at hb1; omega
            · have htk : cur.toList.take (xs.length * c'.sz) = xs.flatMap fun x => dens A0 (c'.enc x) := htk
              have hfl : ∀ l : List c'.α, (l.flatMap fun x => dens A0 (c'.enc x)).length = l.length * c'.sz := flatMap_length _ c'.sz (fun x => by rw [dens_eq]; simp [c'.enc_len])
              show List.take ((xs.take lo ++ (List.replicate n c'.dflt ++ xs.drop (lo + n))).length * c'.sz) _ = (xs.take lo ++ (List.replicate n c'.dflt ++ xs.drop (lo + n))).flatMap fun x => dens A0 (c'.enc x)
              rw [hxl, flatMap_append_cells, flatMap_append_cells]
              have e0 : xs = xs.take lo ++ ((xs.drop lo).take n ++ xs.drop (lo + n)) := by
                rw [← List.drop_drop, List.take_append_drop, List.take_append_drop]
              have e1 : cur.toList = (xs.flatMap fun x => dens A0 (c'.enc x)) ++ cur.toList.drop (xs.length * c'.sz) := by rw [← htk, List.take_append_drop]
              have e2 : (xs.flatMap fun x => dens A0 (c'.enc x)) = ((xs.take lo).flatMap fun x => dens A0 (c'.enc x)) ++ ((((xs.drop lo).take n).flatMap fun x => dens A0 (c'.enc x)) ++ ((xs.drop (lo + n)).flatMap fun x => dens A0 (c'.enc x))) := by
                rw [← flatMap_append_cells, ← flatMap_append_cells, ← e0]
              have l1 : ((xs.take lo).flatMap fun x => dens A0 (c'.enc x)).length = lo * c'.sz := by rw [hfl]; congr 1; simp; omega
              have l2 : (((xs.drop lo).take n).flatMap fun x => dens A0 (c'.enc x)).length = n * c'.sz := by rw [hfl]; congr 1; simp; omega
              have l3 : ((xs.drop (lo + n)).flatMap fun x => dens A0 (c'.enc x)).length = (xs.length - (lo + n)) * c'.sz := by rw [hfl]; congr 1; simp
              have hmul : xs.length * c'.sz = lo * c'.sz + (n * c'.sz + (xs.length - (lo + n)) * c'.sz) := by rw [← Nat.add_mul, ← Nat.add_mul]; congr 1; omega
              show List.take _ (cur.toList.take (lo * c'.sz) ++ zs ++ cur.toList.drop (lo * c'.sz + zs.length)) = _
              rw [hzl, e1, e2]
              generalize ((xs.take lo).flatMap fun x => dens A0 (c'.enc x)) = X at *
              generalize (((xs.drop lo).take n).flatMap fun x => dens A0 (c'.enc x)) = Y at *
              generalize ((xs.drop (lo + n)).flatMap fun x => dens A0 (c'.enc x)) = Z at *
              generalize cur.toList.drop (xs.length * c'.sz) = R at *
              have d1 : (X ++ (Y ++ Z) ++ R).take (lo * c'.sz) = X := by rw [List.append_assoc, List.take_left' l1]
              have d2 : (X ++ (Y ++ Z) ++ R).drop (lo * c'.sz + n * c'.sz) = Z ++ R := by
                rw [show X ++ (Y ++ Z) ++ R = (X ++ Y) ++ (Z ++ R) by simp, List.drop_left' (by simp [l1, l2])]
              rw [d1, d2, show X ++ zs ++ (Z ++ R) = (X ++ (zs ++ Z)) ++ R by simp, List.take_left' (by simp [l1, l3, hzl, hmul])])
          refine ⟨σ', w.setRow g cur', q1, q2, fun ty => ?_⟩
          rw [ex]
          have hcap : (A.rw r).cap ≠ lo := by rw [hvc]; omega
          have haddr : (⟨g, 0, none⟩ : Addr).add (lo * c'.sz) = ⟨g, lo * c'.sz, none⟩ := by unfold Addr.add; split <;> simp_all
          have hval : (AVal.vw r lo n c'.sz).den A = .slice (some ⟨g, lo * c'.sz, none⟩) n ((A.rw r).cap - lo) := by
            simp only [AVal.den, Hdr.view, Hdr.val, if_neg hcap, hva, Option.map_some, haddr]
          rw [hval]
          obtain ⟨m, rfl⟩ : ∃ m, n = m + 1 := ⟨n - 1, by omega⟩
          simp only [Builtin.clear_]
          simp only [List.getElem?_toArray, List.getElem?_cons_zero, Sem.run_bind, run_underlying hund, Result.andThen_ok, hz, hzero, hst, Sem.run_pure]
          rfl

end
end Go.Proofs.Ytlplngafncobkaa.Fw
