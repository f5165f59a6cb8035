/- Operations that turn rows: a row put into a row of rows. -/
import Derived.Test.YtlplngafncobkaaFwOb
namespace Go.Proofs.Ytlplngafncobkaa.Fw
open Go Go.RowKit
set_option linter.unusedVariables false
set_option linter.unusedSimpArgs false

mutual
theorem AVal.noI_den {A B : Asg} {r : Nat} (hb : B.bx = A.bx) (hr : B.rw = A.rw) (hi : ∀ k, k ≠ r → B.inn k = A.inn k) : ∀ x : AVal, x.noI r = true → x.den B = x.den A
  | .irow k i, h => by
    have hk : k ≠ r := fun e => by subst e; simp [AVal.noI] at h
    simp only [AVal.den, hi k hk]
  | .iele k i j off sz, h => by
    have hk : k ≠ r := fun e => by subst e; simp [AVal.noI] at h
    simp only [AVal.den, hi k hk]
  | .agg cs, h => by simp only [AVal.noI] at h; simp only [AVal.den, noIs_den hb hr hi cs h]
  | .tup vs, h => by simp only [AVal.noI] at h; simp only [AVal.den, noIs_den hb hr hi vs h]
  | .fn _ fs cs, h => by
    simp only [AVal.noI] at h
    split at h
    · rename_i h1; simp only [AVal.den, noIs_den hb hr hi fs h1, noIs_den hb hr hi cs h]
    · cases h
  | .loc _ _, _ => by simp only [AVal.den, hb]
  | .bsl _ _, _ => by simp only [AVal.den, hb]
  | .ele _ _ _ _, _ => by simp only [AVal.den, hr]
  | .row _, _ => by simp only [AVal.den, hr]
  | .vw _ _ _ _, _ => by simp only [AVal.den, hr]
  | .int _ _, _ => by simp only [AVal.den]
  | .bool _, _ => by simp only [AVal.den]
  | .str _, _ => by simp only [AVal.den]
  | .raw _, _ => by simp only [AVal.den]
  | .junk, _ => by simp only [AVal.den]
theorem noIs_den {A B : Asg} {r : Nat} (hb : B.bx = A.bx) (hr : B.rw = A.rw) (hi : ∀ k, k ≠ r → B.inn k = A.inn k) : ∀ l : List AVal, noIs r l = true → dens B l = dens A l
  | [], _ => by simp only [dens]
  | x :: l, h => by
    simp only [noIs] at h
    split at h
    · rename_i h1; simp only [dens, AVal.noI_den hb hr hi x h1, noIs_den hb hr hi l h]
    · cases h
end
theorem noIb_get {r : Nat} : ∀ (l : List (Option (List AVal))), noIb r l = true → ∀ i c, nthj l i = some c → noIs r c = true
  | [], _, i, c, h => by simp [nthj] at h
  | none :: l, hl, i, c, h => by
    cases i with
    | zero => simp [nthj] at h
    | succ i => exact noIb_get l hl i c h
  | some d :: l, hl, i, c, h => by
    simp only [noIb] at hl
    split at hl
    · rename_i h1
      cases i with
      | zero => simp [nthj] at h; subst h; exact h1
      | succ i => exact noIb_get l hl i c h
    · cases hl
theorem cleanI_eq {r : Nat} : ∀ (l : List AVal) (k : List AVal → Prop), cleanI r l k = k (l.map fun x => if x.noI r = true then x else .junk)
  | [], _ => rfl
  | x :: l, k => by
    simp only [cleanI]
    cases h : x.noI r <;> simp [cleanI_eq l, h]

section
variable {E : Env} {A : Asg} {a : Act} {w w' : World} {T : TypeId → Option TInfo}

theorem sl_cells : ∀ (e : TypeId) (own : Bool) (l : List Hdr), (⟨.sl, e, own, l⟩ : Row).cells = l.map Hdr.val
  | _, _, [] => rfl
  | e, own, x :: l => by
    have ih := sl_cells e own l
    show (⟨.sl, e, own, [x]⟩ : Row).cells ++ (⟨.sl, e, own, l⟩ : Row).cells = _
    rw [ih]; rfl
/-- The header of a row in a row of rows is told anew. -/
theorem put_own {P : Program} (hT : TOk P T) {t : TypeId} {ti : TInfo} (ht : T t = some ti) (h1 : ti.size = 1) {hd hj : Hdr} {e : TypeId} {hs : List Hdr} (ho : RowOwn w hd ⟨.sl, e, true, hs⟩) {i : Nat} (hi : i < hs.length) :
    ∃ g cur', hd.a = some ⟨g, 0, none⟩ ∧ RowOwn (w.setRow g cur') hd ⟨.sl, e, true, hs.set i hj⟩ ∧ ∀ ρ : Operand → Value, ∀ x v ty pos after guard, ρ x = hd.ptr (i * 1 + 0) → ρ v = hj.val →
      (execOp ρ ⟨none, .store t x v, ty, pos, after, guard⟩).run P w = .ok .skip (w.setRow g cur') := by
  rcases ho.2 with ⟨_, hn⟩ | ⟨g, cap, cur, hv, _, hg, hle2, hm2, hcs, htk⟩
  · have : hs.length = 0 := hn
    omega
  · have hv' := hv
    simp only [Hdr.val, Value.slice.injEq] at hv'
    obtain ⟨hva, hvl, hvc⟩ := hv'
    have hcs : cur.size = cap * 1 := hcs
    have hle2 : hs.length ≤ cap := hle2
    have hst := run_storeCells_at P g i e [hj.val] 0 cur w hg (by simp; omega) (by simp [Hdr.val, Value.oneCell'])
    simp only [Nat.add_zero, List.length_singleton] at hst
    let cur' : Array Value := (cur.toList.take i ++ [hj.val] ++ cur.toList.drop (i + 1)).toArray
    have hll : @List.length TyC.sl.α (hs.set i hj) = hs.length := List.length_set ..
    refine ⟨g, cur', hva, ⟨by rw [Row.cells_length], .inr ⟨g, cap, cur', (by rw [hv]; simp only [hll]; try rfl), Nat.zero_le _, setRow_heap _ _ _ _ _ _ hg, by simp only [hll]; exact hle2, hm2, ?_, ?_⟩⟩, fun ρ x v ty pos after guard ex evv => ?_⟩
    · show cur'.size = cap * 1
      simp only [cur', List.size_toArray, List.length_append, List.length_take, List.length_drop, Array.length_toList, List.length_singleton]; omega
    · have htk : cur.toList.take (hs.length * 1) = (⟨.sl, e, true, hs⟩ : Row).cells := htk
      show List.take (@List.length TyC.sl.α (hs.set i hj) * 1) (cur.toList.take i ++ [hj.val] ++ cur.toList.drop (i + 1)) = (⟨.sl, e, true, hs.set i hj⟩ : Row).cells
      rw [sl_cells] at htk
      rw [sl_cells, List.map_set, ← htk, hll, Nat.mul_one, ← List.take_set]
      congr 1
      rw [List.set_eq_take_append_cons_drop, if_pos (by simp; omega)]
      simp
    · have hadd : (⟨g, 0, none⟩ : Addr).add (i * 1 + 0) = ⟨g, i, none⟩ := by
        rw [Nat.mul_one, Nat.add_zero]; unfold Addr.add
        split
        · rename_i h0; rw [h0]
        · simp
      have hptr : hd.ptr (i * 1 + 0) = .pointer (some ⟨g, i, none⟩) := by
        simp only [Hdr.ptr, hva, Option.getD_some, hadd]
      have hcells : hj.val.cells = #[hj.val] := rfl
      simp only [execOp, ex, evv, hptr]
      simp only [Instr.storeAt, Instr.sureAddr, Sem.run_bind, Sem.run_pure, Result.andThen_ok, storeVar, run_size (hT _ _ ht), hcells, h1]
      rw [if_neg (by simp)]
      simp only [Sem.run_bind, hst, Result.andThen_ok, Sem.run_pure]
      rfl

theorem putA_sound (hT : TOk E.P T) {fr : List AVal} {hp : List (Option (List AVal))} {rows : List (Option Row)} {t : TypeId} {x v : Operand} {k : St → Prop} (hs : Sat E A ⟨fr, hp, rows⟩ a w) (h : putA T E.n0 ⟨fr, hp, rows⟩ t x v k) :
    ∃ σ' B w', k σ' ∧ Sat E B σ' a w' ∧ ∀ ty pos after guard, (execOp a.eval ⟨none, .store t x v, ty, pos, after, guard⟩).run E.P w = .ok .skip w' := by
  simp only [putA] at h
  replace h := with1_eq h; obtain ⟨xv, hx, h⟩ := h
  replace h := with1_eq h; obtain ⟨vv, hv, h⟩ := h
  have ex := ev_sound hs (x := x) hx
  have evv := ev_sound hs (x := v) hv
  split at h
  case h_2 => exact h.elim
  rename_i r i j
  split at h
  case h_2 => exact h.elim
  rename_i hrj hn0
  have hn0 : E.n0 ≤ r := Nat.le_of_ble_eq_true hn0
  have hrj : r ≠ j := fun e => by subst e; simp at hrj
  split at h
  case h_2 => exact h.elim
  rename_i c e' e yss c2 e2 ys hr hj
  cases ht : T t with
  | none => simp [ht] at h
  | some ti =>
    simp only [ht] at h
    split at h
    case h_2 => exact h.elim
    rename_i hcl hsz he2
    have he2 := Nat.eq_of_beq_eq_true he2
    subst he2
    split at h
    case h_2 => exact h.elim
    rename_i hsame
    have := TyC.same_eq hsame
    subst this
    obtain ⟨hi, h⟩ : i < @List.length (List c2.α) yss ∧ EqK (@List.set (List c2.α) yss i ys) (fun zss => setK rows r (some ⟨.lst c2 e2, e, true, zss⟩) (fun rows' => setK rows' j none fun rows' => (match noIb r hp with | true => cleanI r fr fun fr' => k ⟨fr', hp, rows'⟩ | false => False))) := h
    replace h := eqK_eq h
    revert yss
    intro (yss : List (List c2.α)) hr hi h
    rw [setK_eq, setK_eq] at h
    split at h
    case h_2 => exact h.elim
    rename_i hnb
    rw [cleanI_eq] at h
    have hm := hs.mem
    obtain ⟨_, ho⟩ := hm.row r _ hr
    obtain ⟨ho, hnk⟩ := ho rfl
    obtain ⟨_, hoj⟩ := hm.row j _ hj
    obtain ⟨hoj, hnkj⟩ := hoj rfl
    have hojf := hoj.flat hcl
    have hlt : ∀ i r, nthj rows i = some r → i < rows.length := fun i r hi => by
      rcases Nat.lt_or_ge i rows.length with h' | h'
      · exact h'
      · rw [nthj_none h'] at hi; cases hi
    let n := yss.length
    obtain ⟨g, cur', hva, hown', hrun⟩ := put_own (hj := A.rw j) hT ht hsz ho.outer (i := i) (by show i < (List.map (A.inn r) (List.range yss.length)).length; simpa using hi)
    let ihN : Nat → Hdr := upd (A.inn r) i (A.rw j)
    have hlen : (yss.set i ys).length = n := by simp [n]
    have hrange : (List.range n).map ihN = ((List.range n).map (A.inn r)).set i (A.rw j) := by
      apply List.ext_getElem?
      intro q
      by_cases hq : q < n
      · rw [List.getElem?_map, List.getElem?_range hq]
        by_cases hqi : q = i
        · subst hqi
          rw [List.getElem?_set_self (by simpa using hq)]
          simp [ihN, upd_same]
        · rw [List.getElem?_set_ne (fun e => hqi e.symm), List.getElem?_map, List.getElem?_range hq]
          simp [ihN, upd_ne _ _ _ hqi]
      · rw [List.getElem?_eq_none (by simpa using hq), List.getElem?_eq_none (by simpa using hq)]
    have hcross : ∀ b, Feet ⟨.lst c2 e2, e, true, yss⟩ (A.rw r) (A.inn r) b → ¬ (A.rw j).at b := fun b hb hb' => by
      obtain ⟨a0, ha0, hb0⟩ := hb'
      exact hm.rr r j _ _ b hr hj hrj rfl hb (Foot.feet ⟨.inl rfl, a0, ha0, hb0⟩ hcl)
    have hg : Feet ⟨.lst c2 e2, e, true, yss⟩ (A.rw r) (A.inn r) g := Feet.head (r := ⟨.lst c2 e2, e, true, yss⟩) rfl hva
    have hk : Kept (fun b => b < w.heap.size ∧ ¬ (b = g)) w (w.setRow g cur') := kept_setRow w g cur' fun b hb => hb.2
    have hih : ∀ q, q < n → q ≠ i → ihN q = A.inn r q := fun q hq hqi => upd_ne _ _ _ hqi
    have hii : ihN i = A.rw j := upd_same _ _ _
    have inner_ne : ∀ q, q < n → ∀ a0, (A.inn r q).a = some a0 → a0.block ≠ g := fun q hq a0 ha0 => ho.dis (q + 1) 0 _ _ (parts_get q hq) rfl (by omega) a0 _ ha0 hva
    have hnew : RowsOwn (w.setRow g cur') (A.rw r) ihN ⟨.lst c2 e2, e, true, yss.set i ys⟩ := by
      have part : ∀ m p, ((⟨.lst c2 e2, e, true, yss.set i ys⟩ : Row).parts (A.rw r) ihN)[m]? = some p → (m = 0 ∧ p = (A.rw r, ⟨.sl, e, true, ((List.range n).map (A.inn r)).set i (A.rw j)⟩)) ∨ (m = i + 1 ∧ p = (A.rw j, ⟨c2, e2, true, ys⟩)) ∨
          (∃ q, q < n ∧ q ≠ i ∧ m = q + 1 ∧ p = (A.inn r q, ⟨c2, e2, true, yss.getD q []⟩)) := fun m p hm => by
        cases m with
        | zero =>
          have hm : some (A.rw r, (⟨.sl, e, true, (List.range (yss.set i ys).length).map ihN⟩ : Row)) = some p := hm
          rw [hlen] at hm
          cases hm
          exact .inl ⟨rfl, congrArg (fun z : List Hdr => ((A.rw r, (⟨.sl, e, true, z⟩ : Row)) : Hdr × Row)) hrange⟩
        | succ m =>
          have hml : m < (yss.set i ys).length := by
            rw [parts_lst, List.getElem?_cons_succ, List.getElem?_map] at hm
            rcases Nat.lt_or_ge m (yss.set i ys).length with h0 | h0
            · exact h0
            · rw [List.getElem?_eq_none (by simpa using h0)] at hm; cases hm
          rw [parts_get m hml] at hm
          cases hm
          by_cases hmi : m = i
          · subst hmi
            refine .inr (.inl ⟨rfl, ?_⟩)
            have : (yss.set m ys).getD m [] = ys := by simp [List.getD, hi]
            rw [this, hii]
          · refine .inr (.inr ⟨m, by omega, hmi, rfl, ?_⟩)
            have : (yss.set i ys).getD m [] = yss.getD m [] := by
              rw [List.getD_eq_getElem?_getD, List.getD_eq_getElem?_getD, List.getElem?_set_ne (fun e => hmi e.symm)]
            rw [this, hih m (by omega) hmi]
      refine ⟨fun p hp => ?_, fun i1 j1 p q hp hq hij y z hy hz he0 => ?_⟩
      · obtain ⟨m, hm'⟩ := List.mem_iff_getElem?.1 hp
        rcases part m p hm' with ⟨_, rfl⟩ | ⟨_, rfl⟩ | ⟨q, hq, hqi, _, rfl⟩
        · exact hown'
        · exact hojf.keep fun a0 ha0 => setRow_other _ _ _ _ (fun e0 => hcross _ hg ⟨a0, ha0, e0⟩)
        · exact (ho.inner hq).keep fun a0 ha0 => setRow_other _ _ _ _ (inner_ne q hq a0 ha0)
      · rcases part i1 p hp with ⟨rfl, rfl⟩ | ⟨rfl, rfl⟩ | ⟨q1, hq1, hqi1, rfl, rfl⟩ <;> rcases part j1 q hq with ⟨rfl, rfl⟩ | ⟨rfl, rfl⟩ | ⟨q2, hq2, hqi2, rfl, rfl⟩
        · exact hij rfl
        · rw [hva] at hy; cases hy
          exact hcross _ hg ⟨z, hz, he0.symm⟩
        · rw [hva] at hy; cases hy
          exact inner_ne q2 hq2 z hz he0.symm
        · rw [hva] at hz; cases hz
          exact hcross _ hg ⟨y, hy, he0⟩
        · exact hij rfl
        · exact hcross z.block ⟨_, mem_inner hq2, .inl rfl, z, hz, rfl⟩ ⟨y, hy, he0⟩
        · rw [hva] at hz; cases hz
          exact inner_ne q1 hq1 y hy he0
        · exact hcross y.block ⟨_, mem_inner hq1, .inl rfl, y, hy, rfl⟩ ⟨z, hz, he0.symm⟩
        · exact ho.dis (q1 + 1) (q2 + 1) _ _ (parts_get q1 hq1) (parts_get q2 hq2) hij y z hy hz he0
    let rw2 : Nat → Option Row := fun q => if q = r ∨ q = j then none else nthj rows q
    have hsub : ∀ q c, rw2 q = some c → nthj rows q = some c := fun q c hq => by
      simp only [rw2] at hq
      split at hq
      · cases hq
      · exact hq
    have hM := hm.remake (rw2 := rw2) (tch := fun b => b = g) hsub (fun b hb => by subst hb; exact ⟨r, _, hr, rfl, by simp [rw2], hg⟩) hk hs.klt r (A.rw r) ihN ⟨.lst c2 e2, e, true, yss.set i ys⟩ (by simp [rw2]) hn0
      (fun i0 cs hi0 => noIs_den (r := r) (A := A) (B := A.setRw r (A.rw r) ihN) rfl (by
        funext q
        show upd A.rw r (A.rw r) q = _
        by_cases hq : q = r
        · subst hq; rw [upd_same]
        · rw [upd_ne _ _ _ hq]) (fun q hq => upd_ne _ _ _ hq) cs (noIb_get hp hnb i0 cs hi0)) hnew (fun b hb => by
        obtain ⟨p, hp', _, a0, ha0, hb0⟩ := hb
        rw [parts_lst] at hp'
        simp only [List.mem_cons, List.mem_map, List.mem_range] at hp'
        rcases hp' with rfl | ⟨q, hq, rfl⟩
        · exact .inr ⟨r, _, hr, rfl, by simp [rw2], hb0 ▸ Feet.head (r := ⟨.lst c2 e2, e, true, yss⟩) rfl ha0⟩
        · rw [hlen] at hq
          by_cases hqi : q = i
          · subst hqi
            rw [hii] at ha0
            exact .inr ⟨j, _, hj, rfl, by simp [rw2], Foot.feet ⟨.inl rfl, a0, ha0, hb0⟩ hcl⟩
          · rw [hih q hq hqi] at ha0
            exact .inr ⟨r, _, hr, rfl, by simp [rw2], ⟨_, mem_inner hq, .inl rfl, a0, ha0, hb0⟩⟩)
    have hrw : (A.setRw r (A.rw r) ihN).rw = A.rw := by
      funext q
      show upd A.rw r (A.rw r) q = _
      by_cases hq : q = r
      · subst hq; rw [upd_same]
      · rw [upd_ne _ _ _ hq]
    have hrows : nthj ((rows.set r (some ⟨.lst c2 e2, e, true, yss.set i ys⟩)).set j none) = upd rw2 r (some ⟨.lst c2 e2, e, true, yss.set i ys⟩) := by
      funext q
      rw [nthj_setNone]
      by_cases hqj : q = j
      · subst hqj
        rw [if_pos rfl, upd_ne _ _ _ (fun e => hrj e.symm)]
        simp [rw2]
      · rw [if_neg hqj, nthj_set _ _ _ (hlt r _ hr)]
        by_cases hqr : q = r
        · subst hqr; rw [upd_same, upd_same]
        · rw [upd_ne _ _ _ hqr, upd_ne _ _ _ hqr]
          simp [rw2, hqr, hqj]
    refine ⟨_, A.setRw r (A.rw r) ihN, w.setRow g cur', h, ?_, fun ty pos after guard => hrun a.eval x v ty pos after guard (by rw [ex]; rfl) (by rw [evv]; rfl)⟩
    have hpres : ∀ y : AVal, y.noI r = true → y.den (A.setRw r (A.rw r) ihN) = y.den A := fun y hy => AVal.noI_den (A := A) (B := A.setRw r (A.rw r) ihN) rfl hrw (fun q hq => upd_ne _ _ _ hq) y hy
    exact {
      defers := hs.defers
      size := by simpa using hs.size
      fr := fun t0 y hy => by
        rw [List.getElem?_map] at hy
        cases hf : fr[t0]? with
        | none => rw [hf] at hy; cases hy
        | some y0 =>
          rw [hf] at hy
          simp only [Option.map_some, Option.some.injEq] at hy
          split at hy
          · rename_i hno
            subst hy
            exact (hs.fr t0 y0 hf).imp id (fun e0 => by rw [hpres y0 hno]; exact e0)
          · exact .inl hy.symm
      sc := fun t0 y hy => by
        rw [List.getElem?_map] at hy
        cases hf : fr[t0]? with
        | none => rw [hf] at hy; cases hy
        | some y0 =>
          rw [hf] at hy
          simp only [Option.map_some, Option.some.injEq] at hy
          split at hy
          · subst hy; simpa using hs.sc t0 y0 hf
          · subst hy; simp [AVal.sc]
      hsc := fun i0 cs hi0 => by simpa using hs.hsc i0 cs hi0
      mem := by
        show Mem E _ (nthj hp) (nthj _) _
        rw [hrows]; exact hM
      klt := fun b hb => by rw [setRow_size]; exact hs.klt b hb
      n0 := by simpa using hs.n0
      b0 := hs.b0 }

end
end Go.Proofs.Ytlplngafncobkaa.Fw
