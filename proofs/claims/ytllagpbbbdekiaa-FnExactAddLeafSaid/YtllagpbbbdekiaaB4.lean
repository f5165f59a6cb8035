/- Contracts: slices.Insert over leaves, one leaf. -/
import Derived.Test.YtllagpbbbdekiaaB3
namespace Go.Proofs.Ytllagpbbbdekiaa.Fw
open Go Go.RowKit Go.Lib
set_option linter.unusedVariables false
set_option linter.unusedSimpArgs false
set_option maxRecDepth 100000
set_option maxHeartbeats 4000000

abbrev fLf : Lf → List Value := fun x => dens A0 (lT.enc x)
theorem fLf_len (x : Lf) : (fLf x).length = 4 := rfl
theorem fLf_one (l : List Lf) : ∀ v ∈ l.flatMap fLf, v.oneCell' = true := fun v hv => by
  obtain ⟨x, _, hx⟩ := List.mem_flatMap.1 hv
  have hx : v ∈ [Value.int .i64 x.1.1, .int .i64 x.1.2, .int .i64 x.2.1, .int .i64 x.2.2] := hx
  simp only [List.mem_cons, List.not_mem_nil, or_false] at hx
  rcases hx with rfl | rfl | rfl | rfl <;> rfl
theorem flat_split (xs : List Lf) (p : Nat) (h : p ≤ xs.length) : (xs.take p).flatMap fLf = (xs.flatMap fLf).take (p * 4) ∧ (xs.drop p).flatMap fLf = (xs.flatMap fLf).drop (p * 4) := by
  have h1 : xs.flatMap fLf = (xs.take p).flatMap fLf ++ (xs.drop p).flatMap fLf := by rw [← List.flatMap_append, List.take_append_drop]
  have h2 : ((xs.take p).flatMap fLf).length = p * 4 := by rw [flatMap_length _ 4 fLf_len, List.length_take, Nat.min_eq_left h]
  constructor
  · rw [h1, List.take_left' h2]
  · rw [h1, List.drop_left' h2]
/-- A plain block whose cells are told one by one is an own row. -/
theorem own_cells {w' : World} {g cap n : Nat} {cur' : Array Value} {ys : List Lf} (hg : w'.heap[g]? = some (.cells cur' 31 (0, 0))) (hs : cur'.size = cap * 4) (hn : n = ys.length) (hc : n ≤ cap) (hm : cap ≤ maxLen)
    (h : ∀ t, t < n * 4 → w'.cell? ⟨g, t, none⟩ = (ys.flatMap fLf)[t]?) : RowOwn w' ⟨some ⟨g, 0, none⟩, n, cap⟩ ⟨lT, 31, true, ys⟩ := by
  subst hn
  have hl : (ys.flatMap fLf).length = ys.length * 4 := flatMap_length _ 4 fLf_len _
  refine ⟨hl, .inr ⟨g, cap, cur', rfl, Nat.zero_le _, hg, hc, hm, hs, ?_⟩⟩
  show cur'.toList.take (ys.length * 4) = ys.flatMap fLf
  apply List.ext_getElem?
  intro t
  rw [List.getElem?_take]
  by_cases ht : t < ys.length * 4
  · rw [if_pos ht, ← h t ht]
    simp [World.cell?, hg]
  · rw [if_neg ht, List.getElem?_eq_none (by omega)]
theorem ins_cells (xs vs : List Lf) (p : Nat) (h : p ≤ xs.length) (hv : vs.length = 1) (t : Nat) : ((xs.take p ++ (vs ++ xs.drop p)).flatMap fLf)[t]? =
    if t < p * 4 then (xs.flatMap fLf)[t]? else if t < p * 4 + 4 then (vs.flatMap fLf)[t - p * 4]? else (xs.flatMap fLf)[t - 4]? := by
  obtain ⟨h1, h2⟩ := flat_split xs p h
  have h3 : ((xs.take p).flatMap fLf).length = p * 4 := by rw [flatMap_length _ 4 fLf_len, List.length_take, Nat.min_eq_left h]
  have h4 : (vs.flatMap fLf).length = 4 := by rw [flatMap_length _ 4 fLf_len, hv]
  rw [List.flatMap_append, List.flatMap_append]
  split
  · rename_i hp
    rw [List.getElem?_append_left (by omega), h1, List.getElem?_take, if_pos hp]
  · rename_i hp
    rw [List.getElem?_append_right (by omega), h3]
    split
    · rw [List.getElem?_append_left (by omega)]
    · rw [List.getElem?_append_right (by omega), h4, h2, List.getElem?_drop]
      congr 1; omega
theorem zc_size (n : Nat) : (Builtin.zeroCells zLf.cells n).size = n * 4 := by simp [Builtin.zeroCells, Value.cells]
def insvC : MCtr := fun hg rg lr vals k => match vals with
  | [.row i, .int .i64 p, .row j] => rowO lT (rg i) fun e xs => rowO lT (rg j) fun e2 vs => (¬ i = j ∧ e = 31 ∧ (0 ≤ p ∧ p ≤ (List.length (α := Lf) xs : Int)) ∧ (List.length (α := Lf) xs : Int) ≤ 1000 ∧ List.length (α := Lf) vs = 1) ∧
    ∀ ys : List Lf, ys = (xs : List Lf).take p.toNat ++ ((vs : List Lf) ++ (xs : List Lf).drop p.toNat) → k [(i, none)] [⟨lT, 31, true, ys⟩] (.row lr)
  | _ => False
theorem insv_ok : MCtrOk Try.prog 69 insvC where
  enter := enter_ok Try.func69 (by kernel_rfl) rfl
  calls := by
    intro hg rg lr vals k h
    unfold insvC at h
    split at h
    case h_2 => exact h.elim
    rename_i i p j
    obtain ⟨e, xs, hi, h⟩ : ∃ e, ∃ (xs : List Lf), _ := rowO_inv h
    obtain ⟨e2, vs, hj, h⟩ : ∃ e, ∃ (xs : List Lf), _ := rowO_inv h
    obtain ⟨⟨hij, rfl, hp, hlen, hv1⟩, hk⟩ := h
    replace hk := hk _ rfl
    refine ⟨_, _, _, hk, (ups_one hi rfl (fun r' hr' => by cases hr')), fun A w hM => ?_⟩
    have hp1 : (0 : Int) ≤ p := hp.1
    obtain ⟨P, rfl⟩ : ∃ P : Nat, p = (P : Int) := ⟨p.toNat, by omega⟩
    have hlen : (xs.length : Int) ≤ 1000 := hlen
    have hP : P ≤ xs.length := by have := hp.2; omega
    have hro := ((hM.row i _ hi).2 rfl).flat rfl
    have hrv := ((hM.row j _ hj).2 rfl).flat rfl
    -- the leaf's block
    have hv1 : vs.length = 1 := hv1
    rcases hrv.2 with ⟨_, hn⟩ | ⟨vb, vc, vcur, hvv, _, hvg, _, _, hvs, hvt⟩
    · have hn : vs.length = 0 := hn
      omega
    have hvv : (A.rw j).val = .slice (some ⟨vb, 0, none⟩) vs.length vc := hvv
    have hvs : vcur.size = vc * 4 := hvs
    have hvt : vcur.toList.take (vs.length * 4) = vs.flatMap fLf := hvt
    have hvl : (vs.flatMap fLf).length = 4 := by rw [flatMap_length _ 4 fLf_len, hv1]
    have hvcell : ∀ t v, (vs.flatMap fLf)[t]? = some v → w.cell? ⟨vb, t, none⟩ = some v := fun t v ht => by
      rw [← hvt, List.getElem?_take] at ht
      split at ht
      · simp only [World.cell?, hvg, id]
        simpa using ht
      · cases ht
    rw [hv1] at hvv
    have hargs : (dens A [AVal.row i, .int .i64 (P : Int), .row j]).toArray = #[(A.rw i).val, .int .i64 (P : Int), (A.rw j).val] := rfl
    rw [hargs, hvv]
    have hvv' := hvv
    simp only [Hdr.val, Value.slice.injEq] at hvv'
    have hcl : (xs.flatMap fLf).length = xs.length * 4 := flatMap_length _ 4 fLf_len _
    have hyl : ((xs : List Lf).take P ++ ((vs : List Lf) ++ (xs : List Lf).drop P)).length = xs.length + 1 := by simp; omega
    have htn : ((P : Int)).toNat = P := rfl
    rw [htn]
    -- how it ends
    have fin : ∀ (g cap : Nat) (w' : World) (cur' : Array Value) (e' : Ending), e' = .returned (.slice (some ⟨g, 0, none⟩) (xs.length + 1) cap) → w'.heap[g]? = some (.cells cur' 31 (0, 0)) → cur'.size = cap * 4 → xs.length + 1 ≤ cap → cap ≤ maxLen →
        (w.heap.size ≤ g ∨ freed A rg [(i, none)] g) → Kept (fun b => b < w.heap.size ∧ ¬ touched A rg [(i, none)] b) w w' →
        (∀ t, t < (xs.length + 1) * 4 → w'.cell? ⟨g, t, none⟩ = ((xs.take P ++ (vs ++ xs.drop P)).flatMap fLf)[t]?) →
        MPost A rg lr [(i, none)] [⟨lT, 31, true, xs.take P ++ (vs ++ xs.drop P)⟩] (.row lr) w e' w' := fun g cap w' cur' e' he hg hs hc hm hf hkp hcell => by
      have hown := own_cells (ys := xs.take P ++ (vs ++ xs.drop P)) hg hs (n := xs.length + 1) hyl.symm hc hm hcell
      refine ⟨[⟨⟨some ⟨g, 0, none⟩, xs.length + 1, cap⟩, fun _ => ⟨none, 0, 0⟩⟩], ?_, hkp, fun q r' hq => by simp at hq, newRows_one rfl (hown.rows rfl) (fun b hb => ?_)⟩
      · have q : (A.setRws lr [(⟨⟨some ⟨g, 0, none⟩, xs.length + 1, cap⟩, fun _ => ⟨none, 0, 0⟩⟩ : HdrN)]).rw lr = ⟨some ⟨g, 0, none⟩, xs.length + 1, cap⟩ := (setRws_in A lr [(⟨⟨some ⟨g, 0, none⟩, xs.length + 1, cap⟩, fun _ => ⟨none, 0, 0⟩⟩ : HdrN)] 0 _ rfl).1
        rw [he]
        show Ending.returned _ = Ending.returned (((A.setRws lr _).rw lr).val)
        rw [q]; rfl
      · obtain ⟨_, a', ha, hb'⟩ := Feet.flat hb rfl
        cases ha
        rw [← hb']
        exact hf
    rcases hro.2 with ⟨hv, hn⟩ | ⟨b0, cap, cur, hv, _, hg0, hle, hm, hcs, htk⟩
    · -- no element: a nil slice
      have hn : xs.length = 0 := hn
      have hx0 : xs = [] := List.eq_nil_of_length_eq_zero hn
      subst hx0
      obtain rfl : P = 0 := by simpa using hP
      rw [hv]
      have hcon := ins_endgrow none 0 0 vb vc [] (vs.flatMap fLf) w (Nat.le_refl _) (by omega) (by omega) rfl hvl (fun _ => rfl) (fun a h => by cases h) hvcell (fLf_one vs)
      refine Calls.mono hcon ?_
      rintro e' w' ⟨he, hw⟩
      subst hw
      have hgn := grownCap_ge w (0 + 1) 0 31
      have hgm := grownCap_le_maxLen w (0 + 1) 0 31 (by unfold maxLen; omega)
      refine fin w.heap.size _ _ _ e' he (by show (w.heap.push _)[w.heap.size]? = _; rw [Array.getElem?_push, if_pos rfl]) (by rw [Array.size_append, List.size_toArray, List.length_append, hvl, zc_size, List.length_nil]; omega) hgn hgm (.inl (Nat.le_refl _))
        (Kept.of_below (B := w.heap.size) (((Blw.refl _ w).drew).alloc (Nat.le_refl _) _) (fun k hk => hk.1)) (fun t ht => ?_)
      simp only [List.length_nil, Nat.zero_add, Nat.one_mul] at ht
      rw [World.cell?_alloc_at (w := w.drew) _ _ w.heap.size t rfl]
      simp only [List.nil_append, List.take_nil, List.drop_nil, List.append_nil]
      rw [Array.getElem?_append_left (by simp [hvl]; omega)]
      simp
    · have hle : xs.length ≤ cap := hle
      have hcs : cur.size = cap * 4 := hcs
      have htk : cur.toList.take (xs.length * 4) = xs.flatMap fLf := htk
      have hv : (A.rw i).val = .slice (some ⟨b0, 0, none⟩) xs.length cap := hv
      have hv' := hv
      simp only [Hdr.val, Value.slice.injEq] at hv'
      have hblk : b0 < w.heap.size := lt_of_heap hg0
      have hxcell : ∀ t v, (xs.flatMap fLf)[t]? = some v → w.cell? ⟨b0, t, none⟩ = some v := fun t v ht => by
        rw [← htk, List.getElem?_take] at ht
        split at ht
        · simp only [World.cell?, hg0, id]
          simpa using ht
        · cases ht
      have hxget : ∀ t, t < xs.length * 4 → w.cell? ⟨b0, t, none⟩ = (xs.flatMap fLf)[t]? := fun t ht => by
        rw [hxcell t _ (List.getElem?_eq_getElem (by omega))]
        exact (List.getElem?_eq_getElem (by omega)).symm
      have hvget : ∀ t, t < 4 → w.cell? ⟨vb, t, none⟩ = (vs.flatMap fLf)[t]? := fun t ht => by
        rw [hvcell t _ (List.getElem?_eq_getElem (by omega))]
        exact (List.getElem?_eq_getElem (by omega)).symm
      have hff : Feet ⟨lT, 31, true, xs⟩ (A.rw i) (A.inn i) b0 := Foot.feet ⟨.inl rfl, _, hv'.1, rfl⟩ rfl
      have hfv : Feet ⟨lT, e2, true, vs⟩ (A.rw j) (A.inn j) vb := Foot.feet ⟨.inl rfl, _, hvv'.1, rfl⟩ rfl
      have hne : vb ≠ b0 := fun e => hM.rr i j _ _ b0 hi hj hij rfl hff (e ▸ hfv)
      have hfree : freed A rg [(i, none)] b0 := ⟨i, _, List.mem_singleton.2 rfl, hi, hff⟩
      have htch : touched A rg [(i, none)] b0 := ⟨i, _, _, List.mem_singleton.2 rfl, hi, hff⟩
      have hsp : ∀ t, t < cap * 4 → (w.cell? ⟨b0, t, none⟩).isSome = true := fun t ht => by
        simp only [World.cell?, hg0, id]
        rw [Array.getElem?_eq_getElem (by omega)]; rfl
      have hfz : ∀ t, w.frozen? ⟨b0, t, none⟩ = false := fun t => by simp [World.frozen?, hg0]
      have hfzv : ∀ t, w.frozen? ⟨vb, t, none⟩ = false := fun t => by simp [World.frozen?, hvg]
      have hm : cap ≤ 9223372036854775807 := by unfold maxLen at hm; exact hm
      rw [hv]
      have hpos : xs.length + 1 ≤ cap → cur.size ≠ 0 := fun h => by omega
      rcases Nat.lt_or_ge P xs.length with hPl | hPe
      · rcases Nat.lt_or_ge cap (xs.length + 1) with hroom | hroom
        · -- within, no room
          have hcon := ins_grow b0 xs.length cap P vb vc (xs.flatMap fLf) (vs.flatMap fLf) w hPl hle hroom (by omega) hcl hvl hxcell hvcell (fLf_one xs) (fLf_one vs)
          refine Calls.mono hcon ?_
          rintro e' w' ⟨he, hw⟩
          have hgn := grownCap_ge w (xs.length + 1) cap 31
          have hgm := grownCap_le_maxLen w (xs.length + 1) cap 31 (by unfold maxLen; omega)
          obtain ⟨G, hG⟩ : ∃ G, grownCap w (xs.length + 1) cap 31 = G := ⟨_, rfl⟩
          rw [hG] at he hw hgn hgm
          obtain ⟨ROW, hROW⟩ : ∃ ROW : Array Value, ((xs.flatMap fLf).take (P * 4)).toArray ++ Builtin.zeroCells zLf.cells (xs.length + 1 - P) ++ Builtin.zeroCells zLf.cells (G - (xs.length + 1)) = ROW := ⟨_, rfl⟩
          rw [hROW] at hw
          have hRs : ROW.size = G * 4 := by
            rw [← hROW]
            rw [Array.size_append, Array.size_append, List.size_toArray, List.length_take, hcl, zc_size, zc_size]
            omega
          have hR0 : ∀ t, t < P * 4 → ROW[t]? = (xs.flatMap fLf)[t]? := fun t ht => by
            rw [← hROW, Array.append_assoc, Array.getElem?_append_left (by simp [hcl]; omega)]
            simp only [List.getElem?_toArray, List.getElem?_take, if_pos ht]
          let wa := w.alloc (.cells ROW 31)
          have ha : wa.heap[w.heap.size]? = some (.cells ROW 31 (0, 0)) := by show (w.heap.push _)[w.heap.size]? = _; rw [Array.getElem?_push, if_pos rfl]
          have hak : ∀ k, k < w.heap.size → wa.heap[k]? = w.heap[k]? := fun k hk => by show (w.heap.push _)[k]? = _; rw [Array.getElem?_push, if_neg (by omega)]
          have has : wa.heap.size = w.heap.size + 1 := Array.size_push ..
          obtain ⟨c1, q1, q2, q3, q4, q5, q6, q7, q8⟩ := setCells_row w.heap.size 31 (vs.flatMap fLf) (P * 4) wa.drew ROW ha
          obtain ⟨c2, r1, r2, r3, r4, r5, r6, r7, r8⟩ := setCells_row w.heap.size 31 ((xs.flatMap fLf).drop (P * 4)) ((P + 1) * 4) (wa.drew.setCells w.heap.size (P * 4) (vs.flatMap fLf)).drew c1 q1
          have hacell : ∀ t, wa.drew.cell? ⟨w.heap.size, t, none⟩ = ROW[t]? := fun t => World.cell?_alloc_at (w := w) ROW _ w.heap.size t rfl
          have hw : w' = ((wa.drew.setCells w.heap.size (P * 4) (vs.flatMap fLf)).drew).setCells w.heap.size ((P + 1) * 4) ((xs.flatMap fLf).drop (P * 4)) := hw
          subst hw
          have hDl : ((xs.flatMap fLf).drop (P * 4)).length = (xs.length - P) * 4 := by rw [List.length_drop, hcl]; omega
          have hs1 : ∀ t, t < (vs.flatMap fLf).length → (wa.drew.cell? ⟨w.heap.size, P * 4 + t, none⟩).isSome = true := fun t ht => by
            rw [hacell, Array.getElem?_eq_getElem (by rw [hRs]; omega)]; rfl
          refine fin w.heap.size G _ c2 e' he r1 (by rw [r2, q2, hRs]) hgn hgm (.inl (Nat.le_refl _)) ⟨r5.trans q5, r6.trans q6, r7.trans q7, ?_, fun k hk => ?_, ?_⟩ (fun t ht => ?_)
          · rw [r4]; show _ ≤ (wa.drew.setCells _ _ _).heap.size; rw [q4]; show _ ≤ wa.heap.size; omega
          · rw [r3 k (by omega)]; show (wa.drew.setCells _ _ _).heap[k]? = _; rw [q3 k (by omega)]; exact hak k hk.1
          · refine Dr.of ?_
            rw [r8]; show w.drawn ≤ (wa.drew.setCells _ _ _).drawn + 1; rw [q8]; show w.drawn ≤ w.drawn + 1 + 1; omega
          · rw [ins_cells xs vs P hP hv1]
            by_cases h1 : t < P * 4
            · rw [if_pos h1, World.cell?_setCells_out _ _ _ _ _ (fun _ _ => .inl (by show t < _; omega))]
              show (wa.drew.setCells w.heap.size (P * 4) (vs.flatMap fLf)).cell? _ = _
              rw [World.cell?_setCells_out _ _ _ _ _ (fun _ _ => .inl (by show t < _; omega)), hacell, hR0 t h1]
            · rw [if_neg h1]
              by_cases h2 : t < P * 4 + 4
              · rw [if_pos h2, World.cell?_setCells_out _ _ _ _ _ (fun _ _ => .inl (by show t < _; omega))]
                show (wa.drew.setCells w.heap.size (P * 4) (vs.flatMap fLf)).cell? _ = _
                have := World.cell?_setCells_in w.heap.size (vs.flatMap fLf) (P * 4) wa.drew hs1 (t - P * 4) (by omega)
                rw [show P * 4 + (t - P * 4) = t by omega] at this
                rw [this]; exact (List.getElem?_eq_getElem _).symm
              · rw [if_neg h2]
                have := World.cell?_setCells_in w.heap.size ((xs.flatMap fLf).drop (P * 4)) ((P + 1) * 4) (wa.drew.setCells w.heap.size (P * 4) (vs.flatMap fLf)).drew (fun s hs => by
                  show ((wa.drew.setCells w.heap.size (P * 4) (vs.flatMap fLf)).cell? _).isSome = true
                  refine isSome_setCells _ _ _ _ hs1 _ ?_
                  rw [hacell, Array.getElem?_eq_getElem (by rw [hRs]; omega)]; rfl) (t - (P + 1) * 4) (by omega)
                rw [show (P + 1) * 4 + (t - (P + 1) * 4) = t by omega] at this
                rw [this, ← List.getElem?_eq_getElem, List.getElem?_drop]
                congr 1; omega
        · -- within, in place
          have hcon := ins_shift b0 xs.length cap P vb vc (xs.flatMap fLf) (vs.flatMap fLf) w hPl hroom hm hne hcl hvl hxcell (fun t ht => hsp t (by omega)) (fun t _ => hfz t) hvcell (fLf_one xs) (fLf_one vs)
            e2 31 vcur.size cur.size (by simp [World.shape?, hvg]) (by simp [World.shape?, hg0]) (hpos hroom) (hfzv _) (hfzv _)
          refine Calls.mono hcon ?_
          rintro e' w' ⟨he, hw⟩
          have hDl : ((xs.flatMap fLf).drop (P * 4)).length = (xs.length - P) * 4 := by rw [List.length_drop, hcl]; omega
          obtain ⟨c1, q1, q2, q3, q4, q5, q6, q7, q8⟩ := setCells_row b0 31 ((xs.flatMap fLf).drop (P * 4)) ((P + 1) * 4) w.drew cur hg0
          obtain ⟨c2, r1, r2, r3, r4, r5, r6, r7, r8⟩ := setCells_row b0 31 (vs.flatMap fLf) (P * 4) (w.drew.setCells b0 ((P + 1) * 4) ((xs.flatMap fLf).drop (P * 4))) c1 q1
          subst hw
          have hs1 : ∀ s, s < ((xs.flatMap fLf).drop (P * 4)).length → (w.drew.cell? ⟨b0, (P + 1) * 4 + s, none⟩).isSome = true := fun s hs => hsp _ (by omega)
          refine fin b0 cap _ c2 e' he r1 (by rw [r2, q2, hcs]) hroom (by unfold maxLen; exact hm) (.inr hfree) ⟨r5.trans q5, r6.trans q6, r7.trans q7, ?_, fun k hk => ?_, ?_⟩ (fun t ht => ?_)
          · rw [r4, q4]; exact Nat.le_refl _
          · have hkb : k ≠ b0 := fun e => hk.2 (e ▸ htch)
            rw [r3 k hkb, q3 k hkb]; rfl
          · refine Dr.of ?_
            rw [r8, q8]; exact Nat.le_succ _
          · rw [ins_cells xs vs P hP hv1]
            by_cases h1 : t < P * 4
            · rw [if_pos h1, World.cell?_setCells_out _ _ _ _ _ (fun _ _ => .inl (by show t < _; omega)), World.cell?_setCells_out _ _ _ _ _ (fun _ _ => .inl (by show t < _; omega))]
              exact hxget t (by omega)
            · rw [if_neg h1]
              by_cases h2 : t < P * 4 + 4
              · rw [if_pos h2]
                have := World.cell?_setCells_in b0 (vs.flatMap fLf) (P * 4) (w.drew.setCells b0 ((P + 1) * 4) ((xs.flatMap fLf).drop (P * 4))) (fun s hs => isSome_setCells _ _ _ _ hs1 _ (hsp _ (by omega))) (t - P * 4) (by omega)
                rw [show P * 4 + (t - P * 4) = t by omega] at this
                rw [this]; exact (List.getElem?_eq_getElem _).symm
              · rw [if_neg h2, World.cell?_setCells_out _ _ _ _ _ (fun _ _ => .inr (by show _ ≤ t; omega))]
                have := World.cell?_setCells_in b0 ((xs.flatMap fLf).drop (P * 4)) ((P + 1) * 4) w.drew hs1 (t - (P + 1) * 4) (by omega)
                rw [show (P + 1) * 4 + (t - (P + 1) * 4) = t by omega] at this
                rw [this, ← List.getElem?_eq_getElem, List.getElem?_drop]
                congr 1; omega
      · obtain rfl : P = xs.length := by omega
        have hd0 : xs.drop xs.length = [] := List.drop_length
        rcases Nat.lt_or_ge cap (xs.length + 1) with hroom | hroom
        · -- at the end, no room
          have hcon := ins_endgrow (some ⟨b0, 0, none⟩) xs.length cap vb vc (xs.flatMap fLf) (vs.flatMap fLf) w hle hroom (by omega) hcl hvl (fun h => by cases h) (fun a ha t v ht => by cases ha; rw [Addr.add_lit, Nat.zero_add]; exact hxcell t v ht) hvcell (fLf_one vs)
          refine Calls.mono hcon ?_
          rintro e' w' ⟨he, hw⟩
          have hgn := grownCap_ge w (xs.length + 1) cap 31
          have hgm := grownCap_le_maxLen w (xs.length + 1) cap 31 (by unfold maxLen; omega)
          subst hw
          refine fin w.heap.size _ _ _ e' he (by show (w.heap.push _)[w.heap.size]? = _; rw [Array.getElem?_push, if_pos rfl]) (by rw [Array.size_append, List.size_toArray, List.length_append, hvl, hcl, zc_size]; omega) hgn hgm (.inl (Nat.le_refl _))
            (Kept.of_below (B := w.heap.size) (((Blw.refl _ w).drew).alloc (Nat.le_refl _) _) (fun k hk => hk.1)) (fun t ht => ?_)
          rw [World.cell?_alloc_at (w := w.drew) _ _ w.heap.size t rfl, ins_cells xs vs _ hP hv1, Array.getElem?_append_left (by simp [hvl, hcl]; omega)]
          simp only [List.getElem?_toArray]
          by_cases h1 : t < xs.length * 4
          · rw [if_pos h1, List.getElem?_append_left (by omega)]
          · rw [if_neg h1, if_pos (by omega), List.getElem?_append_right (by omega), hcl]
        · -- at the end, in place
          have hcon := ins_endroom b0 xs.length cap vb vc (vs.flatMap fLf) w hroom hm hvl (fun t ht => hsp t (by omega)) (fun t _ => hfz t) hvcell (fLf_one vs)
          refine Calls.mono hcon ?_
          rintro e' w' ⟨he, hw⟩
          obtain ⟨c2, r1, r2, r3, r4, r5, r6, r7, r8⟩ := setCells_row b0 31 (vs.flatMap fLf) (xs.length * 4) w cur hg0
          subst hw
          refine fin b0 cap _ c2 e' he r1 (by rw [r2, hcs]) hroom (by unfold maxLen; exact hm) (.inr hfree) ⟨r5, r6, r7, ?_, fun k hk => ?_, ?_⟩ (fun t ht => ?_)
          · rw [r4]; exact Nat.le_refl _
          · have hkb : k ≠ b0 := fun e => hk.2 (e ▸ htch)
            exact r3 k hkb
          · refine Dr.of ?_
            rw [r8]; exact Nat.le_refl _
          · rw [ins_cells xs vs _ hP hv1]
            by_cases h1 : t < xs.length * 4
            · rw [if_pos h1, World.cell?_setCells_out _ _ _ _ _ (fun _ _ => .inl (by show t < _; omega))]
              exact hxget t h1
            · rw [if_neg h1, if_pos (by omega)]
              have := World.cell?_setCells_in b0 (vs.flatMap fLf) (xs.length * 4) w (fun s hs => hsp _ (by omega)) (t - xs.length * 4) (by omega)
              rw [show xs.length * 4 + (t - xs.length * 4) = t by omega] at this
              rw [this]; exact (List.getElem?_eq_getElem _).symm
end Go.Proofs.Ytllagpbbbdekiaa.Fw
