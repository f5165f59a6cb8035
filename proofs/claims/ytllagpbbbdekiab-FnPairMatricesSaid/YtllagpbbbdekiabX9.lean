/- Contracts: slices.DeleteFunc over pairs. -/
import Derived.Test.YtllagpbbbdekiabX8
namespace Go.Proofs.Ytllagpbbbdekiab.Fw
open Go Go.RowKit
set_option linter.unusedVariables false
set_option linter.unusedSimpArgs false
set_option maxRecDepth 100000
set_option maxHeartbeats 2000000
theorem enterE {P : Program} {T : TypeId → Option TInfo} {G : List (FuncId × Ctr)} {E : Env} (hP : E.P = P) (hT : TOk E.P T) (hG : GOk E.P G) {f : FuncId} {fn : Func} {c : Code} (hf : P.funcs[f]? = some fn) (hb : fn.body = some c)
    {w : World} {A : Asg} {vals : List AVal} {rows : List (Option Row)} {R : Ending → World → Prop} {hp : List (Option (List AVal))} (hm : Mem E A (nthj hp) (nthj rows) w) (hK : ∀ b, E.K b → b < w.heap.size) (hn0 : E.n0 ≤ rows.length) (hb0 : E.b0 ≤ hp.length)
    (hpsc : scO hp.length rows.length hp = true) (hsc : scs hp.length [] rows.length [] vals = true) {args : Array Value} (hargs : args = (dens A vals).toArray) (hlen : vals.length ≤ fn.ntmps)
    (h : vcCode E T G c (retA E T fn.results.toList R) (fun _ _ => False) (retA E T fn.results.toList R) ⟨vals ++ List.replicate (fn.ntmps - vals.length) .junk, hp, rows⟩) : Calls P f args w R := by
  subst hP
  refine calls_of_wp hf hb ?_
  have hs := Sat.start (E := E) (fn := fn) hsc hargs hlen hpsc hm hK hn0 hb0
  refine (vcCode_sound (E := E) hT hG c _ _ _ _ h).out (bodyPost E.P fn R) ?_ ?_ ?_ A _ w hs
  · intro σ' hk B a' w' hs'; exact retA_sound hT hk hs'
  · intro i σ' hk; exact hk.elim
  · intro σ' hk B a' w' hs'; exact retA_sound hT hk hs'
def dsdC : MCtr := fun hg rg lr vals k => match vals with
  | [.row i, .fn f [] [.loc q 0]] => isF f 34 (rowO rT (rg i) fun e prs => boxP (hg q) fun j => boxRR (hg j) fun r s => rowC aT (rg r) fun xs =>
      (¬ i = r ∧ List.length (α := List Int) prs ≤ 1000 ∧ ∀ p ∈ (prs : List (List Int)), PreS xs p) ∧ k [(i, none)] [⟨rT, e, true, (prs : List (List Int)).filter (fun p => !notS xs p)⟩] (.row lr))
  | _ => False
abbrev GDs := GOk.cons ds1_ok .nil
def keepI (xs : List Ang) (prs : List (List Int)) (j : Nat) : List Nat := (List.range j).filter fun k => !notS xs (prs.getD k [])
theorem keepI_next (xs : List Ang) (prs : List (List Int)) (j : Nat) : keepI xs prs (j + 1) = keepI xs prs j ++ (if notS xs (prs.getD j []) = true then [] else [j]) := by
  unfold keepI
  rw [filt_next (α := Nat)]
  congr 1
  cases notS xs (prs.getD j []) <;> rfl
theorem keepI_all (xs : List Ang) (prs : List (List Int)) {n : Nat} (h : ∀ j, j < n → notS xs (prs.getD j []) = false) : keepI xs prs n = List.range n := by
  unfold keepI
  exact List.filter_eq_self.2 fun k hk => by rw [h k (List.mem_range.1 hk)]; rfl
theorem keepI_lt {xs : List Ang} {prs : List (List Int)} {j k : Nat} (h : k ∈ keepI xs prs j) : k < j := List.mem_range.1 (List.mem_filter.1 h).1
theorem keepI_filter (xs : List Ang) (prs : List (List Int)) : ((keepI xs prs prs.length).map fun k => prs.getD k []) = prs.filter fun p => !notS xs p := filt_map [] prs fun p => !notS xs p
theorem set_take' {α : Type} {l : List α} {i : Nat} {x : α} (h : i < l.length) : (l.set i x).take (i + 1) = l.take i ++ [x] := by
  rw [List.take_add_one, List.take_set_of_le (Nat.le_refl i), List.getElem?_set_self h]; rfl
theorem dsd_ok : MCtrOk Try.prog 33 dsdC where
  enter := enter_ok Try.func33 (by kernel_rfl) rfl
  calls := by
    intro hg rg lr vals k h
    unfold dsdC at h
    split at h
    case h_2 => exact h.elim
    rename_i i f q
    obtain ⟨rfl, h⟩ := isF_inv h
    obtain ⟨e, prs, hi, h⟩ : ∃ e, ∃ (xs : List (List Int)), _ := rowO_inv h
    obtain ⟨j, hq, h⟩ := boxP_inv h
    obtain ⟨r, s, hj, h⟩ := boxRR_inv h
    obtain ⟨e3, own3, xs, hr, h⟩ : ∃ e own, ∃ (xs : List Ang), _ := rowC_inv h
    obtain ⟨⟨hir, hl, hpre⟩, hk⟩ := h
    refine ⟨_, _, _, hk, ups_one hi rfl (fun r' hr' => by cases hr'), fun A w hM => ?_⟩
    have hcm : CMem (A.pick [q, j] [i, r, s]) (nthj [some [.loc 1 0], some [.row 1, .row 2]]) (nthj [some ⟨rT, e, true, prs⟩, some ⟨aT, e3, false, xs⟩, none]) w := hM.pick [q, j] [i, r, s] [some [.loc 1 0], some [.row 1, .row 2]] [some ⟨rT, e, true, prs⟩, some ⟨aT, e3, false, xs⟩, none] (fun i9 cs h9 => by
      match i9, h9 with
      | 0, h9 => cases h9; exact ⟨_, hq, rfl, rfl⟩
      | 1, h9 => cases h9; exact ⟨_, hj, rfl, rfl⟩
      | i9 + 2, h9 => simp [nthj] at h9) (fun i9 r9 h9 => by
      match i9, h9 with
      | 0, h9 => cases h9; exact ⟨_, hi, .inl rfl⟩
      | 1, h9 => cases h9; exact ⟨_, hr, .inr rfl⟩
      | 2, h9 => simp [nthj] at h9
      | i9 + 3, h9 => simp [nthj] at h9) (fun i9 j9 r9 r' h9 h8 hij ho => by
      match i9, h9 with
      | 0, h9 =>
        match j9, h8 with
        | 0, h8 => exact absurd rfl hij
        | 1, h8 => exact hir
        | 2, h8 => simp [nthj] at h8
        | j9 + 3, h8 => simp [nthj] at h8
      | 1, h9 => cases h9; cases ho
      | 2, h9 => simp [nthj] at h9
      | i9 + 3, h9 => simp [nthj] at h9)
    obtain ⟨A0, hA0⟩ : ∃ A0 : Asg, A.pick [q, j] [i, r, s] = A0 := ⟨_, rfl⟩
    have hrw0 : A0.rw 0 = A.rw i := by rw [← hA0]; rfl
    have hin0 : A0.inn 0 = A.inn i := by rw [← hA0]; rfl
    rw [hA0] at hcm
    have hown := (hcm.row 0 _ rfl).2 rfl
    have hmem := sel_mem (P := Try.prog) rfl hcm
    have hsd := fun (A9 : Asg) hp9 rw9 w9 (hm : Mem (selE Try.prog A0 w 2) A9 hp9 rw9 w9) (g : Nat) (hg : g < prs.length) => sel_inner hown hm hg
    have hleaf : ∀ (B : Asg) (w' : World) (hp9 : Nat → Option (List AVal)) (rw9 : Nat → Option Row) (hd2 : Hdr), Mem (selE Try.prog A0 w 2) B hp9 rw9 w' → (∀ b, hd2.at b → (A0.rw 0).at b) →
        RowOwn w' hd2 ⟨.sl, e, true, (keepI xs prs prs.length).map (A0.inn 0)⟩ → MPost A rg lr [(i, none)] [⟨rT, e, true, (prs : List (List Int)).filter (fun p => !notS xs p)⟩] (.row lr) w (.returned hd2.val) w' := fun B w' hp9 rw9 hd2 hm hat hro => by
      obtain ⟨q1, q2⟩ := rowsOwn_sel (idx := keepI xs prs prs.length) hown (fun g hg b hb => hm.kept.block b (outer_at hown hg hb)) hro (fun g hg b hb hb2 => (outer_at hown hg hb).2 (hat b hb2)) (List.nodup_range.filter _) (fun g hg => keepI_lt hg)
      rw [keepI_filter] at q1 q2
      have hfi : ∀ b, (A0.rw 0).at b → Feet ⟨rT, e, true, prs⟩ (A.rw i) (A.inn i) b := fun b ⟨a0, p1, p2⟩ => by rw [hrw0] at p1; exact p2 ▸ Feet.head rfl p1
      refine ⟨[⟨hd2, fun g => A0.inn 0 ((keepI xs prs prs.length).getD g 0)⟩], ?_, ⟨hm.kept.os, hm.kept.tape, hm.kept.output, hm.kept.size, fun b hb => hm.kept.block b ⟨hb.1, fun hb2 => hb.2 ⟨i, none, _, List.mem_singleton.2 rfl, hi, hfi b hb2⟩⟩, hm.kept.drawn⟩, fun g r' hg => by simp at hg, newRows_one rfl q1 (fun b hb => ?_)⟩
      · have := (setRws_in A lr [(⟨hd2, fun g => A0.inn 0 ((keepI xs prs prs.length).getD g 0)⟩ : HdrN)] 0 _ rfl).1
        rw [Nat.add_zero] at this
        simp only [AVal.den]
        rw [this]
      · rcases q2 b hb with h | ⟨g, hg, a0, p1, p2⟩
        · exact .inr ⟨i, _, List.mem_singleton.2 rfl, hi, hfi b (hat b h)⟩
        · refine .inr ⟨i, _, List.mem_singleton.2 rfl, hi, ⟨_, mem_inner hg, .inl rfl, a0, ?_, p2⟩⟩
          rw [← hin0]; exact p1
    have hpre' : ∀ g : Nat, g < prs.length → PreS xs (prs.getD g []) := fun g hg => hpre _ (getD_mem hg)
    refine enterE (E := selE Try.prog A0 w 2) (A := A0) rfl TH2_ok GDs Try.func33 rfl (vals := [.row 0, .fn 34 [] [.loc 0 0]]) hmem (fun b hb => hb.1) (Nat.le_of_ble_eq_true rfl) (Nat.le_refl _) rfl rfl (by rw [← hA0]; rfl) (Nat.le_of_ble_eq_true rfl) ?_
    conv => whnf
    refine VX_seq (VX_ops (VX_one TH2_ok GDs rfl ?_))
    conv => whnf
    refine VX_one TH2_ok GDs rfl ?_
    conv => whnf
    refine VX_callI (r := 0) (fv := .fn 34 [] [.loc 0 0]) (n := idxP (α := List Int) (notS xs) prs) rfl rfl (by simp) (enter_ok Try.func63 (by kernel_rfl) rfl) (fun A9 w9 hm => ?_) ?_
    · obtain ⟨rows9, v9, ⟨rfl, rfl⟩, hc9⟩ := dsx_ok.calls (nthj [some [.loc 1 0], some [.row 1, .row 2]]) (nthj [some ⟨rT, e, false, prs⟩, some ⟨aT, e3, false, xs⟩, none]) 0 [.row 0, .fn 34 [] [.loc 0 0]] (fun rows v => rows = [] ∧ v = .int .i64 (idxP (α := List Int) (notS xs) prs)) ⟨hpre, rfl, rfl⟩
      refine Calls.mono (hc9 ⟨A9.bx, A9.rw, fun k => if k = 0 then A0.inn 0 else A9.inn k⟩ w9 (fun i9 cs h9 => ?_) (fun i9 r9 h9 => ?_)) ?_
      · match i9, h9 with
        | 0, h9 => cases h9; exact (hm.box 0 _ rfl).1
        | 1, h9 => cases h9; exact (hm.box 1 _ rfl).1
        | i9 + 2, h9 => simp [nthj] at h9
      · match i9, h9 with
        | 0, h9 =>
          cases h9
          refine ⟨fun p hp => ?_⟩
          rw [parts_lst] at hp
          rcases List.mem_cons.1 hp with rfl | hp
          · exact ((hm.row 0 _ rfl).1.flat rfl).ro
          · obtain ⟨g, hg, rfl⟩ := List.mem_map.1 hp
            exact hsd A9 _ _ w9 hm g (List.mem_range.1 hg)
        | 1, h9 => cases h9; exact ((hm.row 1 _ rfl).1.flat rfl).rows rfl
        | 2, h9 => simp [nthj] at h9
        | i9 + 3, h9 => simp [nthj] at h9
      · rintro e9 w10 ⟨hs9, he, hB, _⟩
        exact ⟨by rw [he]; rfl, hB⟩
    conv => whnf
    refine VX_one TH2_ok GDs rfl ?_
    conv => whnf
    refine VX_end ?_
    conv => whnf
    repeat (refine V_step TH2_ok GDs rfl ?_; conv => whnf)
    have hcs := idxP_cases (notS xs) [] prs
    refine bcond_split (fun hc => ?_) (fun hc => ?_) <;> (try simp only [decide_eq_true_eq, decide_eq_false_iff_not, Bool.not_eq_true', Bool.not_eq_false', Bool.and_eq_true, Bool.or_eq_true, Bool.and_eq_false_imp, Bool.or_eq_false_iff, ne_eq, Decidable.not_not] at hc) <;> conv => whnf
    · repeat (refine V_step TH2_ok GDs rfl ?_; conv => whnf)
      have hall : ∀ x ∈ prs, notS xs x = false := by
        rcases hcs with ⟨_, h2⟩ | ⟨n, h1, _⟩
        · exact h2
        · omega
      refine ⟨fun B w' hm => ?_⟩
      have ha := hm.args 0 (Nat.lt_succ_self 0)
      have hro := ((hm.row 0 _ rfl).2 rfl).1.flat rfl
      have he : (keepI xs prs prs.length) = List.range prs.length := keepI_all xs prs fun g hg => hall _ (getD_mem hg)
      exact hleaf B w' _ _ (B.rw 0) hm (fun b hb => by rw [ha] at hb; exact hb) (by rw [he]; exact hro)
    · obtain ⟨nD, hn1, hn2, hn3, hn4⟩ : ∃ n : Nat, idxP (notS xs) prs = (n : Int) ∧ n < prs.length ∧ notS xs (prs.getD n []) = true ∧ ∀ x ∈ prs.take n, notS xs x = false := by
        rcases hcs with ⟨h1, _⟩ | h
        · exact absurd h1 hc
        · exact h
      have hk0 : keepI xs prs nD = List.range nD := keepI_all xs prs fun g hg => hn4 _ (by
        rw [List.getD_eq_getElem?_getD, List.getElem?_eq_getElem (by omega)]
        exact List.mem_take_iff_getElem.2 ⟨g, by omega, rfl⟩)
      have hk1 : keepI xs prs (nD + 1) = List.range nD := by rw [keepI_next, if_pos hn3, List.append_nil, hk0]
      have htk0 : ((List.range prs.length).map (A0.inn 0)).take nD = (List.range nD).map (A0.inn 0) := by
        rw [← List.map_take, List.take_range, Nat.min_eq_left (Nat.le_of_lt hn2)]
      rw [hn1]
      repeat (refine V_step TH2_ok GDs rfl ?_; conv => whnf)
      have hl : List.length (α := List Int) prs ≤ 1000 := hl
      refine ⟨by simp only [Rng]; omega, ?_⟩
      conv => whnf
      repeat (refine V_step TH2_ok GDs rfl ?_; conv => whnf)
      refine V_loopH (γ := (Nat × Nat) × List Hdr) (fun g => (g.1.1 < g.1.2 ∧ g.1.2 ≤ prs.length) ∧ g.2.length = prs.length ∧ g.1.1 = (keepI xs prs g.1.2).length ∧ g.2.take g.1.1 = (keepI xs prs g.1.2).map (A0.inn 0) ∧ ∀ q, g.1.2 ≤ q → q < prs.length → g.2.getD q ⟨none, 0, 0⟩ = A0.inn 0 q) (fun g => prs.length - g.1.2)
        (fun g => [(5, .int .i64 g.1.1), (6, .int .i64 g.1.2)]) (fun _ => []) (fun g => [(0, some ⟨.sl, e, true, g.2⟩)]) ((nD, nD + 1), (List.range prs.length).map (A0.inn 0)) ⟨⟨Nat.lt_succ_self _, hn2⟩, by simp, by rw [hk1, List.length_range], by rw [hk1]; exact htk0, fun q h1 h2 => by
          rw [List.getD_eq_getElem?_getD, List.getElem?_map, List.getElem?_range h2]; rfl⟩ ?_ ?_
      · conv => whnf
        refine ⟨?_, by (conv => whnf); repeat (first | exact True.intro | (refine And.intro rfl ?_; conv => whnf)), by (conv => whnf); repeat (first | exact True.intro | (refine And.intro (by first | rfl | (subst_vars; rfl)) ?_; conv => whnf)), rfl, rfl, rfl, rfl, rfl, rfl, rfl, Nat.le_of_ble_eq_true rfl, Nat.le_of_ble_eq_true rfl⟩
        conv => whnf
        repeat (first | exact True.intro | (refine And.intro (by first | rfl | ((conv => whnf); exact congrArg (AVal.int .i64) (by omega)) | ((conv => whnf); exact congrArg (AVal.int .i64) (by simp only [Int.natCast_add, Int.natCast_one]; omega)) | ((conv => whnf); exact congrArg (AVal.irow _) (by first | omega | assumption | (simp only; omega)))) ?_; conv => whnf))
      · rintro ⟨⟨iD, jD⟩, ks⟩ ⟨⟨h1, h2⟩, hlen, hiD, htk, hdr⟩
        simp only at h1 h2 hlen hiD htk hdr
        conv => whnf
        repeat (refine V_step TH2_ok GDs rfl ?_; conv => whnf)
        have hkj : (jD : Int) < (List.length (α := Hdr) ks : Int) → List.getD (α := Hdr) ks jD ⟨none, 0, 0⟩ = A0.inn 0 jD := fun h => hdr jD (Nat.le_refl _) (by omega)
        refine bcond_split (fun hc => ?_) (fun hc => ?_) <;> (try simp only [decide_eq_true_eq, decide_eq_false_iff_not, Bool.not_eq_true', Bool.not_eq_false', Bool.and_eq_true, Bool.or_eq_true, Bool.and_eq_false_imp, Bool.or_eq_false_iff, ne_eq, Decidable.not_not] at hc) <;> conv => whnf
        · have hjD : (jD : Int) < (List.length (α := Hdr) ks : Int) := hc
          have hjL : jD < prs.length := by omega
          have hkj := hkj hjD
          have hiK : iD < List.length (α := Hdr) ks := by omega
          refine V_step TH2_ok GDs rfl ?_
          conv => whnf
          repeat (refine And.intro (by first | exact True.intro | omega | (simp only [Rng]; omega)) ?_; conv => whnf)
          refine VX_seq (VX_ops (VX_one TH2_ok GDs rfl ?_))
          conv => whnf
          refine VX_one TH2_ok GDs rfl ?_
          conv => whnf
          refine VX_raw (s := 27) (h0 := List.getD (α := Hdr) ks (jD : Int).toNat ⟨none, 0, 0⟩) (c := iT) (e := 2) (xs := prs.getD jD []) rfl rfl (fun A9 w9 hm => ?_) (fun b hb => ?_) ?_
          · show RowAt w9 (List.getD (α := Hdr) ks jD ⟨none, 0, 0⟩) _
            rw [hkj]
            exact hsd A9 _ _ w9 hm jD hjL
          · have hb : (List.getD (α := Hdr) ks jD ⟨none, 0, 0⟩).at b := hb
            rw [hkj] at hb
            exact outer_at hown hjL hb
          refine VX_one TH2_ok GDs rfl ?_
          conv => whnf
          refine And.intro (hpre' jD hjL) ?_
          conv => whnf
          refine VX_one TH2_ok GDs rfl ?_
          conv => whnf
          refine VX_end ?_
          conv => whnf
          refine VX_cond rfl (fun hc => ?_) (fun hc => ?_)
          · have hp : notS xs (prs.getD jD []) = false := by simpa using hc
            refine VX_seq (VX_ops (VX_one TH2_ok GDs rfl ?_))
            conv => whnf
            refine VX_one TH2_ok GDs rfl ?_
            conv => whnf
            refine VX_one TH2_ok GDs rfl ?_
            conv => whnf
            refine VX_one TH2_ok GDs rfl ?_
            conv => whnf
            refine And.intro (show 0 ≤ (iD : Int) ∧ (iD : Int) < (List.length (α := Hdr) ks : Int) by omega) ?_
            conv => whnf
            refine VX_storeS TH2_ok (s := 33) (x := 32) (r := 0) (i := iD) (ti := tiH) (h0 := List.getD (α := Hdr) ks (jD : Int).toNat ⟨none, 0, 0⟩) rfl rfl rfl rfl rfl hiK ?_
            refine VX_end ?_
            conv => whnf
            repeat (first
              | (refine V_step TH2_ok GDs rfl ?_; conv => whnf)
              | (refine And.intro (by first | exact True.intro | omega | (simp only [Rng]; omega)) ?_; conv => whnf))
            have hkn : keepI xs prs (jD + 1) = keepI xs prs jD ++ [jD] := by rw [keepI_next, hp]; rfl
            refine ⟨((iD + 1, jD + 1), ks.set iD (List.getD (α := Hdr) ks (jD : Int).toNat ⟨none, 0, 0⟩)), ⟨⟨by simp only; omega, by simp only; omega⟩, by simp only [List.length_set]; exact hlen, by simp only; rw [hkn, List.length_append, ← hiD]; rfl, ?_, fun q hq1 hq2 => ?_⟩, by simp only; omega, ?_⟩
            · simp only
              rw [set_take' hiK, htk, hkn, List.map_append]
              congr 1
              show [List.getD (α := Hdr) ks jD ⟨none, 0, 0⟩] = _
              rw [hkj]; rfl
            · simp only at hq1 ⊢
              rw [List.getD_eq_getElem?_getD, List.getElem?_set_ne (by omega), ← List.getD_eq_getElem?_getD]
              exact hdr q (by omega) hq2
            · clear hleaf hsd hmem hown hcm hdr htk hM hpre hpre'
              conv => whnf
              refine ⟨?_, by (conv => whnf); repeat (first | exact True.intro | (refine And.intro rfl ?_; conv => whnf)), by (conv => whnf); repeat (first | exact True.intro | (refine And.intro (by first | rfl | (subst_vars; rfl)) ?_; conv => whnf)), rfl, rfl, rfl, rfl, rfl, rfl, rfl, Nat.le_of_ble_eq_true rfl, Nat.le_of_ble_eq_true rfl⟩
              conv => whnf
              repeat (first | exact True.intro | (refine And.intro (by first | rfl | ((conv => whnf); exact congrArg (AVal.int .i64) (by omega)) | ((conv => whnf); exact congrArg (AVal.int .i64) (by simp only [Int.natCast_add, Int.natCast_one]; omega)) | ((conv => whnf); exact congrArg (AVal.irow _) (by first | omega | assumption | (simp only; omega)))) ?_; conv => whnf))
          · have hp : notS xs (prs.getD jD []) = true := by simpa using hc
            repeat (first
              | (refine V_step TH2_ok GDs rfl ?_; conv => whnf)
              | (refine And.intro (by first | exact True.intro | omega | (simp only [Rng]; omega)) ?_; conv => whnf))
            have hkn : keepI xs prs (jD + 1) = keepI xs prs jD := by rw [keepI_next, if_pos hp, List.append_nil]
            refine ⟨((iD, jD + 1), ks), ⟨⟨by simp only; omega, by simp only; omega⟩, hlen, by simp only; rw [hkn]; exact hiD, by simp only; rw [hkn]; exact htk, fun q hq1 hq2 => hdr q (by simp only at hq1; omega) hq2⟩, by simp only; omega, ?_⟩
            clear hleaf hsd hmem hown hcm hdr htk hM hpre hpre'
            conv => whnf
            refine ⟨?_, by (conv => whnf); repeat (first | exact True.intro | (refine And.intro rfl ?_; conv => whnf)), by (conv => whnf); repeat (first | exact True.intro | (refine And.intro (by first | rfl | (subst_vars; rfl)) ?_; conv => whnf)), rfl, rfl, rfl, rfl, rfl, rfl, rfl, Nat.le_of_ble_eq_true rfl, Nat.le_of_ble_eq_true rfl⟩
            conv => whnf
            repeat (first | exact True.intro | (refine And.intro (by first | rfl | ((conv => whnf); exact congrArg (AVal.int .i64) (by omega)) | ((conv => whnf); exact congrArg (AVal.int .i64) (by simp only [Int.natCast_add, Int.natCast_one]; omega)) | ((conv => whnf); exact congrArg (AVal.irow _) (by first | omega | assumption | (simp only; omega)))) ?_; conv => whnf))
        · have hiK : iD ≤ List.length (α := Hdr) ks := by omega
          repeat (first
            | (refine V_step TH2_ok GDs rfl ?_; conv => whnf)
            | (refine And.intro (by first | exact True.intro | omega | (simp only [Rng]; omega)) ?_; conv => whnf))
          intro ysK hysK
          conv => whnf
          have hysK : ysK = ks.take iD ++ (List.replicate (ks.length - iD) (⟨none, 0, 0⟩ : Hdr) ++ ks.drop (iD + (ks.length - iD))) := hysK
          have hyl : List.length (α := Hdr) ysK = List.length (α := Hdr) ks := by
            rw [hysK]; simp; omega
          have hyt : List.take iD ysK = (keepI xs prs prs.length).map (A0.inn 0) := by
            have hjl : jD = prs.length := by omega
            rw [hysK, List.take_append_of_le_length (by simp; omega), List.take_take, Nat.min_self, htk, hjl]
          have hiY : iD ≤ List.length (α := Hdr) ysK := by omega
          repeat (first
            | (refine V_step TH2_ok GDs rfl ?_; conv => whnf)
            | (refine And.intro (by first | exact True.intro | omega | (simp only [Rng]; omega)) ?_; conv => whnf))
          refine ⟨fun B w' hm => ?_⟩
          have ha := hm.args 0 (Nat.lt_succ_self 0)
          have hro := own_take (n := iD) (((hm.row 0 _ rfl).2 rfl).1.flat rfl) hiY
          exact hleaf B w' _ _ ((B.rw 0).view 0 iD 1) hm (fun b hb => by have hb := view_at.1 hb; rw [ha] at hb; exact hb) (by rw [← hyt]; exact hro)
end Go.Proofs.Ytllagpbbbdekiab.Fw
