/- Rows that are chosen in place. -/
import Derived.Test.YtllagpbbbdekiabX6
namespace Go.Proofs.Ytllagpbbbdekiab.Fw
open Go Go.RowKit
set_option linter.unusedVariables false
set_option linter.unusedSimpArgs false
set_option maxRecDepth 100000
set_option maxHeartbeats 2000000
theorem tmp_eval {E : Env} {A : Asg} {fr : List AVal} {hp : List (Option (List AVal))} {rows : List (Option Row)} {a : Act} {w : World} (hs : Sat E A ⟨fr, hp, rows⟩ a w) {s : Nat} {x : AVal} (h : nth fr s = some x) (hx : x ≠ .junk) : a.eval (.tmp s) = x.den A := by
  rw [nth_eq] at h
  rcases hs.fr s _ h with h' | h'
  · exact absurd h' hx
  · exact h'
theorem VX_callI {E : Env} {all rest : List Oper} {fr : List AVal} {hp : List (Option (List AVal))} {rows : List (Option Row)} {kN : St → Prop} {d s x g r : Nat} {fv : AVal} {ty : TypeId} {argTypes : Array TypeId} {pos : String} {after : Array Edge} {n : Int}
    (h1 : nth fr s = some (.row r)) (h2 : nth fr x = some fv) (hfv : fv ≠ .junk) (he : ∀ args w, (callFunc g args).run E.P w = .ok (.enter g args) w)
    (hcall : ∀ A w, Mem E A (nthj hp) (nthj rows) w → Calls E.P g #[(A.rw r).val, fv.den A] w fun e w' => e = .returned (.int .i64 n) ∧ Blw w.heap.size w w')
    (hk : VO E all rest ⟨fr.set d (.int .i64 n), hp, rows⟩ kN) :
    VO E all (⟨some d, .call { callee := .value (.func g), args := #[.tmp s, .tmp x], argTypes := argTypes }, ty, pos, after, none⟩ :: rest) ⟨fr, hp, rows⟩ kN := ⟨fun Q hN A a w hs => by
  have es := tmp_eval hs h1 (by simp)
  have ex := tmp_eval hs h2 hfv
  unfold wpList
  rw [if_pos (by simp [Region.wanted])]
  refine .inl ?_
  unfold Oper.wp
  have hrun : (execOp a.eval ⟨some d, .call { callee := .value (.func g), args := #[.tmp s, .tmp x], argTypes := argTypes }, ty, pos, after, none⟩).run E.P w = .ok (.enter g #[(A.rw r).val, fv.den A]) w := by
    have hfv : a.eval (.func g) = .func (.func g) #[] #[] := rfl
    simp only [execOp, resolve, Deferred.ofValue, hfv, Sem.run_bind, Sem.run_pure, Result.andThen_ok, invoke, he]
    simp [es, ex, AVal.den]
  rw [hrun]
  refine Calls.mono (hcall A w hs.mem) ?_
  rintro e w' ⟨rfl, hB⟩
  refine hk.out Q hN A _ _ ?_
  have h3 : Sat E A ⟨fr, hp, rows⟩ a w' := ⟨hs.defers, hs.size, hs.fr, hs.sc, hs.hsc, hs.mem.grow hB hs.klt, fun b hb => Nat.lt_of_lt_of_le (hs.klt b hb) hB.size, hs.n0, hs.b0⟩
  have h4 := h3.putJ d (.int .i64 n)
  have h5 := h4.setFr d (.int .i64 n) (fun y hy => by
    have hlt : d < (fr.set d .junk).length := (List.getElem?_eq_some_iff.1 hy).1
    rw [List.length_set] at hlt
    have hsz : d < a.tmps.size := by rw [hs.size]; exact hlt
    refine ⟨.inr ?_, by simp [AVal.sc]⟩
    simp [Act.put, Array.getD_eq_getD_getElem?, hsz, AVal.den])
  simpa [List.set_set] using h5⟩
theorem VX_raw {E : Env} {all rest : List Oper} {fr : List AVal} {hp : List (Option (List AVal))} {rows : List (Option Row)} {kN : St → Prop} {s : Nat} {h0 : Hdr} {c : TyC} {e : TypeId} {xs : List c.α}
    (h1 : nth fr s = some (.raw h0.val)) (hc : c.isL = false) (hrow : ∀ A w, Mem E A (nthj hp) (nthj rows) w → RowAt w h0 ⟨c, e, false, xs⟩) (hK : ∀ b, h0.at b → E.K b)
    (hk : VO E all rest ⟨fr.set s (.row rows.length), hp, rows ++ [some ⟨c, e, false, xs⟩]⟩ kN) : VO E all rest ⟨fr, hp, rows⟩ kN := ⟨fun Q hN A a w hs => by
  have ev := tmp_eval hs h1 (by simp)
  have hat : ∀ b, Feet ⟨c, e, false, xs⟩ h0 (fun _ => ⟨none, 0, 0⟩) b → E.K b := fun b hb => hK b (Feet.flat hb hc).2
  have hm := hs.mem.addRow rows.length h0 (fun _ => ⟨none, 0, 0⟩) ⟨c, e, false, xs⟩ (nthj_none (Nat.le_refl _)) hs.n0 (hs.scRw _ _) ((hrow A w hs.mem).rows hc) (fun h => by cases h)
    (fun i ci b h0' hi hf e' => ((hs.mem.box i ci hi).2.2 h0') (e' ▸ hat b hf)) (fun k' r' b hk' ho hf hf' => by
      rcases ho with ho | ho
      · cases ho
      · exact ((hs.mem.row k' r' hk').2 ho).2 b hf' (hat b hf))
  have hn3 : nthj (rows ++ [some (⟨c, e, false, xs⟩ : Row)]) = upd (nthj rows) rows.length (some ⟨c, e, false, xs⟩) := by
    funext q
    rw [nthj_snoc]; rfl
  have h2 := hs.turned (B := A.setRw rows.length h0 (fun _ => ⟨none, 0, 0⟩)) (rows3 := rows ++ [some (⟨c, e, false, xs⟩ : Row)]) (w' := w) (fun _ _ => rfl) (fun q hq => ⟨upd_ne A.rw rows.length _ (by omega), upd_ne A.inn rows.length _ (by omega)⟩) (by simp) (by rw [hn3]; exact hm) (Nat.le_refl _) (.row rows.length) none (by simp [AVal.sc, lvl_eq])
  have hput : a.put none ((AVal.row rows.length).den (A.setRw rows.length h0 (fun _ => ⟨none, 0, 0⟩))) = a := rfl
  rw [hput] at h2
  have h3 := h2.setFr s (.row rows.length) (fun y hy => by
    refine ⟨.inr ?_, by simp [AVal.sc, lvl_eq]⟩
    have : a.tmps.getD s undef = h0.val := ev
    rw [this]; simp [AVal.den, Asg.setRw, upd_same])
  exact hk.out Q hN _ _ _ h3⟩
theorem VX_storeS {E : Env} {T : TypeId → Option TInfo} (hT : TOk E.P T) {all rest : List Oper} {fr : List AVal} {hp : List (Option (List AVal))} {rows : List (Option Row)} {kN : St → Prop} {s x r i : Nat} {t e ty : TypeId} {ti : TInfo} {pos : String} {after : Array Edge} {hs0 : List Hdr} {h0 : Hdr}
    (h1 : nth fr s = some (.ele r i 0 1)) (h2 : nthj rows r = some ⟨.sl, e, true, hs0⟩) (h3 : nth fr x = some (.raw h0.val)) (ht : T t = some ti) (hsz : ti.size = 1) (hi : i < hs0.length)
    (hk : VO E all rest ⟨fr, hp, rows.set r (some ⟨.sl, e, true, hs0.set i h0⟩)⟩ kN) :
    VO E all (⟨none, .store t (.tmp s) (.tmp x), ty, pos, after, none⟩ :: rest) ⟨fr, hp, rows⟩ kN := ⟨fun Q hN A a w hs => by
  have es := tmp_eval hs h1 (by simp)
  have ex := tmp_eval hs h3 (by simp)
  have hrl : r < rows.length := by
    rw [nthj_eq] at h2
    rcases Nat.lt_or_ge r rows.length with h | h
    · exact h
    · rw [List.getElem?_eq_none h] at h2; cases h2
  obtain ⟨ho, hK⟩ := (hs.mem.row r _ h2).2 rfl
  obtain ⟨g, cur', hga, hown', hrun⟩ := put_own hT ht hsz (hj := h0) (ho.flat rfl) hi
  have hfg : ∀ b, Feet ⟨.sl, e, true, hs0⟩ (A.rw r) (A.inn r) b ↔ b = g := fun b => by
    rw [feet_at rfl rfl]
    unfold Hdr.at
    rw [hga]
    constructor
    · rintro ⟨a0, h5, h6⟩; cases h5; exact h6.symm
    · rintro rfl; exact ⟨_, rfl, rfl⟩
  have hm := hs.mem.redo (w' := w.setRow g cur') (row' := ⟨.sl, e, true, hs0.set i h0⟩) h2 rfl (kept_setRow w g cur' (fun b hb e9 => hb.2 ((hfg b).2 e9))) hs.klt (hown'.rows rfl) (fun b hb => (hfg b).2 (by
    obtain ⟨a0, h5, h6⟩ := (Feet.flat hb rfl).2
    rw [hga] at h5; cases h5; exact h6.symm))
  have hn3 : nthj (rows.set r (some (⟨.sl, e, true, hs0.set i h0⟩ : Row))) = upd (nthj rows) r (some ⟨.sl, e, true, hs0.set i h0⟩) := by
    exact nthj_set _ _ _ hrl
  have hsat : Sat E A ⟨fr, hp, rows.set r (some ⟨.sl, e, true, hs0.set i h0⟩)⟩ a (w.setRow g cur') :=
    ⟨hs.defers, hs.size, hs.fr, fun t y hy => by simpa using hs.sc t y hy, fun j cs hj => by simpa using hs.hsc j cs hj, by show Mem E A (nthj hp) (nthj (rows.set r _)) _; rw [hn3]; exact hm, fun b hb => by rw [setRow_size]; exact hs.klt b hb, by simpa using hs.n0, hs.b0⟩
  unfold wpList
  rw [if_pos (by simp [Region.wanted])]
  refine .inl ?_
  unfold Oper.wp
  rw [hrun a.eval (.tmp s) (.tmp x) ty pos after none (by rw [es]; simp [AVal.den, Hdr.ptr]) (by rw [ex]; simp [AVal.den])]
  exact hk.out Q hN _ _ _ hsat⟩
def tiH : TInfo := { ti43 with ty := some .sl }
def TH2 (t : TypeId) : Option TInfo := match Nat.beq t 43 with | true => some tiH | false => T t
theorem TH2_ok : TOk Try.prog TH2 := fun t i h => by
  unfold TH2 at h
  split at h
  · rename_i hb
    obtain rfl := Nat.eq_of_beq_eq_true hb
    obtain rfl := Option.some.inj h
    have h0 := ti43_ok
    exact ⟨h0.und, h0.info, h0.agg, h0.flat, h0.zlen, fun c hc => by cases hc; exact ⟨rfl, rfl, rfl⟩, h0.eqOk⟩
  · exact T_ok t i h
end Go.Proofs.Ytllagpbbbdekiab.Fw
namespace Go.Proofs.Ytllagpbbbdekiab.Fw
open Go Go.RowKit
set_option linter.unusedVariables false
set_option linter.unusedSimpArgs false
set_option maxRecDepth 100000
set_option maxHeartbeats 2000000
theorem rowsOwn_sel {w w2 : World} {hd1 hd2 : Hdr} {ih : Nat → Hdr} {c : TyC} {e' e : TypeId} {yss : List (List c.α)} {idx : List Nat} (h1 : RowsOwn w hd1 ih ⟨.lst c e', e, true, yss⟩)
    (hkeep : ∀ k, k < yss.length → ∀ b, (ih k).at b → w2.heap[b]? = w.heap[b]?) (hrow : RowOwn w2 hd2 ⟨.sl, e, true, idx.map ih⟩) (hdis : ∀ k, k < yss.length → ∀ b, (ih k).at b → ¬ hd2.at b) (hnd : idx.Nodup) (hlt : ∀ i ∈ idx, i < yss.length) :
    RowsOwn w2 hd2 (fun i => ih (idx.getD i 0)) ⟨.lst c e', e, true, idx.map fun i => yss.getD i []⟩ ∧ ∀ b, Feet ⟨.lst c e', e, true, idx.map fun i => yss.getD i []⟩ hd2 (fun i => ih (idx.getD i 0)) b → hd2.at b ∨ ∃ k, k < yss.length ∧ (ih k).at b := by
  have hpt : (⟨.lst c e', e, true, idx.map fun i => yss.getD i []⟩ : Row).parts hd2 (fun i => ih (idx.getD i 0)) = (hd2, ⟨.sl, e, true, idx.map ih⟩) :: (List.range idx.length).map fun i => (ih (idx.getD i 0), ⟨c, e', true, yss.getD (idx.getD i 0) []⟩) := by
    rw [parts_lst]
    have e1 : (idx.map fun i => yss.getD i []).length = idx.length := List.length_map ..
    rw [e1]
    congr 1
    · refine congrArg (fun z : List Hdr => ((hd2, (⟨.sl, e, true, z⟩ : Row)) : Hdr × Row)) ?_
      refine List.ext_getElem (by simp) fun i h1 h2 => ?_
      have hi : i < idx.length := by simpa using h1
      simp [List.getD_eq_getElem?_getD, List.getElem?_eq_getElem hi]
    · refine List.map_congr_left fun i hi => ?_
      have hi := List.mem_range.1 hi
      refine congrArg (fun z : List c.α => ((ih (idx.getD i 0), (⟨c, e', true, z⟩ : Row)) : Hdr × Row)) ?_
      rw [List.getD_eq_getElem?_getD, List.getElem?_map, List.getElem?_eq_getElem hi, List.getD_eq_getElem?_getD (l := idx), List.getElem?_eq_getElem hi]; rfl
  have hmi : ∀ i, i < idx.length → idx.getD i 0 < yss.length := fun i hi => hlt _ (by rw [List.getD_eq_getElem?_getD, List.getElem?_eq_getElem hi]; exact List.getElem_mem hi)
  have hin2 : ∀ j, j < yss.length → RowOwn w2 (ih j) ⟨c, e', true, yss.getD j []⟩ := fun j hj => (h1.inner hj).keep fun a0 h0 => hkeep j hj _ ⟨a0, h0, rfl⟩
  have hdj : ∀ i j, i < yss.length → j < yss.length → i ≠ j → ∀ b, (ih i).at b → ¬ (ih j).at b := fun i j hi hj hij b ⟨a0, q1, q2⟩ ⟨a1, h3, h4⟩ => by
    have hp : ∀ k, k < yss.length → ((⟨.lst c e', e, true, yss⟩ : Row).parts hd1 ih)[k + 1]? = some (ih k, ⟨c, e', true, yss.getD k []⟩) := fun k hk => by
      rw [parts_lst, List.getElem?_cons_succ, List.getElem?_map, List.getElem?_range hk]; rfl
    exact h1.dis (i + 1) (j + 1) _ _ (hp i hi) (hp j hj) (by omega) a0 a1 q1 h3 (q2.trans h4.symm)
  refine ⟨⟨fun p hp => ?_, fun i j p q hi hj hij x y hx hy => ?_⟩, ?_⟩
  · rw [hpt] at hp
    rcases List.mem_cons.1 hp with rfl | hp
    · exact hrow
    · obtain ⟨i, hi, rfl⟩ := List.mem_map.1 hp
      exact hin2 _ (hmi i (List.mem_range.1 hi))
  · rw [hpt] at hi hj
    have inn : ∀ (k : Nat) (p : Hdr × Row), ((List.range idx.length).map fun i => (ih (idx.getD i 0), (⟨c, e', true, yss.getD (idx.getD i 0) []⟩ : Row)))[k]? = some p → k < idx.length ∧ p.1 = ih (idx.getD k 0) := fun k p hk => by
      have hl := (List.getElem?_eq_some_iff.1 hk).1
      have hl : k < idx.length := by simpa using hl
      rw [List.getElem?_map, List.getElem?_range hl] at hk
      obtain rfl := Option.some.inj hk
      exact ⟨hl, rfl⟩
    match i, j, hi, hj with
    | 0, 0, _, _ => exact absurd rfl hij
    | 0, j + 1, hi, hj =>
      cases hi
      obtain ⟨g1, g2⟩ := inn j q hj
      rw [g2] at hy
      intro hb
      exact hdis _ (hmi j g1) y.block ⟨y, hy, rfl⟩ ⟨x, hx, hb⟩
    | i + 1, 0, hi, hj =>
      cases hj
      obtain ⟨g1, g2⟩ := inn i p hi
      rw [g2] at hx
      intro hb
      exact hdis _ (hmi i g1) x.block ⟨x, hx, rfl⟩ ⟨y, hy, hb.symm⟩
    | i + 1, j + 1, hi, hj =>
      obtain ⟨g1, g2⟩ := inn i p hi
      obtain ⟨g3, g4⟩ := inn j q hj
      rw [g2] at hx
      rw [g4] at hy
      intro hb
      refine hdj _ _ (hmi i g1) (hmi j g3) (fun e9 => hij ?_) x.block ⟨x, hx, rfl⟩ ⟨y, hy, hb.symm⟩
      rw [List.getD_eq_getElem?_getD, List.getElem?_eq_getElem g1, List.getD_eq_getElem?_getD, List.getElem?_eq_getElem g3] at e9
      have := (List.getElem_inj (hnd)).1 e9
      omega
  · rintro b ⟨p, hp, _, a0, q1, q2⟩
    rw [hpt] at hp
    rcases List.mem_cons.1 hp with rfl | hp
    · exact .inl ⟨a0, q1, q2⟩
    · obtain ⟨i, hi, rfl⟩ := List.mem_map.1 hp
      exact .inr ⟨_, hmi i (List.mem_range.1 hi), a0, q1, q2⟩
def selE (P : Program) (A : Asg) (w : World) (b0 : Nat) : Env := ⟨P, w, fun b => b < w.heap.size ∧ ¬ (A.rw 0).at b, A.rw, 1, b0, A.bx, fun _ => false⟩
theorem sel_ow {P : Program} {A : Asg} {w : World} {hp : List (Option (List AVal))} {i : Nat} {cs : List AVal} (h : (selE P A w hp.length).ow i) (hi : nthj hp i = some cs) : False := by
  have h0 := Env.ow_b0 h rfl
  have h0 : hp.length ≤ i := h0
  rw [nthj_none h0] at hi; cases hi
section
variable {P : Program} {A : Asg} {w : World} {hp : List (Option (List AVal))} {c c2 : TyC} {e' e eA : TypeId} {xs : List c2.α} {yss : List (List c.α)}
theorem outer_at (h1 : RowsOwn w (A.rw 0) (A.inn 0) ⟨.lst c e', e, true, yss⟩) {k : Nat} (hk : k < yss.length) {b : Nat} (hb : (A.inn 0 k).at b) : b < w.heap.size ∧ ¬ (A.rw 0).at b := by
  obtain ⟨a0, q1, q2⟩ := hb
  refine ⟨RowsOwn.foot_lt h1 ⟨_, mem_inner hk, .inl rfl, a0, q1, q2⟩, ?_⟩
  rintro ⟨a1, q3, q4⟩
  have hp : ((⟨.lst c e', e, true, yss⟩ : Row).parts (A.rw 0) (A.inn 0))[k + 1]? = some (A.inn 0 k, ⟨c, e', true, yss.getD k []⟩) := by
    rw [parts_lst, List.getElem?_cons_succ, List.getElem?_map, List.getElem?_range hk]; rfl
  have hp0 : ((⟨.lst c e', e, true, yss⟩ : Row).parts (A.rw 0) (A.inn 0))[0]? = some (A.rw 0, ⟨.sl, e, true, (List.range yss.length).map (A.inn 0)⟩) := rfl
  exact h1.dis 0 (k + 1) _ _ hp0 hp (by omega) a1 a0 q3 q1 (q4.trans q2.symm)
theorem sel_mem (hc2 : c2.isL = false) (hcm : CMem A (nthj hp) (nthj [some ⟨.lst c e', e, true, yss⟩, some ⟨c2, eA, false, xs⟩, none]) w) :
    Mem (selE P A w hp.length) A (nthj hp) (nthj [some ⟨.sl, e, true, (List.range yss.length).map (A.inn 0)⟩, some ⟨c2, eA, false, xs⟩, none]) w := by
  obtain ⟨r0a, r0o⟩ := hcm.row 0 _ rfl
  have ho := r0o rfl
  have hfe : ∀ b, (A.rw 0).at b → Feet ⟨.lst c e', e, true, yss⟩ (A.rw 0) (A.inn 0) b := fun b ⟨a0, q1, q2⟩ => q2 ▸ Feet.head rfl q1
  refine ⟨Kept.refl _ _, fun i cs hi => ?_, fun k r hk => ?_, fun i j ci cj h0 hi hj hij => (sel_ow h0 hi).elim, fun i ci k r b h0 hi hk hf => (sel_ow h0 hi).elim, fun k k' r r' b hk hk' hkk hown hf hf' => ?_, fun k hk => rfl⟩
  · refine ⟨hcm.box i cs hi, fun _ => ⟨rfl, fun _ => ⟨by obtain ⟨t, ht⟩ := hcm.box i cs hi; exact lt_of_heap ht, fun hb => hcm.br i cs 0 _ _ hi rfl rfl (hfe _ hb) rfl⟩⟩, fun how => (sel_ow how hi).elim⟩
  · match k, hk with
    | 0, hk =>
      cases hk
      refine ⟨(ho.outer.at).rows rfl, fun _ => ⟨ho.outer.rows rfl, fun b hb hK => hK.2 ((feet_at rfl rfl).1 hb)⟩⟩
    | 1, hk => cases hk; exact ⟨(hcm.row 1 _ rfl).1, fun h => by cases h⟩
    | 2, hk => simp [nthj] at hk
    | k + 3, hk => simp [nthj] at hk
  · have h2 : k = 0 := by
      match k, hk with
      | 0, hk => rfl
      | 1, hk => cases hk; cases hown
      | 2, hk => simp [nthj] at hk
      | k + 3, hk => simp [nthj] at hk
    subst h2
    cases hk
    have g2 := hfe b ((feet_at rfl rfl).1 hf)
    match k', hk' with
    | 0, hk' => exact hkk rfl
    | 1, hk' => cases hk'; exact hcm.rr 0 1 _ _ b rfl rfl (by decide) rfl g2 hf'
    | 2, hk' => simp [nthj] at hk'
    | k + 3, hk' => simp [nthj] at hk'
theorem sel_inner (h1 : RowsOwn w (A.rw 0) (A.inn 0) ⟨.lst c e', e, true, yss⟩) {b0 : Nat} {A9 : Asg} {hp9 : Nat → Option (List AVal)} {rw9 : Nat → Option Row} {w9 : World} (hm : Mem (selE P A w b0) A9 hp9 rw9 w9) {k : Nat} (hk : k < yss.length) :
    RowAt w9 (A.inn 0 k) ⟨c, e', false, yss.getD k []⟩ := by
  have h2 := (h1.inner hk).keep (w' := w9) fun a0 h0 => hm.kept.block _ (outer_at h1 hk ⟨a0, h0, rfl⟩)
  exact h2.at.ro
end
end Go.Proofs.Ytllagpbbbdekiab.Fw
