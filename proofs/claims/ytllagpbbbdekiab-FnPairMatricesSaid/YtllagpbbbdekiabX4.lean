/- Rows chosen out of a row of rows: where such a part of a walk begins and ends. -/
import Derived.Test.YtllagpbbbdekiabX2
namespace Go.Proofs.Ytllagpbbbdekiab.Fw
open Go Go.RowKit
set_option linter.unusedVariables false
set_option linter.unusedSimpArgs false
set_option maxRecDepth 100000
set_option maxHeartbeats 2000000
theorem V_seg {E : Env} {c : Code} {kN : St → Prop} {kE : Nat → St → Prop} {kR : St → Prop} {σ : St}
    (h : ∀ A a w, Sat E A σ a w → ∃ (E' : Env) (A' : Asg) (σ' : St) (kN' : St → Prop) (kE' : Nat → St → Prop), E'.P = E.P ∧ Sat E' A' σ' a w ∧ V E' c kN' kE' (fun _ => False) σ' ∧
      (∀ σ2 A2 a2 w2, kN' σ2 → Sat E' A2 σ2 a2 w2 → ∃ σ3 A3, kN σ3 ∧ Sat E A3 σ3 a2 w2) ∧ (∀ i σ2 A2 a2 w2, kE' i σ2 → Sat E' A2 σ2 a2 w2 → ∃ σ3 A3, kE i σ3 ∧ Sat E A3 σ3 a2 w2)) : V E c kN kE kR σ :=
  ⟨fun Q h1 h2 h3 A a w hs => by
    obtain ⟨E', A', σ', kN', kE', hP, hs', hv, hn, he⟩ := h A a w hs
    have := hv.out Q (fun σ2 hk A2 a2 w2 hs2 => by
      obtain ⟨σ3, A3, hk3, hs3⟩ := hn σ2 A2 a2 w2 hk hs2
      exact h1 σ3 hk3 A3 a2 w2 hs3) (fun i σ2 hk A2 a2 w2 hs2 => by
      obtain ⟨σ3, A3, hk3, hs3⟩ := he i σ2 A2 a2 w2 hk hs2
      exact h2 i σ3 hk3 A3 a2 w2 hs3) (fun _ h => h.elim) A' a w hs'
    rw [hP] at this
    exact this⟩
theorem inn_pin {E : Env} {A2 : Asg} {hp : Nat → Option (List AVal)} {rw_ : Nat → Option Row} {w : World} {q : Nat} {ih0 : Nat → Hdr} {c : TyC} {e' e : TypeId} {own own2 : Bool} {yss : List (List c.α)}
    (h0 : RowsAt E.w0 (E.r0 q) ih0 ⟨.lst c e', e, own, yss⟩) (hK : ∀ a, (E.r0 q).a = some a → E.K a.block) (hq : q < E.n0) (hm : Mem E A2 hp rw_ w) (hr : rw_ q = some ⟨.lst c e', e, own2, yss⟩) {k : Nat} (hk : k < yss.length) : A2.inn q k = ih0 k := by
  obtain ⟨a, ha, hc⟩ := h0.hdr hk
  obtain ⟨a2, ha2, hc2⟩ := (hm.row q _ hr).1.hdr hk
  rw [hm.args q hq, ha] at ha2
  obtain rfl := Option.some.inj ha2
  have hb := hm.kept.block _ (hK a ha)
  rw [World.cell?_of_block (w := E.w0) (by rw [add_block]; exact hb)] at hc2
  rw [hc] at hc2
  have hv := Option.some.inj hc2
  simp only [Hdr.val, Value.slice.injEq] at hv
  obtain ⟨e1, e2, e3⟩ := hv
  cases h1 : ih0 k
  cases h2 : A2.inn q k
  rw [h1, h2] at e1 e2 e3
  simp only at e1 e2 e3
  rw [e1, e2, e3]
theorem VX_one {E : Env} {T : TypeId → Option TInfo} {G : List (FuncId × Ctr)} (hT : TOk E.P T) (hG : GOk E.P G) {all rest : List Oper} {o : Oper} {fr : List AVal} {hp : List (Option (List AVal))} {rows : List (Option Row)} {kN : St → Prop}
    (hg : o.guard = none) (h : vcOne E T G all rest o fr hp rows kN fun σ' => VO E all rest σ' kN) : VO E all (o :: rest) ⟨fr, hp, rows⟩ kN :=
  ⟨fun Q hN A a w hs => vcOne_sound hT hG h hN (fun σ' h' A a w hs' => h'.out Q hN A a w hs') hs (by simp [Region.wanted, hg])⟩
theorem VX_end {E : Env} {all : List Oper} {σ : St} {kN : St → Prop} (h : kN σ) : VO E all [] σ kN := ⟨fun Q hN A a w hs => hN σ h A a w hs⟩
theorem VX_ops {E : Env} {id : Nat} {ops : Array Oper} {kN : St → Prop} {kE : Nat → St → Prop} {kR : St → Prop} {σ : St} (h : VO E ops.toList ops.toList σ kN) : V E (.region id ops false) kN kE kR σ :=
  ⟨fun Q h1 h2 h3 A a w hs => wp_region_list (by
    have := h.out Q h1 A a w hs
    simpa using this)⟩
theorem VX_seq {E : Env} {x y : Code} {kN : St → Prop} {kE : Nat → St → Prop} {kR : St → Prop} {σ : St} (h : V E x (fun σ' => V E y kN kE kR σ') kE kR σ) : V E (.seq x y) kN kE kR σ :=
  ⟨fun Q h1 h2 h3 A a w hs => by
    refine wp_seq (h.out _ ?_ ?_ ?_ A a w hs)
    · intro σ' h' A a w hs'
      exact h'.out Q h1 h2 h3 A a w hs'
    · intro i σ' h' A a w hs'; exact h2 i σ' h' A a w hs'
    · intro σ' h' A a w hs'; exact h3 σ' h' A a w hs'⟩
theorem VX_cond {E : Env} {t : Nat} {x y : Code} {kN : St → Prop} {kE : Nat → St → Prop} {kR : St → Prop} {fr : List AVal} {hp : List (Option (List AVal))} {rows : List (Option Row)} {b : Bool} (hb : nth fr t = some (.bool b))
    (h1 : b = true → V E x kN kE kR ⟨fr, hp, rows⟩) (h2 : b = false → V E y kN kE kR ⟨fr, hp, rows⟩) : V E (.cond (.tmp t) x y) kN kE kR ⟨fr, hp, rows⟩ := ⟨fun Q q1 q2 q3 A a w hs => by
  rw [nth_eq] at hb
  have hyb : a.tmps.getD t undef = .bool b := by
    rcases hs.fr t _ hb with h' | h'
    · cases h'
    · simpa [AVal.den] using h'
  cases b with
  | false => exact wp_cond_false (by simp only [Act.eval]; exact hyb) ((h2 rfl).out Q q1 q2 q3 A a w hs)
  | true => exact wp_cond_true (by simp only [Act.eval]; exact hyb) ((h1 rfl).out Q q1 q2 q3 A a w hs)⟩
theorem VO_appS {E : Env} {T : TypeId → Option TInfo} (hT : TOk E.P T) {all rest : List Oper} {fr : List AVal} {hp : List (Option (List AVal))} {rows : List (Option Row)} {kN : St → Prop} {d s x r b : Nat} {t e ty : TypeId} {ti ei : TInfo} {pos : String} {after : Array Edge} {hs0 : List Hdr} {v : AVal} {h0 : Hdr}
    (h1 : nth fr s = some (.row r)) (h2 : nthj rows r = some ⟨.sl, e, true, hs0⟩) (hn : E.n0 ≤ r) (h3 : nth fr x = some (.bsl b 1)) (h4 : nthj hp b = some [v]) (hmo : mapOf [v] = none) (hv : ∀ A w, Mem E A (nthj hp) (nthj rows) w → v.den A = h0.val)
    (ht : T t = some ti) (hd : ti.desc = .slice e) (he : T e = some ei) (hsz : ei.size = 1) (h63 : (hs0.length : Int) + 1 ≤ 9223372036854775807) (hby : ((hs0.length : Int) + 1) * ei.bytes ≤ 140737488355328)
    (hk : VO E all rest ⟨fr.set d (.row rows.length), hp, rows.set r none ++ [some ⟨.sl, e, true, hs0 ++ [h0]⟩]⟩ kN) :
    VO E all (⟨some d, .call { callee := .builtin .append, args := #[.tmp s, .tmp x], argTypes := #[t, t] }, ty, pos, after, none⟩ :: rest) ⟨fr, hp, rows⟩ kN := ⟨fun Q hN A a w hs => by
  rw [nth_eq] at h1 h3
  have ea' : a.tmps.getD s undef = (A.rw r).val := by
    rcases hs.fr s _ h1 with h' | h'
    · cases h'
    · simpa [AVal.den] using h'
  have ea : a.eval (.tmp s) = (A.rw r).val := ea'
  have ex' : a.tmps.getD x undef = (⟨some ⟨A.bx b, 0, none⟩, 1, 1⟩ : Hdr).val := by
    rcases hs.fr x _ h3 with h' | h'
    · cases h'
    · simpa [AVal.den, Hdr.val] using h'
  have ex : a.eval (.tmp x) = (⟨some ⟨A.bx b, 0, none⟩, 1, 1⟩ : Hdr).val := ex'
  have hrl : r < rows.length := by
    rw [nthj_eq] at h2
    rcases Nat.lt_or_ge r rows.length with h | h
    · exact h
    · rw [List.getElem?_eq_none h] at h2; cases h2
  obtain ⟨ho, hK⟩ := (hs.mem.row r _ h2).2 rfl
  have hra : RowAt w ⟨some ⟨A.bx b, 0, none⟩, 1, 1⟩ ⟨.sl, e, false, [h0]⟩ := by
    obtain ⟨t', hbx⟩ := (hs.mem.box b _ h4).1.cells hmo
    refine ⟨rfl, Nat.le_refl _, by show 1 ≤ maxLen; decide, fun i y hi => ⟨_, rfl, fun j cv hj => ?_⟩⟩
    have hi : [h0][i]? = some y := hi
    cases i with
    | succ i => simp at hi
    | zero =>
      simp at hi; subst hi
      cases j with
      | succ j => simp [TyC.enc] at hj
      | zero =>
        simp [TyC.enc] at hj; subst hj
        have hadd : (⟨A.bx b, 0, none⟩ : Addr).add (0 * TyC.sl.sz + 0) = ⟨A.bx b, 0, none⟩ := by
          simp only [TyC.sz, Nat.mul_one, Nat.add_zero]
          unfold Addr.add; split <;> simp_all
        rw [hadd]
        have hq := hv A w hs.mem
        simp [World.cell?, hbx, AVal.den, dens, hq]
  obtain ⟨h', w', hrun, hown', hkept, hat⟩ := append_row hT (ty := ty) (c := .sl) ht hd he hsz (ho.flat rfl) hra h63 hby
  have hat1 : ∀ b, (A.rw r).at b → Feet ⟨.sl, e, true, hs0⟩ (A.rw r) (A.inn r) b := fun b ⟨a0, ha0, hb0⟩ => Foot.feet ⟨.inl rfl, a0, ha0, hb0⟩ rfl
  have hsub : ∀ k q, nthj (rows.set r none) k = some q → nthj rows k = some q := fun k q hkq => by
    rw [nthj_setNone] at hkq
    split at hkq
    · cases hkq
    · exact hkq
  have hft : ∀ b, Feet ⟨.sl, e, true, hs0⟩ (A.rw r) (A.inn r) b → ∃ k q, nthj rows k = some q ∧ q.own = true ∧ nthj (rows.set r none) k = none ∧ Feet q (A.rw k) (A.inn k) b := fun b hb => ⟨r, _, h2, rfl, by rw [nthj_setNone, if_pos rfl], hb⟩
  have hl1 : (rows.set r none).length = rows.length := List.length_set ..
  have hm := hs.mem.remake (rw2 := nthj (rows.set r none)) (tch := (A.rw r).at) hsub (fun b hb => hft b (hat1 b hb)) hkept hs.klt rows.length h' (fun _ => ⟨none, 0, 0⟩) ⟨.sl, e, true, hs0 ++ [h0]⟩ (nthj_none (by rw [hl1]; exact Nat.le_refl _)) hs.n0
    (hs.scRw _ _) (hown'.rows rfl) (fun b hb => by
      obtain ⟨_, h5⟩ := Feet.flat hb rfl
      rcases hat b h5 with h6 | h6
      · exact .inr (hft b (hat1 b h6))
      · exact .inl h6)
  have hn3 : nthj (rows.set r none ++ [some (⟨.sl, e, true, hs0 ++ [h0]⟩ : Row)]) = upd (nthj (rows.set r none)) rows.length (some ⟨.sl, e, true, hs0 ++ [h0]⟩) := by
    funext q
    rw [nthj_snoc, hl1]; rfl
  have hden : (AVal.row rows.length).den (A.setRw rows.length h' (fun _ => ⟨none, 0, 0⟩)) = h'.val := by simp [AVal.den, Asg.setRw, upd_same]
  have hsat := hs.turned (B := A.setRw rows.length h' (fun _ => ⟨none, 0, 0⟩)) (rows3 := rows.set r none ++ [some (⟨.sl, e, true, hs0 ++ [h0]⟩ : Row)]) (w' := w') (fun _ _ => rfl) (fun q hq => ⟨upd_ne A.rw rows.length _ (by omega), upd_ne A.inn rows.length _ (by omega)⟩) (by simp [hl1]) (by rw [hn3]; exact hm) hkept.size (.row rows.length) (some d) (by simp [AVal.sc, lvl_eq, hl1])
  rw [hden] at hsat
  unfold wpList
  rw [if_pos (by simp [Region.wanted])]
  refine .inl ?_
  unfold Oper.wp
  have hx : (execOp a.eval ⟨some d, .call { callee := .builtin .append, args := #[.tmp s, .tmp x], argTypes := #[t, t] }, ty, pos, after, none⟩).run E.P w = .ok (.value h'.val) w' := by
    simp only [execOp, resolve, Sem.run_bind, Sem.run_pure, Result.andThen_ok, invoke, builtin]
    simp only [List.map_toArray, List.map_cons, List.map_nil, ea, ex, hrun, Result.andThen_ok]
  rw [hx]
  exact hk.out Q hN _ _ _ hsat⟩
end Go.Proofs.Ytllagpbbbdekiab.Fw
namespace Go.Proofs.Ytllagpbbbdekiab.Fw
open Go Go.RowKit
set_option linter.unusedVariables false
set_option linter.unusedSimpArgs false
set_option maxRecDepth 100000
set_option maxHeartbeats 2000000
def segE (E : Env) (A : Asg) (w : World) : Env := ⟨E.P, w, fun b => b < w.heap.size ∧ ¬ (A.rw 2).at b, A.rw, 2, 1, A.bx, fun _ => false⟩
variable {E : Env} {A : Asg} {a : Act} {w : World}
theorem seg_ow0 : ¬ (segE E A w).ow 0 := fun h => by
  have h : false = true := h
  cases h
theorem feet_at {r : Row} {h : Hdr} {ih : Nat → Hdr} (hc : r.c.isL = false) (ho : r.own = true) {b : Nat} : Feet r h ih b ↔ h.at b := by
  constructor
  · intro hf
    exact (Feet.flat hf hc).2
  · rintro ⟨a0, h1, h2⟩
    exact Foot.feet ⟨.inl ho, a0, h1, h2⟩ hc
structure SegIn (E : Env) (A : Asg) (w : World) (c : TyC) (e' e eA : TypeId) (xs : List Ang) (yss : List (List c.α)) : Prop where
  a0 : RowsAt w (A.rw 0) (A.inn 0) ⟨aT, eA, true, xs⟩
  a1 : RowsOwn w (A.rw 1) (A.inn 1) ⟨.lst c e', e, true, yss⟩
  k1 : ∀ b, Feet ⟨.lst c e', e, true, yss⟩ (A.rw 1) (A.inn 1) b → ¬ E.K b ∧ b < w.heap.size ∧ ¬ (A.rw 2).at b
  k2 : ∀ b, (A.rw 2).at b → ¬ E.K b
  kept : Kept E.K E.w0 w
  klt : ∀ b, E.K b → b < w.heap.size
theorem seg_in {fr : List AVal} {bc : List AVal} {c : TyC} {e' e eA : TypeId} {xs : List Ang} {yss : List (List c.α)} (hE : E.b0 = 0)
    (hs : Sat E A ⟨fr, [some bc], [some ⟨aT, eA, true, xs⟩, some ⟨.lst c e', e, true, yss⟩, some ⟨.lst c e', e, true, []⟩]⟩ a w) :
    Sat (segE E A w) A ⟨fr, [some bc], [some ⟨aT, eA, false, xs⟩, some ⟨.lst c e', e, false, yss⟩, some ⟨.sl, e, true, []⟩]⟩ a w ∧ SegIn E A w c e' e eA xs yss := by
  obtain ⟨r0a, r0o⟩ := hs.mem.row 0 _ rfl
  obtain ⟨r1a, r1o⟩ := hs.mem.row 1 _ rfl
  obtain ⟨r2a, r2o⟩ := hs.mem.row 2 _ rfl
  have f2 : ∀ b, Feet ⟨.lst c e', e, true, []⟩ (A.rw 2) (A.inn 2) b ↔ (A.rw 2).at b := fun b =>
    feet_at (r := ⟨.sl, e, true, []⟩) (h := A.rw 2) (ih := A.inn 2) rfl rfl
  have hat : ∀ b, (A.rw 2).at b → ¬ E.K b := fun b hb => (r2o rfl).2 b ((f2 b).2 hb)
  have s1 : SegIn E A w c e' e eA xs yss := ⟨r0a, (r1o rfl).1, fun b hb => ⟨(r1o rfl).2 b hb, hs.mem.foot_lt (k := 1) rfl hb, fun h => hs.mem.rr 1 2 _ _ b rfl rfl (by decide) rfl hb ((f2 b).2 h)⟩, hat, hs.mem.kept, hs.klt⟩
  refine ⟨⟨hs.defers, hs.size, hs.fr, hs.sc, hs.hsc, ?_, fun b hb => hb.1, Nat.le_of_ble_eq_true rfl, Nat.le_refl _⟩, s1⟩
  refine ⟨Kept.refl _ _, fun i cs hi => ?_, fun k r hk => ?_, fun i j ci cj h0 hi hj hij => ?_, fun i ci k r b h0 hi hk hf => ?_, fun k k' r r' b hk hk' hkk ho hf hf' => ?_, fun k hk => rfl⟩
  · match i, hi with
    | 0, hi =>
      have hi' : nthj [some bc] 0 = some cs := hi
      refine ⟨(hs.mem.box 0 cs hi').1, fun _ => ⟨rfl, fun _ => ⟨hs.mem.box_lt hi', fun hb => ?_⟩⟩, fun how => ?_⟩
      · exact hs.mem.br 0 cs 2 _ _ (Env.ow_of (by rw [hE]; exact Nat.le_refl _)) hi' rfl ((f2 _).2 hb) rfl
      · exact absurd how seg_ow0
    | i + 1, hi => simp [nthj] at hi
  · match k, hk with
    | 0, hk => cases hk; exact ⟨r0a.ro, fun h => by cases h⟩
    | 1, hk => cases hk; exact ⟨r1a.ro, fun h => by cases h⟩
    | 2, hk =>
      cases hk
      exact ⟨⟨r2a.all⟩, fun _ => ⟨⟨(r2o rfl).1.all, (r2o rfl).1.dis⟩, fun b hb hK => hK.2 ((f2 b).1 hb)⟩⟩
    | k + 3, hk => simp [nthj] at hk
  · match i, hi with
    | 0, hi => exact absurd h0 seg_ow0
    | i + 1, hi => simp [nthj] at hi
  · match i, hi with
    | 0, hi => exact absurd h0 seg_ow0
    | i + 1, hi => simp [nthj] at hi
  · have h2 : k = 2 := by
      match k, hk with
      | 0, hk => cases hk; cases ho
      | 1, hk => cases hk; cases ho
      | 2, hk => rfl
      | k + 3, hk => simp [nthj] at hk
    subst h2
    cases hk
    have g2 := (f2 b).2 ((f2 b).1 hf)
    match k', hk' with
    | 0, hk' => cases hk'; exact hs.mem.rr 2 0 _ _ b rfl rfl (by decide) rfl g2 (Feet.ro (r := ⟨aT, eA, true, xs⟩) hf')
    | 1, hk' => cases hk'; exact hs.mem.rr 2 1 _ _ b rfl rfl (by decide) rfl g2 (Feet.ro (r := ⟨.lst c e', e, true, yss⟩) hf')
    | 2, hk' => exact hkk rfl
    | k + 3, hk' => simp [nthj] at hk'
theorem seg_out {c : TyC} {e' e eA : TypeId} {xs : List Ang} {yss : List (List c.α)} (hc : c.isL = false) (hE : E.b0 = 0) (hE2 : E.n0 = 0) (s1 : SegIn E A w c e' e eA xs yss)
    {fr2 : List AVal} {hp2 : List (Option (List AVal))} {rows2 : List (Option Row)} {A2 : Asg} {a2 : Act} {w2 : World} (hs : Sat (segE E A w) A2 ⟨fr2, hp2, rows2⟩ a2 w2)
    {L s r : Nat} (hL : fr2.length = L) (hf : fr2[s]? = some (.row r)) {idx : List Nat} (hr : nthj rows2 r = some ⟨.sl, e, true, idx.map (A.inn 1)⟩) (hnd : idx.Nodup) (hlt : ∀ i ∈ idx, i < yss.length) :
    ∃ A3, Sat E A3 ⟨(List.replicate L .junk).set s (.row 0), [], [some ⟨.lst c e', e, true, idx.map fun i => yss.getD i []⟩]⟩ a2 w2 := by
  obtain ⟨ra, ro⟩ := hs.mem.row r _ hr
  obtain ⟨ro, rk⟩ := ro rfl
  have hrow : RowOwn w2 (A2.rw r) ⟨.sl, e, true, idx.map (A.inn 1)⟩ := ro.flat rfl
  have hfa : ∀ b, (A2.rw r).at b → ¬ (b < w.heap.size ∧ ¬ (A.rw 2).at b) := fun b hb => rk b ((feet_at rfl rfl).2 hb)
  have hfk : ∀ b, (A2.rw r).at b → ¬ E.K b := fun b hb hK => hfa b hb ⟨s1.klt b hK, fun h => s1.k2 b h hK⟩
  have hk2 : Kept (fun b => b < w.heap.size ∧ ¬ (A.rw 2).at b) w w2 := hs.mem.kept
  obtain ⟨ih, hih⟩ : ∃ ih : Nat → Hdr, ih = fun i => A.inn 1 (idx.getD i 0) := ⟨_, rfl⟩
  have hpt : (⟨.lst c e', e, true, idx.map fun i => yss.getD i []⟩ : Row).parts (A2.rw r) ih = (A2.rw r, ⟨.sl, e, true, idx.map (A.inn 1)⟩) :: (List.range idx.length).map fun i => (A.inn 1 (idx.getD i 0), ⟨c, e', true, yss.getD (idx.getD i 0) []⟩) := by
    rw [parts_lst, hih]
    have e1 : (idx.map fun i => yss.getD i []).length = idx.length := List.length_map ..
    rw [e1]
    congr 1
    · refine congrArg (fun z : List Hdr => ((A2.rw r, (⟨.sl, e, true, z⟩ : Row)) : Hdr × Row)) ?_
      refine List.ext_getElem (by simp) fun i h1 h2 => ?_
      have hi : i < idx.length := by simpa using h1
      simp [List.getD_eq_getElem?_getD, List.getElem?_eq_getElem hi]
    · refine List.map_congr_left fun i hi => ?_
      have hi := List.mem_range.1 hi
      refine congrArg (fun z : List c.α => ((A.inn 1 (idx.getD i 0), (⟨c, e', true, z⟩ : Row)) : Hdr × Row)) ?_
      rw [List.getD_eq_getElem?_getD, List.getElem?_map, List.getElem?_eq_getElem hi, List.getD_eq_getElem?_getD (l := idx), List.getElem?_eq_getElem hi]; rfl
  have hmi : ∀ i, i < idx.length → idx.getD i 0 < yss.length := fun i hi => hlt _ (by rw [List.getD_eq_getElem?_getD, List.getElem?_eq_getElem hi]; exact List.getElem_mem hi)
  have hin : ∀ j, j < yss.length → RowOwn w (A.inn 1 j) ⟨c, e', true, yss.getD j []⟩ := fun j hj => s1.a1.inner hj
  have hfi : ∀ j, j < yss.length → ∀ b, (A.inn 1 j).at b → Feet ⟨.lst c e', e, true, yss⟩ (A.rw 1) (A.inn 1) b := fun j hj b ⟨a0, h1, h2⟩ => ⟨_, mem_inner hj, .inl rfl, a0, h1, h2⟩
  have hin2 : ∀ j, j < yss.length → RowOwn w2 (A.inn 1 j) ⟨c, e', true, yss.getD j []⟩ := fun j hj => (hin j hj).keep fun a0 h0 => hk2.block _ (s1.k1 _ (hfi j hj _ ⟨a0, h0, rfl⟩)).2
  have hdj : ∀ i j, i < yss.length → j < yss.length → i ≠ j → ∀ b, (A.inn 1 i).at b → ¬ (A.inn 1 j).at b := fun i j hi hj hij b ⟨a0, h1, h2⟩ ⟨a1, h3, h4⟩ => by
    have hp : ∀ k, k < yss.length → ((⟨.lst c e', e, true, yss⟩ : Row).parts (A.rw 1) (A.inn 1))[k + 1]? = some (A.inn 1 k, ⟨c, e', true, yss.getD k []⟩) := fun k hk => by
      rw [parts_lst, List.getElem?_cons_succ, List.getElem?_map, List.getElem?_range hk]; rfl
    exact s1.a1.dis (i + 1) (j + 1) _ _ (hp i hi) (hp j hj) (by omega) a0 a1 h1 h3 (h2.trans h4.symm)
  have hown : RowsOwn w2 (A2.rw r) ih ⟨.lst c e', e, true, idx.map fun i => yss.getD i []⟩ := by
    refine ⟨fun p hp => ?_, fun i j p q hi hj hij x y hx hy => ?_⟩
    · rw [hpt] at hp
      rcases List.mem_cons.1 hp with rfl | hp
      · exact hrow
      · obtain ⟨i, hi, rfl⟩ := List.mem_map.1 hp
        exact hin2 _ (hmi i (List.mem_range.1 hi))
    · rw [hpt] at hi hj
      have inn : ∀ (k : Nat) (p : Hdr × Row), ((List.range idx.length).map fun i => (A.inn 1 (idx.getD i 0), (⟨c, e', true, yss.getD (idx.getD i 0) []⟩ : Row)))[k]? = some p → k < idx.length ∧ p.1 = A.inn 1 (idx.getD k 0) := fun k p hk => by
        have hl := (List.getElem?_eq_some_iff.1 hk).1
        have hl : k < idx.length := by simpa using hl
        rw [List.getElem?_map, List.getElem?_range hl] at hk
        obtain rfl := Option.some.inj hk
        exact ⟨hl, rfl⟩
      match i, j, hi, hj with
      | 0, 0, _, _ => exact absurd rfl hij
      | 0, j + 1, hi, hj =>
        cases hi
        obtain ⟨h1, h2⟩ := inn j q hj
        rw [h2] at hy
        intro hb
        have := s1.k1 _ (hfi _ (hmi j h1) _ ⟨y, hy, rfl⟩)
        exact hfa x.block ⟨x, hx, rfl⟩ (by rw [hb]; exact this.2)
      | i + 1, 0, hi, hj =>
        cases hj
        obtain ⟨h1, h2⟩ := inn i p hi
        rw [h2] at hx
        intro hb
        have := s1.k1 _ (hfi _ (hmi i h1) _ ⟨x, hx, rfl⟩)
        exact hfa y.block ⟨y, hy, rfl⟩ (by rw [← hb]; exact this.2)
      | i + 1, j + 1, hi, hj =>
        obtain ⟨h1, h2⟩ := inn i p hi
        obtain ⟨h3, h4⟩ := inn j q hj
        rw [h2] at hx
        rw [h4] at hy
        intro hb
        refine hdj _ _ (hmi i h1) (hmi j h3) (fun e9 => hij ?_) x.block ⟨x, hx, rfl⟩ ⟨y, hy, hb.symm⟩
        rw [List.getD_eq_getElem?_getD, List.getElem?_eq_getElem h1, List.getD_eq_getElem?_getD, List.getElem?_eq_getElem h3] at e9
        have := (List.getElem_inj (hnd)).1 e9
        omega
  have hfeet : ∀ b, Feet ⟨.lst c e', e, true, idx.map fun i => yss.getD i []⟩ (A2.rw r) ih b → ¬ E.K b := by
    rintro b ⟨p, hp, _, a0, h1, h2⟩
    rw [hpt] at hp
    rcases List.mem_cons.1 hp with rfl | hp
    · exact hfk b ⟨a0, h1, h2⟩
    · obtain ⟨i, hi, rfl⟩ := List.mem_map.1 hp
      exact (s1.k1 b (hfi _ (hmi i (List.mem_range.1 hi)) b ⟨a0, h1, h2⟩)).1
  refine ⟨⟨A2.bx, fun _ => A2.rw r, fun _ => ih⟩, hs.defers, by rw [List.length_set, List.length_replicate, ← hL]; exact hs.size, fun t x hx => ?_, fun t x hx => ?_, fun i cs hi => by simp [nthj] at hi, ?_, fun b hb => Nat.lt_of_lt_of_le (s1.klt b hb) hk2.size, by rw [hE2]; exact Nat.zero_le _, by rw [hE]; exact Nat.zero_le _⟩
  · have hx : ((List.replicate L AVal.junk).set s (.row 0))[t]? = some x := hx
    by_cases hts : s = t
    · subst hts
      have hsl : s < L := by rw [← hL]; exact (List.getElem?_eq_some_iff.1 hf).1
      rw [List.getElem?_set_self (by rw [List.length_replicate]; exact hsl)] at hx
      obtain rfl := Option.some.inj hx
      refine .inr ?_
      rcases hs.fr s _ hf with h | h
      · cases h
      · rw [h]; simp [AVal.den]
    · rw [List.getElem?_set_ne hts, List.getElem?_replicate] at hx
      split at hx
      · exact .inl (Option.some.inj hx).symm
      · cases hx
  · have hx : ((List.replicate L AVal.junk).set s (.row 0))[t]? = some x := hx
    by_cases hts : s = t
    · subst hts
      have hsl : s < L := by rw [← hL]; exact (List.getElem?_eq_some_iff.1 hf).1
      rw [List.getElem?_set_self (by rw [List.length_replicate]; exact hsl)] at hx
      obtain rfl := Option.some.inj hx
      simp [AVal.sc, lvl_eq]
    · rw [List.getElem?_set_ne hts, List.getElem?_replicate] at hx
      split at hx
      · rw [← Option.some.inj hx]; rfl
      · cases hx
  · refine ⟨⟨hk2.os.trans s1.kept.os, hk2.tape.trans s1.kept.tape, hk2.output.trans s1.kept.output, Nat.le_trans s1.kept.size hk2.size, fun b hb => (hk2.block b ⟨s1.klt b hb, fun h => s1.k2 b h hb⟩).trans (s1.kept.block b hb), s1.kept.drawn.trans hk2.drawn⟩, fun i cs hi => by simp [nthj] at hi, fun k q hk => ?_, fun i j ci cj h0 hi hj hij => by simp [nthj] at hi, fun i ci k q b h0 hi hk hf => by simp [nthj] at hi, fun k k' q q' b hk hk' hkk ho hf hf' => ?_, fun k hk => by rw [hE2] at hk; exact absurd hk (Nat.not_lt_zero _)⟩
    · match k, hk with
      | 0, hk => cases hk; exact ⟨hown.at, fun _ => ⟨hown, hfeet⟩⟩
      | k + 1, hk => simp [nthj] at hk
    · match k, k', hk, hk' with
      | 0, 0, _, _ => exact hkk rfl
      | k + 1, _, hk, _ => simp [nthj] at hk
      | 0, k' + 1, _, hk' => simp [nthj] at hk'
end Go.Proofs.Ytllagpbbbdekiab.Fw
