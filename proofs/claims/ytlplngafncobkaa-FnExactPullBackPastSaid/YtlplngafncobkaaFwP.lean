/- The walk by reckoning is sound: operations one behind the other, and code. -/
import Derived.Test.YtlplngafncobkaaFwOc
namespace Go.Proofs.Ytlplngafncobkaa.Fw
open Go Go.RowKit
set_option linter.unusedVariables false
set_option linter.unusedSimpArgs false

section
variable {E : Env} {T : TypeId → Option TInfo} {G : List (FuncId × Ctr)} {all : List Oper}

theorem vcOne_sound (hT : TOk E.P T) (hG : GOk E.P G) {rest : List Oper} {o : Oper} {fr : List AVal} {hp : List (Option (List AVal))} {rows : List (Option Row)} {kN k : St → Prop}
    (h : vcOne E T G all rest o fr hp rows kN k) {Q : Exit → Act → World → Prop} (hN : ∀ σ', kN σ' → At E Q .normal σ')
    (hk : ∀ σ', k σ' → ∀ A a w, Sat E A σ' a w → wpList E.P all.toArray Q rest a w) {A : Asg} {a : Act} {w : World} (hs : Sat E A ⟨fr, hp, rows⟩ a w)
    (hw : Region.wanted o (yielded all.toArray a.tmps) = true) : wpList E.P all.toArray Q (o :: rest) a w := by
  unfold vcOne at h
  split at h
  · simp only [lenK_eq] at h
    obtain ⟨eff, he, hrun⟩ := opEff_sound hT hG h
    unfold wpList
    rw [if_pos hw]
    refine .inl (wp_of_runs (hrun A _ _ w a.eval (hs.ctx _ _) (fun _ _ h => h) (fun _ _ h => h) (hs.match o) ?_ ?_) ?_)
    · intro B hB cs hcs
      have hput := he
      obtain ⟨box, rs, v⟩ := eff
      simp only at hcs
      subst hcs
      simp only [putE, pushO_eq, pushR_eq, lenN_eq] at hput
      split at hput
      · split at hput
        · rename_i hb
          exact (dens_congr (fun j hj => by
            have : j < hp.length := by simpa using hj
            exact hB.bx j (fun _ => by omega)) (fun j hj => by
            have : j < rows.length := by simpa using hj
            exact hB.rw j (.inl this)) cs hb).symm
        · exact hput.elim
      · exact hput.elim
    · intro i cs hi B hbx hB
      exact dens_congr (fun j hj => by rw [hbx]) (fun j hj => hB j (by
        have hj : j < rows.length := by simpa using hj
        omega)) cs (hs.hsc i cs hi)
    · intro u w' hpost
      obtain ⟨σ', hk', B, hs'⟩ := putE_sound (σ := ⟨fr, hp, rows⟩) hs hpost he
      exact hk σ' hk' B _ _ hs'
  · rename_i hauto
    clear hauto
    unfold heavy at h
    have one : ∀ u w', (∃ σ' B, k σ' ∧ Sat E B σ' (a.put o.dst u) w') → wpList E.P all.toArray Q rest (a.put o.dst u) w' := fun u w' ⟨σ', B, h1, h2⟩ => hk σ' h1 B _ _ h2
    obtain ⟨dst, op, ty, pos, after, guard⟩ := o
    simp only at h one
    split at h
    · rename_i t x v
      have put : (∃ σ' B w', k σ' ∧ Sat E B σ' a w' ∧ ∀ ty pos after guard, (execOp a.eval ⟨none, .store t x v, ty, pos, after, guard⟩).run E.P w = .ok .skip w') → wpList E.P all.toArray Q (⟨none, .store t x v, ty, pos, after, guard⟩ :: rest) a w := fun ⟨σ', B, w', h1, h2, h3⟩ => by
        unfold wpList
        rw [if_pos hw]
        refine .inl ?_
        unfold Oper.wp
        rw [h3]
        exact hk σ' h1 B _ _ h2
      have st : stA T E.b0 ⟨fr, hp, rows⟩ t x v k → wpList E.P all.toArray Q (⟨none, .store t x v, ty, pos, after, guard⟩ :: rest) a w := fun h => by
        obtain ⟨σ', w', h1, h2, h3⟩ := stA_sound hT hs h
        exact put ⟨σ', A, w', h1, h2, h3⟩
      split at h
      · exact st h
      · exact st h
      · exact put (putA_sound hT hs h)
      · exact st h
      · exact h.out Q hN A a w hs
    · rename_i args argTypes d
      split at h
      · rename_i s x t t' ha hat
        split at h
        · rename_i htt
          have htt := Nat.eq_of_beq_eq_true htt
          subst htt
          obtain ⟨σ', B, u, w', h1, h2, h3⟩ := appA_sound hT hs h
          have e1 : args = #[s, x] := by apply Array.ext'; simpa using ha
          have e2 : argTypes = #[t, t] := by apply Array.ext'; simpa using hat
          subst e1; subst e2
          unfold wpList
          rw [if_pos hw]
          refine .inl ?_
          unfold Oper.wp
          have hrun : (execOp a.eval ⟨some d, .call { callee := .builtin .append, args := #[s, x], argTypes := #[t, t] }, ty, pos, after, guard⟩).run E.P w = .ok (.value u) w' := by
            simp only [execOp, resolve, Sem.run_bind, Sem.run_pure, Result.andThen_ok, invoke, builtin]
            simp only [List.map_toArray, List.map_cons, List.map_nil, h3, Result.andThen_ok]
          rw [hrun]
          exact hk σ' h1 B _ _ h2
        · exact h.out Q hN A a w hs
      · exact h.out Q hN A a w hs
    · rename_i args argTypes
      split at h
      · rename_i x t ha hat
        obtain ⟨σ', w', h1, h2, h3⟩ := clrA_sound hT hs h
        have e1 : args = #[x] := by apply Array.ext'; simpa using ha
        have e2 : argTypes = #[t] := by apply Array.ext'; simpa using hat
        subst e1; subst e2
        unfold wpList
        rw [if_pos hw]
        refine .inl ?_
        unfold Oper.wp
        have hrun : (execOp a.eval ⟨dst, .call { callee := .builtin .clear, args := #[x], argTypes := #[t] }, ty, pos, after, guard⟩).run E.P w = .ok (.value (.tuple #[])) w' := by
          simp only [execOp, resolve, Sem.run_bind, Sem.run_pure, Result.andThen_ok, invoke, builtin]
          simp only [List.map_toArray, List.map_cons, List.map_nil, h3, Result.andThen_ok]
        rw [hrun]
        exact hk σ' h1 A _ _ h2
      · exact h.out Q hN A a w hs
    · rename_i f args argTypes
      unfold wpList
      rw [if_pos hw]
      exact .inl (wp_of_runs (mcallA_sound hG hs h ty pos after guard) one)
    · exact h.out Q hN A a w hs

theorem vcOps_sound (hT : TOk E.P T) (hG : GOk E.P G) : ∀ (rest : List Oper) (σ : St) (kN : St → Prop), vcOps E T G all rest σ kN → VO E all rest σ kN
  | [], σ, kN, h => ⟨fun Q hN A a w hs => hN σ (by simpa [vcOps] using h) A a w hs⟩
  | o :: rest, ⟨fr, hp, rows⟩, kN, h => ⟨fun Q hN A a w hs => by
    have ih : ∀ σ', vcOps E T G all rest σ' kN → ∀ A a w, Sat E A σ' a w → wpList E.P all.toArray Q rest a w := fun σ' h' A a w hs' => (vcOps_sound hT hG rest σ' kN h').out Q hN A a w hs'
    simp only [vcOps] at h
    split at h
    · rename_i hg
      exact vcOne_sound hT hG h hN ih hs (by simp [Region.wanted, hg])
    · rename_i j want hg
      split at h
      · rename_i oj hj
        split at h
        · rename_i d d' hd hd'
          split at h
          · rename_i b hb
            rw [nth_eq] at hj hb
            have hyb : a.tmps.getD d undef = .bool b := by
              rcases hs.fr d _ hb with h' | h'
              · cases h'
              · simpa [AVal.den] using h'
            have hy : yielded all.toArray a.tmps j = some b := by
              have hlt : d < a.tmps.size := by rw [hs.size]; exact (List.getElem?_eq_some_iff.1 hb).1
              have hq : a.tmps[d]? = some (.bool b) := by
                rw [Array.getD_eq_getD_getElem?, Array.getElem?_eq_getElem hlt] at hyb
                rw [Array.getElem?_eq_getElem hlt]
                exact congrArg some hyb
              simp [yielded, hj, hd, hq]
            have hwant : Region.wanted o (yielded all.toArray a.tmps) = (b == want) := by
              simp only [Region.wanted, hg, hy]
              cases b <;> cases want <;> rfl
            have hset : Sat E A ⟨fr.set d (.bool b), hp, rows⟩ a w := hs.setFr d (.bool b) (fun y _ => ⟨.inr (by rw [hyb]; simp [AVal.den]), by simp [AVal.sc]⟩)
            have skip : ∀ σ', σ' = (⟨(fr.set d (.bool b)).set d' uV, hp, rows⟩ : St) → (b == want) = false → vcOps E T G all rest σ' kN → wpList E.P all.toArray Q (o :: rest) a w := fun σ' he hbw h' => by
              subst he
              unfold wpList
              rw [if_neg (by rw [hwant, hbw]; simp), hd']
              exact ih _ h' A _ _ (hset.skip d')
            cases want <;> simp only [setK_eq] at h
            · cases b
              · exact vcOne_sound hT hG (show vcOne _ _ _ _ _ _ _ _ _ _ _ from h) hN ih hset (by rw [hwant]; rfl)
              · exact skip _ rfl rfl h
            · cases b
              · exact skip _ rfl rfl h
              · exact vcOne_sound hT hG (show vcOne _ _ _ _ _ _ _ _ _ _ _ from h) hN ih hset (by rw [hwant]; rfl)
          · rename_i v hb
            rw [nth_eq] at hj hb
            have hv : a.tmps.getD d undef = v := by
              rcases hs.fr d _ hb with h' | h'
              · cases h'
              · simpa [AVal.den] using h'
            split at h
            · exact h.elim
            · rename_i hnb
              have hlt : d < a.tmps.size := by rw [hs.size]; exact (List.getElem?_eq_some_iff.1 hb).1
              have hq : a.tmps[d]? = some ((AVal.raw v).den A) := by
                rw [Array.getD_eq_getD_getElem?, Array.getElem?_eq_getElem hlt] at hv
                rw [Array.getElem?_eq_getElem hlt]
                exact congrArg some hv
              have hy : yielded all.toArray a.tmps j = none := gk_yield (gk_raw fun b e => hnb b e) (by simpa using hj) hd hq
              have hwant : Region.wanted o (yielded all.toArray a.tmps) = false := by
                simp only [Region.wanted, hg, hy]; cases want <;> rfl
              unfold wpList
              rw [if_neg (by rw [hwant]; simp), hd']
              simp only [setK_eq] at h
              exact ih _ h A _ _ (hs.skip d')
          · exact h.elim
        · exact h.elim
      · exact h.elim⟩

theorem vcCode_sound (hT : TOk E.P T) (hG : GOk E.P G) : ∀ (c : Code) (kN : St → Prop) (kE : Nat → St → Prop) (kR : St → Prop) (σ : St), vcCode E T G c kN kE kR σ → V E c kN kE kR σ
  | .skip, kN, kE, kR, σ, h => ⟨fun Q h1 h2 h3 A a w hs => wp_skip (h1 σ h A a w hs)⟩
  | .ret, kN, kE, kR, σ, h => ⟨fun Q h1 h2 h3 A a w hs => wp_ret (h3 σ h A a w hs)⟩
  | .exit id, kN, kE, kR, σ, h => ⟨fun Q h1 h2 h3 A a w hs => wp_exit (h2 id σ h A a w hs)⟩
  | .seq x y, kN, kE, kR, σ, h => ⟨fun Q h1 h2 h3 A a w hs => by
    simp only [vcCode] at h
    refine wp_seq ((vcCode_sound hT hG x _ _ _ _ h).out _ ?_ ?_ ?_ A a w hs)
    · intro σ' h' A a w hs'
      exact h'.out Q h1 h2 h3 A a w hs'
    · intro i σ' h' A a w hs'; exact h2 i σ' h' A a w hs'
    · intro σ' h' A a w hs'; exact h3 σ' h' A a w hs'⟩
  | .block id c, kN, kE, kR, σ, h => ⟨fun Q h1 h2 h3 A a w hs => by
    simp only [vcCode] at h
    refine wp_block ((vcCode_sound hT hG c _ _ _ _ h).out _ ?_ ?_ ?_ A a w hs)
    · intro σ' h' A a w hs'; exact h1 σ' h' A a w hs'
    · intro i σ' h' A a w hs'
      simp only [Exit.inBlock]
      split at h'
      · rename_i he
        rw [if_pos (Nat.eq_of_beq_eq_true he)]; exact h1 σ' h' A a w hs'
      · rename_i he
        rw [if_neg (fun e => by subst e; simp at he)]; exact h2 i σ' h' A a w hs'
    · intro σ' h' A a w hs'; exact h3 σ' h' A a w hs'⟩
  | .cond c x y, kN, kE, kR, ⟨fr, hp, rows⟩, h => ⟨fun Q h1 h2 h3 A a w hs => by
    simp only [vcCode] at h
    split at h
    · rename_i t
      split at h
      · rename_i b hb
        rw [nth_eq] at hb
        have hyb : a.tmps.getD t undef = .bool b := by
          rcases hs.fr t _ hb with h' | h'
          · cases h'
          · simpa [AVal.den] using h'
        have hset : Sat E A ⟨fr.set t (.bool b), hp, rows⟩ a w := hs.setFr t (.bool b) (fun y _ => ⟨.inr (by rw [hyb]; simp [AVal.den]), by simp [AVal.sc]⟩)
        simp only [setK_eq] at h
        cases b
        · exact wp_cond_false (by simp only [Act.eval]; exact hyb) ((vcCode_sound hT hG y _ _ _ _ h).out Q h1 h2 h3 A a w hset)
        · exact wp_cond_true (by simp only [Act.eval]; exact hyb) ((vcCode_sound hT hG x _ _ _ _ h).out Q h1 h2 h3 A a w hset)
      · exact h.elim
    · rename_i b
      cases b
      · exact wp_cond_false rfl ((vcCode_sound hT hG y _ _ _ _ h).out Q h1 h2 h3 A a w hs)
      · exact wp_cond_true rfl ((vcCode_sound hT hG x _ _ _ _ h).out Q h1 h2 h3 A a w hs)
    · exact h.elim⟩
  | .region id ops draw, kN, kE, kR, σ, h => ⟨fun Q h1 h2 h3 A a w hs => by
    simp only [vcCode] at h
    cases draw
    · exact wp_region_list (by
        have := (vcOps_sound hT hG ops.toList σ kN h).out Q h1 A a w hs
        simpa using this)
    · exact h.out Q h1 h2 h3 A a w hs⟩
  | .loop c, kN, kE, kR, σ, h => h
  | .rangeFunc _ _ _ _, kN, kE, kR, σ, h => h
  | .scope _, kN, kE, kR, σ, h => h
  | .label _, kN, kE, kR, σ, h => h
  | .goto _, kN, kE, kR, σ, h => h
  | .refuse _, kN, kE, kR, σ, h => h

theorem V_step (hT : TOk E.P T) (hG : GOk E.P G) {c : Code} (hc : canStep c = true) {kN : St → Prop} {kE : Nat → St → Prop} {kR : St → Prop} {σ : St} (h : vcCode E T G c kN kE kR σ) : V E c kN kE kR σ := vcCode_sound hT hG c _ _ _ _ h

end
end Go.Proofs.Ytlplngafncobkaa.Fw
