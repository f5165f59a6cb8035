/- A region that draws its order: the whole. -/
import Derived.Test.YtlplngafncobkaaFwU
namespace Go.Proofs.Ytlplngafncobkaa.Fw
open Go Go.RowKit
set_option linter.unusedVariables false
set_option linter.unusedSimpArgs false

section
variable {E : Env} {L : List Oper} {fr0 : List AVal} {hp0 old : List (Option (List AVal))} {rows0 : List (Option Row)} {D : List Rec} {n : Nat}
variable {listed : Array Bool} {A : Asg} {a : Act} {w : World} {j : Nat} {r : Rec}

theorem Lst_set (hj : j < listed.size) (i : Nat) : Lst (listed.setIfInBounds j true) i ↔ i = j ∨ Lst listed i := by
  unfold Lst
  by_cases h : i = j
  · subst h; simp [hj]
  · rw [getD_set_ne false (fun e => h e.symm)]; simp [h]

theorem PB_set (hj : D[j]? = some r) (hs : j < listed.size) (l : Nat) : PB hp0 D (listed.setIfInBounds j true) l ↔ PB hp0 D listed l ∨ l ∈ r.ob := by
  unfold PB
  constructor
  · rintro (h | ⟨i, r', h1, h2, h3⟩)
    · exact .inl (.inl h)
    · rcases (Lst_set hs i).1 h1 with rfl | h1
      · rw [hj] at h2; cases h2; exact .inr h3
      · exact .inl (.inr ⟨i, r', h1, h2, h3⟩)
  · rintro ((h | ⟨i, r', h1, h2, h3⟩) | h)
    · exact .inl h
    · exact .inr ⟨i, r', (Lst_set hs i).2 (.inr h1), h2, h3⟩
    · exact .inr ⟨j, r, (Lst_set hs j).2 (.inl rfl), hj, h⟩
theorem PR_set (hj : D[j]? = some r) (hs : j < listed.size) (l : Nat) : PR rows0 D (listed.setIfInBounds j true) l ↔ PR rows0 D listed l ∨ l ∈ r.orw := by
  unfold PR
  constructor
  · rintro (h | ⟨i, r', h1, h2, h3⟩)
    · exact .inl (.inl h)
    · rcases (Lst_set hs i).1 h1 with rfl | h1
      · rw [hj] at h2; cases h2; exact .inr h3
      · exact .inl (.inr ⟨i, r', h1, h2, h3⟩)
  · rintro ((h | ⟨i, r', h1, h2, h3⟩) | h)
    · exact .inl h
    · exact .inr ⟨i, r', (Lst_set hs i).2 (.inr h1), h2, h3⟩
    · exact .inr ⟨j, r, (Lst_set hs j).2 (.inl rfl), hj, h⟩

theorem stoF_set (hD : HeadOk E L fr0 hp0 old rows0 D) (hj : D[j]? = some r) (hs : j < listed.size) (hn : r.sto = none) (l : Nat) : stoF D (listed.setIfInBounds j true) l = stoF D listed l := by
  cases h : stoF D listed l with
  | some c =>
    obtain ⟨i, q, h1, h2, h3⟩ := stoF_inv h
    exact stoF_some hD ((Lst_set hs i).2 (.inr h1)) h2 h3
  | none =>
    refine stoF_none fun i q v h1 h2 h3 => ?_
    rcases (Lst_set hs i).1 h1 with rfl | h1
    · rw [hj] at h2; cases h2
      rw [hn] at h3; cases h3
    · rw [stoF_some hD h1 h2 h3] at h; cases h

theorem hpS_set (hD : HeadOk E L fr0 hp0 old rows0 D) (hj : D[j]? = some r) (hs : j < listed.size) (hn : r.sto = none) : hpS hp0 old D (listed.setIfInBounds j true) = updO (hpS hp0 old D listed) r.lb r.eff.box := by
  funext l
  have hge := hp0_le (hp0 := hp0) (D.take j)
  rw [← (hD j r hj).lb] at hge
  by_cases hlt : l < hp0.length
  · have hne : l ≠ r.lb := by omega
    have e1 : hpS hp0 old D (listed.setIfInBounds j true) l = hpS hp0 old D listed l := by
      unfold hpS
      rw [if_pos hlt, if_pos hlt, stoF_set hD hj hs hn]
    rw [e1]
    cases r.eff.box with
    | none => rfl
    | some c => simp only [updO, if_neg hne]
  · unfold hpS
    cases hb : r.eff.box with
    | none =>
      have : r.ob = [] := by unfold Rec.ob; rw [hb]
      simp only [updO, if_neg hlt]
      have e : PB hp0 D (listed.setIfInBounds j true) l ↔ PB hp0 D listed l := by rw [PB_set hj hs]; simp [this]
      by_cases h : PB hp0 D listed l
      · rw [if_pos (e.2 h), if_pos h]
      · rw [if_neg (fun h' => h (e.1 h')), if_neg h]
    | some c =>
      have : r.ob = [r.lb] := by unfold Rec.ob; rw [hb]
      simp only [updO, if_neg hlt]
      have e : PB hp0 D (listed.setIfInBounds j true) l ↔ PB hp0 D listed l ∨ l = r.lb := by rw [PB_set hj hs]; simp [this]
      by_cases hl : l = r.lb
      · rw [if_pos (e.2 (.inr hl)), if_pos hl, hl]; exact box_at hD hj hb
      · rw [if_neg hl]
        by_cases h : PB hp0 D listed l
        · rw [if_pos (e.2 (.inl h)), if_pos h]
        · rw [if_neg (fun h' => h ((e.1 h').resolve_right hl)), if_neg h]
/-- a store is listed -/
theorem hpS_sto (hD : HeadOk E L fr0 hp0 old rows0 D) (hlen : old.length = hp0.length) (hj : D[j]? = some r) (hs : j < listed.size) (hn : ¬ Lst listed j) {l : Nat} {vs : List AVal} (hr : r.sto = some (l, vs)) :
    hpS hp0 old D listed l = nthj old l ∧ hpS hp0 old D (listed.setIfInBounds j true) = upd (hpS hp0 old D listed) l (some vs) := by
  have hst := (hD j r hj).sto l vs hr
  obtain ⟨oc, ho⟩ := hst.was
  have hlt : l < hp0.length := by rw [← hlen]; exact nthj_lt ho
  have hno : stoF D listed l = none := stoF_none fun i q v h1 h2 h3 => by
    have := sto_uniq hD h2 h3 hj hr
    subst this; exact hn h1
  constructor
  · unfold hpS; rw [if_pos hlt, hno]
  · funext m
    by_cases hm : m = l
    · subst hm
      rw [upd_same]
      unfold hpS
      rw [if_pos hlt, stoF_some hD ((Lst_set hs j).2 (.inl rfl)) hj hr]
    · rw [upd_ne _ _ _ hm]
      have hob : r.ob = [] := by unfold Rec.ob; rw [hst.eff]
      unfold hpS
      by_cases hml : m < hp0.length
      · rw [if_pos hml, if_pos hml]
        have : stoF D (listed.setIfInBounds j true) m = stoF D listed m := by
          cases h : stoF D listed m with
          | some c =>
            obtain ⟨i, q, h1, h2, h3⟩ := stoF_inv h
            exact stoF_some hD ((Lst_set hs i).2 (.inr h1)) h2 h3
          | none =>
            refine stoF_none fun i q v h1 h2 h3 => ?_
            rcases (Lst_set hs i).1 h1 with rfl | h1
            · rw [hj] at h2; cases h2
              rw [hr] at h3; cases h3; exact hm rfl
            · rw [stoF_some hD h1 h2 h3] at h; cases h
        rw [this]
      · rw [if_neg hml, if_neg hml]
        have e : PB hp0 D (listed.setIfInBounds j true) m ↔ PB hp0 D listed m := by rw [PB_set hj hs]; simp [hob]
        by_cases h : PB hp0 D listed m
        · rw [if_pos (e.2 h), if_pos h]
        · rw [if_neg (fun h' => h (e.1 h')), if_neg h]
theorem rwS_set (hD : HeadOk E L fr0 hp0 old rows0 D) (hj : D[j]? = some r) (hs : j < listed.size) : rwS rows0 D (listed.setIfInBounds j true) = updL (rwS rows0 D listed) r.lr r.eff.rows := by
  funext l
  unfold rwS updL
  by_cases hl : r.lr ≤ l ∧ l < r.lr + r.eff.rows.length
  · rw [if_pos ((PR_set hj hs l).2 (.inr (orw_mem.2 hl))), if_pos hl]
    have hlt : l - r.lr < r.eff.rows.length := by omega
    have := row_at hD hj (List.getElem?_eq_getElem hlt)
    rw [show r.lr + (l - r.lr) = l by omega] at this
    rw [this, List.getElem?_eq_getElem hlt]
  · rw [if_neg hl]
    have e : PR rows0 D (listed.setIfInBounds j true) l ↔ PR rows0 D listed l := by rw [PR_set hj hs, orw_mem]; simp [hl]
    by_cases h : PR rows0 D listed l
    · rw [if_pos (e.2 h)]; exact (if_pos h).symm
    · rw [if_neg (fun h' => h (e.1 h'))]; exact (if_neg h).symm

theorem step (hb0 : Base E fr0 hp0 old rows0) (hc : chkHead L n = true) (hD : HeadOk E L fr0 hp0 old rows0 D) (hlen : D.length = n) (hinv : DInv E fr0 hp0 old rows0 D listed A a w) (hcl : Closed D listed) (hs : j < listed.size)
    (hn : ¬ Lst listed j) (hj : D[j]? = some r) (hdep : ∀ e ∈ r.o.after.toList, bindsAny e = true → Lst listed e.on) {K : Act → World → Prop} {Q : Exit → Act → World → Prop}
    (hK : ∀ A' a' w', DInv E fr0 hp0 old rows0 D (listed.setIfInBounds j true) A' a' w' → K a' w') : wpOp E.P L.toArray Q j K a w := by
  have hok := hD j r hj
  have hop : L[j]? = some r.o := by
    have h1 := hok.op
    have hlt := (List.getElem?_eq_some_iff.1 hj).1
    rwa [List.length_take, show min j D.length = j by omega] at h1
  have hpres := ab_pres hD hcl (j + 1) j (by omega) r hj hdep
  -- the new frame
  have newInv : ∀ (B : Asg) (u : Value) (w' : World), Agr r.lb r.eff.box.isSome r.lr r.eff.rows.length A B → (r.eff.v = .junk ∨ u = r.eff.v.den B) →
      Mem E B (hpS hp0 old D (listed.setIfInBounds j true)) (rwS rows0 D (listed.setIfInBounds j true)) w' → w.heap.size ≤ w'.heap.size →
      DInv E fr0 hp0 old rows0 D (listed.setIfInBounds j true) B (a.put r.o.dst u) w' := fun B u w' hag hu hm hsz => by
    have get_ne : ∀ t, r.o.dst ≠ some t → (a.put r.o.dst u).tmps.getD t undef = a.tmps.getD t undef := fun t ht => by
      unfold Act.put
      cases hd : r.o.dst with
      | none => rfl
      | some d =>
        have : d ≠ t := fun e => ht (by rw [hd, e])
        simp only [Array.getD_eq_getD_getElem?]
        rw [Array.getElem?_setIfInBounds_ne this]
    have uniq : ∀ (i : Nat) (r' : Rec), D[i]? = some r' → i ≠ j → ∀ t, r'.o.dst = some t → r.o.dst ≠ some t := fun i r' hi hij t hd => by
      have h1 := (hD i r' hi).op
      have hlt := (List.getElem?_eq_some_iff.1 hi).1
      rw [List.length_take, show min i D.length = i by omega] at h1
      have hltj := (List.getElem?_eq_some_iff.1 hj).1
      exact (chkHead_spec hc (by omega) (by omega) hij hop h1 hd).2
    refine ⟨?_, ?_, fun i r' hli hi t hd htl => ?_, fun t x hx hnone => ?_, hm, fun b hb => Nat.lt_of_lt_of_le (hinv.klt b hb) hsz⟩
    · unfold Act.put; split <;> exact hinv.defers
    · unfold Act.put; split <;> simp [hinv.size]
    · rcases (Lst_set hs i).1 hli with rfl | hli'
      · rw [hj] at hi; cases hi
        refine hu.imp id (fun e => ?_)
        rw [← e]
        unfold Act.put
        simp only [hd]
        have : t < a.tmps.size := by rw [hinv.size]; exact htl
        simp [Array.getD_eq_getD_getElem?, this]
      · have hij : i ≠ j := fun e => hn (e ▸ hli')
        rw [get_ne t (uniq i r' hi hij t hd)]
        refine (hinv.set i r' hli' hi t hd htl).imp id (fun e => e.trans ?_)
        have hpres' := ab_pres hD hcl (i + 1) i (by omega) r' hi (hcl i r' hli' hi)
        exact (stab hD hn hj hag (eb := r'.ob ++ r'.ab) (er := r'.orw ++ r'.ar) (fun l hl => by
          rcases List.mem_append.1 hl with hl | hl
          · exact .inr ⟨i, r', hli', hi, hl⟩
          · exact hpres'.1 l hl) (fun l hl => by
          rcases List.mem_append.1 hl with hl | hl
          · exact .inr ⟨i, r', hli', hi, hl⟩
          · exact hpres'.2 l hl)).1 _ (hD i r' hi).sc
    · rw [get_ne t (hnone j r ((Lst_set hs j).2 (.inl rfl)) hj)]
      refine (hinv.old t x hx (fun i r' hli hi => hnone i r' ((Lst_set hs i).2 (.inr hli)) hi)).imp id (fun e => e.trans ?_)
      exact (stab hD hn hj hag (eb := []) (er := []) (fun l hl => by simp at hl) (fun l hl => by simp at hl)).1 x (hb0.fr t x hx)
  -- the guard
  have hwant : Region.wanted r.o (yielded L.toArray a.tmps) = r.run := by
    have hg := hok.guard
    unfold Region.wanted
    cases hgd : r.o.guard with
    | none => rw [hgd] at hg; exact hg.symm
    | some gw =>
      obtain ⟨g, want⟩ := gw
      rw [hgd] at hg
      obtain ⟨og, d, x, ob, h1, h2, h3, h3', h4⟩ := hg
      have hd : d ∈ r.o.looksAt L.toArray := by
        unfold Oper.looksAt
        rw [hgd]
        simp [h1, h2]
      have hv := looks_ok hc hD hlen hinv hcl hn hj hdep hd h3
      have htl : d < a.tmps.size := by
        have := (List.getElem?_eq_some_iff.1 h3).1
        rw [hok.fr, frOf_len] at this
        rw [hinv.size]; exact this
      have hv' : a.tmps[d]? = some (x.den A) := by
        rcases hv with hv | hv
        · exact absurd hv (gk_junk h3')
        · rw [Array.getD_eq_getD_getElem?, Array.getElem?_eq_getElem htl] at hv
          rw [Array.getElem?_eq_getElem htl]
          exact congrArg some hv
      have hy : yielded L.toArray a.tmps g = ob := gk_yield h3' (by simpa using h1) h2 hv'
      rw [h4]
      simp only [hy]
  have hop' : L.toArray[j]? = some r.o := by simpa using hop
  unfold wpOp
  rw [hop']
  simp only
  cases hrun : r.run
  · rw [if_neg (by rw [hwant, hrun]; simp)]
    obtain ⟨heff, hdst⟩ := hok.skip hrun
    have hns : r.sto = none := by
      cases hsto : r.sto with
      | none => rfl
      | some lv => have := (hok.sto lv.1 lv.2 hsto).run; rw [hrun] at this; cases this
    have hbx : r.eff.box = none := by rw [heff]; rfl
    have hrw : r.eff.rows = [] := by rw [heff]; rfl
    refine hK A _ w (newInv A undef w ⟨fun _ _ => rfl, fun _ _ => ⟨rfl, rfl⟩⟩ (.inr (by rw [heff]; rfl)) ?_ (Nat.le_refl _))
    rw [hpS_set hD hj hs hns, rwS_set hD hj hs, hbx, hrw, updO_none, updL_nil]
    exact hinv.mem
  · rw [if_pos (by rw [hwant, hrun])]
    have hmatch : Match r.fr r.o a.eval A := by
      intro x hx v hv
      cases x with
      | tmp t =>
        simp only [ev, nth_eq] at hv
        split at hv
        · cases hv
        · rename_i hne
          have hm : t ∈ r.o.looksAt L.toArray := by
            unfold Oper.looksAt
            refine List.mem_append.2 (.inl ?_)
            exact List.mem_filterMap.2 ⟨_, hx, rfl⟩
          rcases looks_ok hc hD hlen hinv hcl hn hj hdep hm hv with rfl | h'
          · exact absurd hv (by simpa using hne)
          · exact h'
      | const v' => cases v' <;> simp [ev] at hv <;> subst hv <;> simp [Act.eval, AVal.den]
      | global g => simp [ev] at hv
      | func f => simp [ev] at hv; subst hv; simp [Act.eval, AVal.den, dens]
    have hge0 := hp0_le (hp0 := hp0) (D.take j)
    rw [← hok.lb] at hge0
    cases hsto : r.sto with
    | some lv =>
      obtain ⟨l, vs⟩ := lv
      have hst := hok.sto l vs hsto
      obtain ⟨h1, h2⟩ := hpS_sto hD hb0.len hj hs hn hsto
      obtain ⟨w', hrn, hm', hsz⟩ := hst.step A (hpS hp0 old D listed) (rwS rows0 D listed) w a.eval hinv.mem h1 hmatch
      refine .inl ?_
      unfold Oper.wp
      rw [hrn]
      have hbx : r.eff.box = none := by rw [hst.eff]
      have hrw : r.eff.rows = [] := by rw [hst.eff]
      have hv : r.eff.v = .junk := by rw [hst.eff]
      have := newInv A undef w' ⟨fun _ _ => rfl, fun _ _ => ⟨rfl, rfl⟩⟩ (.inl hv) (by
        rw [h2, rwS_set hD hj hs, hrw, updL_nil]
        exact hm') hsz
      exact hK A _ w' this
    | none =>
    refine .inl (wp_of_runs (hok.eff hrun hsto A (hpS hp0 old D listed) (rwS rows0 D listed) w a.eval ?_ ?_ ?_ ?_ ?_ ?_) ?_)
    · exact {
        mem := hinv.mem
        klt := hinv.klt
        fb := fun hb => by unfold hpS; rw [if_neg (by omega), if_neg (not_PB hD hn hj hb)]
        fr := fun i h1 h2 => by unfold rwS; rw [if_neg (not_PR hD hn hj h1 h2)]
        n0 := by rw [hok.lr]; exact Nat.le_trans hb0.n0 (rw0_le _)
        b0 := by rw [hok.lb]; exact Nat.le_trans hb0.b0 (hp0_le _)
        stb := fun B hag i c hi => by
          unfold hpS at hi
          split at hi
          · have base : scs hp0.length [] rows0.length [] c = true := by
              split at hi
              · rename_i c' hc'
                cases hi
                obtain ⟨i', q, h1, h2, h3⟩ := stoF_inv hc'
                exact ((hD i' q h2).sto _ _ h3).sc
              · exact hb0.hp i c hi
            exact ((stab hD hn hj hag (eb := []) (er := []) (fun l hl => by simp at hl) (fun l hl => by simp at hl)).2 c base).symm
          · split at hi
            · rename_i hnl hp
              rcases hp with hp | ⟨i', r', hli, hi', ho⟩
              · exact absurd hp hnl
              · rw [ob_mem] at ho
                obtain ⟨rfl, hb⟩ := ho
                cases hbx : r'.eff.box with
                | none => rw [hbx] at hb; cases hb
                | some c' =>
                  rw [box_at hD hi' hbx] at hi
                  cases hi
                  have hpres' := ab_pres hD hcl (i' + 1) i' (by omega) r' hi' (hcl i' r' hli hi')
                  exact ((stab hD hn hj hag hpres'.1 hpres'.2).2 c ((hD i' r' hi').bsc c hbx)).symm
            · cases hi }
    · intro i c hi
      unfold hgL at hi
      split at hi
      · rename_i hl
        rw [lvl_eq] at hl
        have hp : PB hp0 D listed i := by
          rcases hl with hl | hl
          · exact .inl hl
          · exact hpres.1 i hl
        unfold hpS
        by_cases hlt : i < hp0.length
        · rw [nthj_hp0 hlt] at hi
          have hno : stoF D listed i = none := stoF_none fun i2 q v h1 h2 h3 => by
            have := ((hD i2 q h2).sto i v h3).gone
            rw [hi] at this; cases this
          rw [if_pos hlt, hno]
          exact hb0.sub i c hi
        · rw [if_neg hlt, if_pos hp]; exact pre_hp j hi
      · cases hi
    · intro i c hi
      unfold hgL at hi
      split at hi
      · rename_i hl
        rw [lvl_eq] at hl
        have hp : PR rows0 D listed i := by
          rcases hl with hl | hl
          · exact .inl hl
          · exact hpres.2 i hl
        unfold rwS
        rw [if_pos hp]; exact pre_rw j hi
      · cases hi
    · exact hmatch
    · intro B hag cs hcs
      exact ((stab hD hn hj hag hpres.1 hpres.2).2 cs (hok.bsc cs hcs)).symm
    · intro i c hi B hbx hB
      unfold hgL at hi
      split at hi
      · rename_i hl
        rw [lvl_eq] at hl
        rcases hl with hl | hl
        · rw [nthj_hp0 hl] at hi
          refine dens_congr (fun q _ => by rw [hbx]) (fun q hq => hB q ?_) c (hb0.hp i c (hb0.sub i c hi))
          have hq : q < rows0.length := by simpa using hq
          have := rw0_le (rows0 := rows0) (D.take j)
          rw [hok.lr]; omega
        · obtain ⟨i', r', hlt, hi', ho⟩ := (ab_early hD (j + 1) j (by omega) r hj).1 i hl
          rw [ob_mem] at ho
          obtain ⟨rfl, hb⟩ := ho
          cases hbx' : r'.eff.box with
          | none => rw [hbx'] at hb; cases hb
          | some c' =>
            have := pre_hp j hi
            rw [box_at hD hi' hbx'] at this
            cases this
            refine dens_congr (fun q _ => by rw [hbx]) (fun q hq => hB q ?_) c ((hD i' r' hi').bsc c hbx')
            have h1 := (lb_step hD hi' hj hlt).2
            rcases hq with hq | hq
            · have := rw0_le (rows0 := rows0) (D.take j)
              rw [hok.lr]; omega
            · obtain ⟨i2, r2, hlt2, hi2, ho2⟩ := (ab_early hD (i' + 1) i' (by omega) r' hi').2 q hq
              rw [orw_mem] at ho2
              have h2 := (lb_step hD hi2 hi' hlt2).2
              omega
      · cases hi
    · intro u w' hpost
      obtain ⟨B, hag, hu, hm, hsz⟩ := hpost.out
      refine hK B _ w' (newInv B u w' hag (.inr hu) ?_ hsz)
      rw [hpS_set hD hj hs hsto, rwS_set hD hj hs]
      exact hm

structure Head (L : List Oper) (D : List Rec) (n : Nat) (listed : Array Bool) : Prop where
  size : listed.size = L.length
  closed : Closed D listed
  tail : ∀ t, n ≤ t → t < L.length → listed.getD t true = false

theorem not_lst {listed : Array Bool} {i : Nat} (h : i < listed.size) : listed.getD i true = false ↔ ¬ Lst listed i := by
  unfold Lst
  simp [h]

theorem fold_len : ∀ (D : List Rec) (base : List (Option (List AVal))), (D.foldl putSto base).length = base.length
  | [], base => rfl
  | r :: D, base => by
    rw [List.foldl_cons, fold_len D]
    unfold putSto
    split <;> simp
theorem fold_get : ∀ (D : List Rec) (base : List (Option (List AVal))) (l : Nat), l < base.length →
    (∃ r ∈ D, ∃ vs, r.sto = some (l, vs) ∧ nthj (D.foldl putSto base) l = some vs) ∨ ((∀ r ∈ D, ∀ vs, r.sto ≠ some (l, vs)) ∧ nthj (D.foldl putSto base) l = nthj base l)
  | [], base, l, _ => .inr ⟨fun r hr => by simp at hr, rfl⟩
  | r :: D, base, l, hl => by
    rw [List.foldl_cons]
    have hl' : l < (putSto base r).length := by unfold putSto; split <;> simpa using hl
    rcases fold_get D (putSto base r) l hl' with ⟨q, hq, vs, h1, h2⟩ | ⟨h1, h2⟩
    · exact .inl ⟨q, by simp [hq], vs, h1, h2⟩
    · cases hr : r.sto with
      | none =>
        refine .inr ⟨fun q hq vs => ?_, by rw [h2]; simp [putSto, hr]⟩
        rcases List.mem_cons.1 hq with rfl | hq
        · rw [hr]; simp
        · exact h1 q hq vs
      | some lv =>
        obtain ⟨m, vs⟩ := lv
        by_cases hm : m = l
        · subst hm
          exact .inl ⟨r, by simp, vs, hr, by rw [h2]; simp [putSto, hr, nthj_set _ _ _ hl, upd_same]⟩
        · refine .inr ⟨fun q hq ws => ?_, ?_⟩
          · rcases List.mem_cons.1 hq with rfl | hq
            · rw [hr]; intro h; cases h; exact hm rfl
            · exact h1 q hq ws
          · rw [h2]
            simp only [putSto, hr]
            rcases Nat.lt_or_ge m base.length with h | h
            · rw [nthj_set _ _ _ h, upd_ne _ _ _ (fun e => hm e.symm)]
            · rw [List.set_eq_of_length_le h]
theorem fin_len (hl : old.length = hp0.length) : (finS old D (hpOf hp0 D)).length = (hpOf hp0 D).length := by
  unfold finS
  rw [fold_len, List.length_append, List.length_drop]
  have := hp0_le (hp0 := hp0) D
  omega
theorem fin_cases (hD : HeadOk E L fr0 hp0 old rows0 D) (hl : old.length = hp0.length) {l : Nat} {c : List AVal} (h : nthj (finS old D (hpOf hp0 D)) l = some c) :
    (∃ (i : Nat) (r : Rec), D[i]? = some r ∧ r.sto = some (l, c) ∧ l < hp0.length) ∨ (l < hp0.length ∧ nthj old l = some c ∧ ∀ r ∈ D, ∀ vs, r.sto ≠ some (l, vs)) ∨ (hp0.length ≤ l ∧ nthj (hpOf hp0 D) l = some c) := by
  have hlt := nthj_lt h
  rw [fin_len hl] at hlt
  unfold finS at h
  have hbl : l < (old ++ (hpOf hp0 D).drop old.length).length := by rw [List.length_append, List.length_drop]; omega
  rcases fold_get D _ l hbl with ⟨r, hr, vs, h1, h2⟩ | ⟨h1, h2⟩
  · rw [h2] at h; cases h
    obtain ⟨i, hi⟩ := List.mem_iff_getElem?.1 hr
    obtain ⟨oc, ho⟩ := ((hD i r hi).sto l c h1).was
    exact .inl ⟨i, r, hi, h1, by rw [← hl]; exact nthj_lt ho⟩
  · rw [h2] at h
    rcases Nat.lt_or_ge l hp0.length with hlo | hlo
    · rw [nthj_append_left _ _ _ (by omega)] at h
      exact .inr (.inl ⟨hlo, h, h1⟩)
    · refine .inr (.inr ⟨hlo, ?_⟩)
      rw [nthj_eq, List.getElem?_append_right (by omega), List.getElem?_drop, show old.length + (l - old.length) = l by omega] at h
      rw [nthj_eq]; exact h

theorem draw_any (hb0 : Base E fr0 hp0 old rows0) (hc : chkRegion L n = true) (hD : HeadOk E L fr0 hp0 old rows0 D) (hlen : D.length = n) {Q : Exit → Act → World → Prop}
    (hQ : ∀ A a w, Sat E A ⟨frOf fr0 D, finS old D (hpOf hp0 D), rwOf rows0 D⟩ a w → wpList E.P L.toArray Q (L.drop n) a w) :
    ∀ (m fuel : Nat) (listed : Array Bool) (A : Asg) (a : Act) (w : World), ((List.range n).filter fun i => !listed.getD i false).length = m → fuel = m + (L.length - n) → Head L D n listed → DInv E fr0 hp0 old rows0 D listed A a w →
      wpAny E.P .any L.toArray Q fuel listed a w := by
  unfold chkRegion at hc
  simp only [Bool.and_eq_true, decide_eq_true_eq] at hc
  obtain ⟨⟨hnL, hch⟩, hct⟩ := hc
  unfold chkTail at hct
  simp only [Bool.and_eq_true, Bool.or_eq_true, beq_iff_eq] at hct
  obtain ⟨hsc, hseq⟩ := hct
  have hop : ∀ (i : Nat) (r : Rec), D[i]? = some r → L[i]? = some r.o ∧ i < n := fun i r hi => by
    have h1 := (hD i r hi).op
    have hlt := (List.getElem?_eq_some_iff.1 hi).1
    rw [List.length_take, show min i D.length = i by omega] at h1
    exact ⟨h1, by omega⟩
  intro m
  induction m with
  | zero =>
    intro fuel listed A a w hm hf hh hinv
    have hall : ∀ i, i < n → Lst listed i := fun i hi => by
      have := List.eq_nil_of_length_eq_zero hm
      rw [List.filter_eq_nil_iff] at this
      have := this i (List.mem_range.2 hi)
      unfold Lst
      simpa using this
    have hlst : listed = (List.replicate n true ++ List.replicate (L.length - n) false).toArray := by
      apply Array.ext
      · simp [hh.size]; omega
      · intro i h1 h2
        rcases Nat.lt_or_ge i n with h | h
        · have := hall i h
          unfold Lst at this
          simp [h1] at this
          simp [this, List.getElem_append, h]
        · have := hh.tail i h (by rw [← hh.size]; exact h1)
          simp [h1] at this
          simp [this, List.getElem_append, Nat.not_lt.2 h]
    have hsat : Sat E A ⟨frOf fr0 D, finS old D (hpOf hp0 D), rwOf rows0 D⟩ a w := by
      have hfl : (finS old D (hpOf hp0 D)).length = (hpOf hp0 D).length := fin_len hb0.len
      have pb : ∀ l c, nthj (hpOf hp0 D) l = some c → PB hp0 D listed l := fun l c hl => by
        rcases Nat.lt_or_ge l hp0.length with h | h
        · exact .inl h
        · -- it lies in the box of a record
          have : ∀ (D' : List Rec) (b : Nat), b ≤ D.length → D' = D.take b → ∀ l c, nthj (hpOf hp0 D') l = some c → hp0.length ≤ l → ∃ (i : Nat) (r : Rec), D[i]? = some r ∧ l ∈ r.ob := by
            intro D' b
            induction b generalizing D' with
            | zero =>
              intro _ hD' l c hl hge
              subst hD'
              have := nthj_lt hl
              simp [hpOf] at this
              omega
            | succ b ih =>
              intro hb hD' l c hl hge
              have hlt : b < D.length := by omega
              have hDb := List.getElem?_eq_getElem hlt
              subst hD'
              rw [take_snoc' hDb, hpOf_snoc] at hl
              rcases Nat.lt_or_ge l (hpOf hp0 (D.take b)).length with h' | h'
              · rw [nthj_append_left _ _ _ h'] at hl
                exact ih _ (by omega) rfl l c hl hge
              · refine ⟨b, D[b], hDb, ?_⟩
                rw [ob_mem, (hD b _ hDb).lb]
                have hl2 := nthj_lt hl
                cases hbx : D[b].eff.box with
                | none => simp [hbx, boxL] at hl2; omega
                | some c' => simp [hbx, boxL] at hl2; exact ⟨by omega, rfl⟩
          obtain ⟨i, r, hi, ho⟩ := this D D.length (Nat.le_refl _) (List.take_length).symm l c hl h
          exact .inr ⟨i, r, hall i (hop i r hi).2, hi, ho⟩
      have pr : ∀ l c, nthj (rwOf rows0 D) l = some c → PR rows0 D listed l := fun l c hl => by
        rcases Nat.lt_or_ge l rows0.length with h | h
        · exact .inl h
        · have : ∀ (D' : List Rec) (b : Nat), b ≤ D.length → D' = D.take b → ∀ l c, nthj (rwOf rows0 D') l = some c → rows0.length ≤ l → ∃ (i : Nat) (r : Rec), D[i]? = some r ∧ l ∈ r.orw := by
            intro D' b
            induction b generalizing D' with
            | zero =>
              intro _ hD' l c hl hge
              subst hD'
              have := nthj_lt hl
              simp [rwOf] at this
              omega
            | succ b ih =>
              intro hb hD' l c hl hge
              have hlt : b < D.length := by omega
              have hDb := List.getElem?_eq_getElem hlt
              subst hD'
              rw [take_snoc' hDb, rwOf_snoc] at hl
              rcases Nat.lt_or_ge l (rwOf rows0 (D.take b)).length with h' | h'
              · rw [nthj_append_left _ _ _ h'] at hl
                exact ih _ (by omega) rfl l c hl hge
              · refine ⟨b, D[b], hDb, ?_⟩
                rw [orw_mem, (hD b _ hDb).lr]
                have hl2 := nthj_lt hl
                simp at hl2
                omega
          obtain ⟨i, r, hi, ho⟩ := this D D.length (Nat.le_refl _) (List.take_length).symm l c hl h
          exact .inr ⟨i, r, hall i (hop i r hi).2, hi, ho⟩
      have ehp : ∀ l c, nthj (finS old D (hpOf hp0 D)) l = some c → hpS hp0 old D listed l = some c := fun l c hl => by
        rcases fin_cases hD hb0.len hl with ⟨i, r, hi, hr, hlt⟩ | ⟨hlt, ho, hno⟩ | ⟨hge, hn⟩
        · unfold hpS
          rw [if_pos hlt, stoF_some hD (hall i (hop i r hi).2) hi hr]
        · unfold hpS
          rw [if_pos hlt, stoF_none (fun i q v _ h2 h3 => hno q (List.mem_iff_getElem?.2 ⟨i, h2⟩) v h3)]
          exact ho
        · unfold hpS
          rw [if_neg (by omega), if_pos (pb l c hn)]
          exact hn
      have erw : ∀ l c, nthj (rwOf rows0 D) l = some c → rwS rows0 D listed l = some c := fun l c hl => by unfold rwS; rw [if_pos (pr l c hl)]; exact hl
      -- whatever a record tells lies below the last levels
      have lvls : ∀ (i : Nat) (r : Rec), D[i]? = some r → (∀ l ∈ r.ob, l < (hpOf hp0 D).length) ∧ (∀ l ∈ r.orw, l < (rwOf rows0 D).length) := fun i r hi => by
        constructor
        · intro l hl
          rw [ob_mem] at hl
          obtain ⟨rfl, hb⟩ := hl
          cases hbx : r.eff.box with
          | none => rw [hbx] at hb; cases hb
          | some c => exact nthj_lt (box_at hD hi hbx)
        · intro l hl
          rw [orw_mem] at hl
          have hlt : l - r.lr < r.eff.rows.length := by omega
          have := nthj_lt (row_at hD hi (List.getElem?_eq_getElem hlt))
          omega
      have up : ∀ {eb er : List Nat}, (∀ l ∈ eb, PB hp0 D listed l) → (∀ l ∈ er, PR rows0 D listed l) → (∀ l ∈ eb, l < (hpOf hp0 D).length) ∧ (∀ l ∈ er, l < (rwOf rows0 D).length) := fun {eb er} h1 h2 => by
        constructor
        · intro l hl
          rcases h1 l hl with h | ⟨i, r, _, hi, ho⟩
          · exact Nat.lt_of_lt_of_le h (hp0_le D)
          · exact (lvls i r hi).1 l ho
        · intro l hl
          rcases h2 l hl with h | ⟨i, r, _, hi, ho⟩
          · exact Nat.lt_of_lt_of_le h (rw0_le D)
          · exact (lvls i r hi).2 l ho
      exact {
        defers := hinv.defers
        size := by rw [frOf_len]; exact hinv.size
        fr := fun t x hx => by
          have htl : t < fr0.length := by have := (List.getElem?_eq_some_iff.1 hx).1; rwa [frOf_len] at this
          by_cases hex : ∃ (i : Nat) (r : Rec), D[i]? = some r ∧ r.o.dst = some t
          · obtain ⟨i, r, hi, hd⟩ := hex
            obtain ⟨hLi, hin⟩ := hop i r hi
            rw [frOf_hit fr0 D i t r hi hd (fun i2 r2 h2 hne hd2 => (chkHead_spec hch (hop i2 r2 h2).2 hin hne.symm (hop i2 r2 h2).1 hLi hd).2 hd2) htl] at hx
            cases hx
            exact hinv.set i r (hall i hin) hi t hd htl
          · rw [frOf_get fr0 D t (fun r hr hd => by
              obtain ⟨i, hi⟩ := List.mem_iff_getElem?.1 hr
              exact hex ⟨i, r, hi, hd⟩)] at hx
            exact hinv.old t x hx (fun i r _ hi hd => hex ⟨i, r, hi, hd⟩)
        sc := fun t x hx => by
          have htl : t < fr0.length := by have := (List.getElem?_eq_some_iff.1 hx).1; rwa [frOf_len] at this
          show x.sc (finS old D (hpOf hp0 D)).length [] (rwOf rows0 D).length [] = true
          rw [hfl]
          by_cases hex : ∃ (i : Nat) (r : Rec), D[i]? = some r ∧ r.o.dst = some t
          · obtain ⟨i, r, hi, hd⟩ := hex
            obtain ⟨hLi, hin⟩ := hop i r hi
            rw [frOf_hit fr0 D i t r hi hd (fun i2 r2 h2 hne hd2 => (chkHead_spec hch (hop i2 r2 h2).2 hin hne.symm (hop i2 r2 h2).1 hLi hd).2 hd2) htl] at hx
            cases hx
            have hpres := ab_pres hD hh.closed (i + 1) i (by omega) r hi (hh.closed i r (hall i hin) hi)
            obtain ⟨u1, u2⟩ := up hpres.1 hpres.2
            exact AVal.sc_up (hp0_le D) (fun l hl => by
              rcases List.mem_append.1 hl with hl | hl
              · exact (lvls i r hi).1 l hl
              · exact u1 l hl) (rw0_le D) (fun l hl => by
              rcases List.mem_append.1 hl with hl | hl
              · exact (lvls i r hi).2 l hl
              · exact u2 l hl) _ (hD i r hi).sc
          · rw [frOf_get fr0 D t (fun r hr hd => by
              obtain ⟨i, hi⟩ := List.mem_iff_getElem?.1 hr
              exact hex ⟨i, r, hi, hd⟩)] at hx
            exact AVal.sc_mono (hp0_le D) (rw0_le D) x (hb0.fr t x hx)
        hsc := fun l c hl => by
          show scs (finS old D (hpOf hp0 D)).length [] (rwOf rows0 D).length [] c = true
          rw [hfl]
          rcases fin_cases hD hb0.len hl with ⟨i, r, hi, hr, hlt⟩ | ⟨hlt, ho, hno⟩ | ⟨hge, hl⟩
          · exact scs_mono (hp0_le D) (rw0_le D) c ((hD i r hi).sto _ _ hr).sc
          · exact scs_mono (hp0_le D) (rw0_le D) c (hb0.hp l c ho)
          rcases pb l c hl with h | ⟨i, r, _, hi, ho⟩
          · omega
          · rw [ob_mem] at ho
            obtain ⟨rfl, hb⟩ := ho
            cases hbx : r.eff.box with
            | none => rw [hbx] at hb; cases hb
            | some c' =>
              rw [box_at hD hi hbx] at hl
              cases hl
              have hpres := ab_pres hD hh.closed (i + 1) i (by omega) r hi (hh.closed i r (hall i (hop i r hi).2) hi)
              obtain ⟨u1, u2⟩ := up hpres.1 hpres.2
              exact scs_up (hp0_le D) u1 (rw0_le D) u2 c ((hD i r hi).bsc c hbx)
        mem := hinv.mem.sub ehp erw
        klt := hinv.klt
        n0 := Nat.le_trans hb0.n0 (rw0_le D)
        b0 := by
          show E.b0 ≤ (finS old D (hpOf hp0 D)).length
          rw [hfl]; exact Nat.le_trans hb0.b0 (hp0_le D) }
    have := wpAny_of_seq (P := E.P) (md := .any) (ops := L.toArray) (Q' := Q) (L.drop n) n listed a w (fun i => by simp [List.getElem?_drop]) (by rw [List.length_drop, hlst]; exact hseq) (hQ A a w hsat)
    rw [List.length_drop] at this
    rw [hf, Nat.zero_add]
    exact this
  | succ m ih =>
    intro fuel listed A a w hm hf hh hinv
    obtain ⟨fuel, rfl⟩ : ∃ f, fuel = f + 1 := ⟨fuel - 1, by omega⟩
    -- somebody in the head has not come up: the least one may
    have hex : ∃ i, i < n ∧ ¬ Lst listed i := by
      have hne : ((List.range n).filter fun i => !listed.getD i false) ≠ [] := fun e => by rw [e] at hm; cases hm
      obtain ⟨i, hi⟩ := List.exists_mem_of_ne_nil _ hne
      rw [List.mem_filter] at hi
      exact ⟨i, List.mem_range.1 hi.1, by unfold Lst; simpa using hi.2⟩
    have hready : ∀ i, i ∈ Region.ready .any L.toArray listed ↔ listed.getD i true = false ∧ ∃ o, L[i]? = some o ∧ ∀ e ∈ o.after.toList, bindsAny e = true → Lst listed e.on := fun i => by
      rw [mem_ready]
      constructor
      · rintro ⟨h1, o, h2, h3⟩
        exact ⟨h1, o, by simpa using h2, fun e he hb => h3 e (by simpa using he) (by rw [bindsAny_eq]; exact hb)⟩
      · rintro ⟨h1, o, h2, h3⟩
        exact ⟨h1, o, by simpa using h2, fun e he hb => h3 e (by simpa using he) (by rw [← bindsAny_eq]; exact hb)⟩
    have hleast : ∃ i, i < n ∧ i ∈ Region.ready .any L.toArray listed := by
      obtain ⟨i, hi, hmin⟩ := exists_least hex
      refine ⟨i, hi.1, (hready i).2 ⟨(not_lst (by rw [hh.size]; omega)).2 hi.2, ?_⟩⟩
      have hil : i < L.length := by omega
      refine ⟨L[i], List.getElem?_eq_getElem hil, fun e he hb => ?_⟩
      have hlt := chkHead_edge hch hi.1 (List.getElem?_eq_getElem hil) he hb
      by_cases hl : Lst listed e.on
      · exact hl
      · have := hmin e.on ⟨by omega, hl⟩; omega
    refine ⟨fun h0 => ?_, fun i hi => ?_⟩
    · obtain ⟨i, _, hi⟩ := hleast
      rw [h0] at hi; cases hi
    · -- whoever comes up is of the head
      have hin : i < n := by
        rcases Nat.lt_or_ge i n with h | h
        · exact h
        · rcases hsc with hsc | ⟨hs1, hs2⟩
          · obtain ⟨_, o, ho, _⟩ := (hready i).1 hi
            have := (List.getElem?_eq_some_iff.1 ho).1
            omega
          · obtain ⟨i0, hi0, hn0⟩ := hex
            have hilt : i < L.length := by
              obtain ⟨_, o, ho, _⟩ := (hready i).1 hi
              exact (List.getElem?_eq_some_iff.1 ho).1
            have hinvH : HeadInv .any L.toArray n listed := ⟨by simpa using hh.size, fun j oj hj hl e he hb => by
              have hj' : L[j]? = some oj := by simpa using hj
              have hjl := (List.getElem?_eq_some_iff.1 hj').1
              have hjn : j < n := by
                rcases Nat.lt_or_ge j n with h' | h'
                · exact h'
                · have := hh.tail j h' hjl
                  rw [not_lst (by rw [hh.size]; exact hjl)] at this
                  exact absurd hl this
              obtain ⟨r, hr⟩ : ∃ r, D[j]? = some r := ⟨D[j]'(by omega), List.getElem?_eq_getElem (by omega)⟩
              have := (hop j r hr).1
              rw [hj'] at this
              cases this
              exact hh.closed j r hl hr e (by simpa using he) (by rw [← bindsAny_eq]; exact hb), fun t h1 h2 => hh.tail t h1 (by simpa using h2)⟩
            exact absurd hi (tail_waits hs1 hs2 (by simp; omega) hinvH _ i0 rfl hi0 ((not_lst (by rw [hh.size]; omega)).2 hn0) i h)
      obtain ⟨r, hr⟩ : ∃ r, D[i]? = some r := ⟨D[i]'(by omega), List.getElem?_eq_getElem (by omega)⟩
      obtain ⟨hnl, o, ho, hdep⟩ := (hready i).1 hi
      have hsz : i < listed.size := by rw [hh.size]; omega
      rw [not_lst hsz] at hnl
      have := (hop i r hr).1
      rw [ho] at this
      cases this
      refine step hb0 hch hD hlen hinv hh.closed hsz hnl hr hdep (fun A' a' w' hinv' => ih fuel _ A' a' w' ?_ (by omega) ?_ hinv')
      · -- one less
        have key : ∀ l : List Nat, l.Nodup → i ∈ l → ((l.filter fun x => !(listed.setIfInBounds i true).getD x false).length + 1 = (l.filter fun x => !listed.getD x false).length) := by
          intro l
          induction l with
          | nil => intro _ h; simp at h
          | cons x l ihl =>
            intro hnd hmem
            rw [List.nodup_cons] at hnd
            by_cases hx : x = i
            · subst hx
              have e1 : (listed.setIfInBounds x true).getD x false = true := by simp [hsz]
              have e2 : listed.getD x false = false := by unfold Lst at hnl; simpa using hnl
              have e3 : (l.filter fun y => !(listed.setIfInBounds x true).getD y false) = l.filter fun y => !listed.getD y false := by
                apply List.filter_congr
                intro y hy
                have : x ≠ y := fun e => hnd.1 (e ▸ hy)
                rw [getD_set_ne false this]
              rw [List.filter_cons, List.filter_cons, e1, e2, e3]
              simp
            · have hil : i ∈ l := by
                rcases List.mem_cons.1 hmem with h | h
                · exact absurd h.symm hx
                · exact h
              have := ihl hnd.2 hil
              have e1 : (listed.setIfInBounds i true).getD x false = listed.getD x false := getD_set_ne false (fun e => hx e.symm)
              rw [List.filter_cons, List.filter_cons, e1]
              cases listed.getD x false with
              | false => simp only [Bool.not_false, if_true, List.length_cons]; omega
              | true => simp only [Bool.not_true, Bool.false_eq_true, if_false]; omega
        have := key (List.range n) List.nodup_range (List.mem_range.2 hin)
        omega
      · refine ⟨by simp [hh.size], fun j r' hl hj e he hb => ?_, fun t h1 h2 => by rw [getD_set_ne true (by omega)]; exact hh.tail t h1 h2⟩
        rw [Lst_set hsz] at hl ⊢
        rcases hl with rfl | hl
        · rw [hr] at hj; cases hj
          exact .inr (hdep e he hb)
        · exact .inr (hh.closed j r' hl hj e he hb)

theorem V_drawG {T : TypeId → Option TInfo} {G : List (FuncId × Ctr)} (hT : TOk E.P T) (hG : GOk E.P G) (hm : E.P.follows .mixedOrders = true) (n : Nat) (hc : chkRegion L n = true) {id : Nat} {fr : List AVal} {hp hq : List (Option (List AVal))} {rows : List (Option Row)}
    {kN : St → Prop} {kE : Nat → St → Prop} {kR : St → Prop} {kk : List Rec → St → Prop} (hln : hp.length = hq.length) (hsub : ∀ i cs, nthj hq i = some cs → nthj hp i = some cs)
    (hkk : ∀ D, HeadOk E L fr hq hp rows D → kk D ⟨frOf fr D, hpOf hq D, rwOf rows D⟩ → vcOps E T G L (L.drop n) ⟨frOf fr D, finS hp D (hpOf hq D), rwOf rows D⟩ kN)
    (h : headRun T G L hq.length rows.length E.b0 hq hp (L.take n) [] fr hq rows kk) : V E (.region id L.toArray true) kN kE kR ⟨fr, hp, rows⟩ := ⟨fun Q h1 h2 h3 A a w hs => by
  have hnL : n ≤ L.length := by
    unfold chkRegion at hc
    simp only [Bool.and_eq_true, decide_eq_true_eq] at hc
    exact hc.1.1
  have hlt : (L.take n).length = n := by simp; omega
  have h' : headRun T G L hq.length rows.length E.b0 hq hp (L.take n) [] (frOf fr []) (hpOf hq []) (rwOf rows []) kk := by
    simpa [frOf, hpOf, rwOf] using h
  obtain ⟨D, hD, hlen, hk⟩ := headRun_spec hT hG (L.take n) [] (fun i r hi => by simp at hi) (fun j hj => by
    rw [hlt] at hj
    simp [List.getElem?_take, hj]) h'
  rw [hlt, List.length_nil, Nat.zero_add] at hlen
  refine wp_region_any hm ?_
  have hvo := vcOps_sound hT hG _ _ _ (hkk D hD hk)
  have hl0 : ∀ i, ¬ Lst (Array.replicate L.toArray.size false) i := fun i => by
    unfold Lst
    rw [getD_replicate_false]
    simp
  refine draw_any (hp0 := hq) (old := hp) ⟨by rw [← hln]; exact hs.sc, hln, hsub, by rw [← hln]; exact hs.hsc, hs.n0, by rw [← hln]; exact hs.b0⟩ hc hD hlen (fun A a w hs' => hvo.out Q h1 A a w hs') n L.toArray.size (Array.replicate L.toArray.size false) A a _ ?_ (by simp; omega) ?_ ?_
  · have : ((List.range n).filter fun i => !(Array.replicate L.toArray.size false).getD i false) = List.range n := by
      rw [List.filter_eq_self]
      intro i _
      rw [getD_replicate_false]; rfl
    rw [this, List.length_range]
  · exact ⟨by simp, fun j r hl => absurd hl (hl0 j), fun t h1 h2 => by simp [h2]⟩
  · have hpb : hpS hq hp D (Array.replicate L.toArray.size false) = nthj hp := by
      funext l
      unfold hpS
      rcases Nat.lt_or_ge l hq.length with hl | hl
      · rw [if_pos hl, stoF_none (fun i q v h _ _ => hl0 i h)]
      · rw [if_neg (by omega), nthj_none (l := hp) (by omega), if_neg]
        rintro (h | ⟨j, r, h, _⟩)
        · omega
        · exact hl0 j h
    have hpr : rwS rows D (Array.replicate L.toArray.size false) = nthj rows := by
      funext l
      unfold rwS
      rcases Nat.lt_or_ge l rows.length with hl | hl
      · rw [if_pos (.inl hl), nthj_rw0 hl]
      · rw [if_neg, nthj_none hl]
        rintro (h | ⟨j, r, h, _⟩)
        · omega
        · exact hl0 j h
    exact {
      defers := hs.defers
      size := hs.size
      set := fun j r hl => absurd hl (hl0 j)
      old := fun t x hx _ => hs.fr t x hx
      mem := by
        rw [hpb, hpr]
        exact hs.mem.grow ⟨rfl, rfl, rfl, Nat.le_refl _, fun _ _ => rfl⟩ hs.klt
      klt := hs.klt }⟩

theorem fold_id : ∀ (D : List Rec) (base : List (Option (List AVal))), (∀ r ∈ D, r.sto = none) → D.foldl putSto base = base
  | [], base, _ => rfl
  | r :: D, base, h => by
    rw [List.foldl_cons, show putSto base r = base by unfold putSto; rw [h r (by simp)]]
    exact fold_id D base (fun q hq => h q (by simp [hq]))

theorem V_draw {T : TypeId → Option TInfo} {G : List (FuncId × Ctr)} (hT : TOk E.P T) (hG : GOk E.P G) (hm : E.P.follows .mixedOrders = true) (n : Nat) (hc : chkRegion L n = true) {id : Nat} {fr : List AVal} {hp : List (Option (List AVal))} {rows : List (Option Row)}
    {kN : St → Prop} {kE : Nat → St → Prop} {kR : St → Prop}
    (h : lenK hp fun nb => lenK rows fun nr => headRun T G L nb nr E.b0 hp hp (L.take n) [] fr hp rows fun _ σ => vcOps E T G L (L.drop n) σ kN) : V E (.region id L.toArray true) kN kE kR ⟨fr, hp, rows⟩ := by
  simp only [lenK_eq] at h
  refine V_drawG hT hG hm n hc rfl (fun i cs h => h) (fun D hD hk => ?_) h
  have hno : ∀ r ∈ D, r.sto = none := fun r hr => by
    obtain ⟨i, hi⟩ := List.mem_iff_getElem?.1 hr
    cases hs : r.sto with
    | none => rfl
    | some lv =>
      have hst := (hD i r hi).sto lv.1 lv.2 hs
      obtain ⟨oc, ho⟩ := hst.was
      rw [hst.gone] at ho; cases ho
  have : finS hp D (hpOf hp D) = hpOf hp D := by
    unfold finS
    rw [fold_id D _ hno]
    unfold hpOf
    rw [List.drop_left]
  rw [this]
  exact hk

/-- Operations that may stand in the head. -/
def headable (G : List (FuncId × Ctr)) : Op → Bool
  | .store _ _ _ | .call { callee := .builtin .append, .. } | .call { callee := .builtin .copy, .. } | .call { callee := .builtin .clear, .. } => false
  | .call { callee := .value (.func f), .. } => match look G f with | some (.m _) => false | _ => true
  | _ => true
def autoN (G : List (FuncId × Ctr)) : List Oper → Nat
  | [] => 0
  | o :: l => match headable G o.op with | true => autoN G l + 1 | false => 0
def splitH (G : List (FuncId × Ctr)) : List Oper → (List Oper → List Oper → Prop) → Prop
  | [], k => k [] []
  | o :: l, k => match headable G o.op with | true => splitH G l fun x y => k (o :: x) y | false => k [] (o :: l)
theorem splitH_eq (G : List (FuncId × Ctr)) : ∀ (l : List Oper) (k : List Oper → List Oper → Prop), splitH G l k = k (l.take (autoN G l)) (l.drop (autoN G l))
  | [], k => rfl
  | o :: l, k => by
    simp only [splitH, autoN]
    cases h : headable G o.op
    · rfl
    · simp only [splitH_eq G l]; rfl

theorem V_drawA {T : TypeId → Option TInfo} {G : List (FuncId × Ctr)} (hT : TOk E.P T) (hG : GOk E.P G) (hm : E.P.follows .mixedOrders = true) (hc : chkRegion L (autoN G L) = true) {id : Nat} {fr : List AVal} {hp : List (Option (List AVal))} {rows : List (Option Row)}
    {kN : St → Prop} {kE : Nat → St → Prop} {kR : St → Prop}
    (h : splitH G L fun x y => lenK hp fun nb => lenK rows fun nr => headRun T G L nb nr E.b0 hp hp x [] fr hp rows fun _ σ => vcOps E T G L y σ kN) : V E (.region id L.toArray true) kN kE kR ⟨fr, hp, rows⟩ :=
  V_draw hT hG hm (autoN G L) hc (by rw [splitH_eq] at h; exact h)

/-! ### stores into old boxes in the head -/
/-- The level of the box that a store goes to. -/
def stoAt (fr : List AVal) : Op → Option Nat
  | .store _ x _ => match ev fr x with
    | some (.loc l 0) => some l
    | _ => none
  | _ => none
def headableS (G : List (FuncId × Ctr)) (fr : List AVal) (o : Op) : Bool := match stoAt fr o with | some _ => true | none => headable G o
def autoNS (G : List (FuncId × Ctr)) (fr : List AVal) : List Oper → Nat
  | [] => 0
  | o :: l => match headableS G fr o.op with | true => autoNS G fr l + 1 | false => 0
def splitS (G : List (FuncId × Ctr)) (fr : List AVal) : List Oper → (List Oper → List Oper → Prop) → Prop
  | [], k => k [] []
  | o :: l, k => match headableS G fr o.op with | true => splitS G fr l fun x y => k (o :: x) y | false => k [] (o :: l)
theorem splitS_eq (G : List (FuncId × Ctr)) (fr : List AVal) : ∀ (l : List Oper) (k : List Oper → List Oper → Prop), splitS G fr l k = k (l.take (autoNS G fr l)) (l.drop (autoNS G fr l))
  | [], k => rfl
  | o :: l, k => by
    simp only [splitS, autoNS]
    cases h : headableS G fr o.op
    · rfl
    · simp only [splitS_eq G fr l]; rfl
/-- the boxes without those that the head stores to -/
def goneK (fr : List AVal) : List Oper → List (Option (List AVal)) → (List (Option (List AVal)) → Prop) → Prop
  | [], hp, k => k hp
  | o :: l, hp, k => match stoAt fr o.op with
    | some i => setK hp i none fun hp' => goneK fr l hp' k
    | none => goneK fr l hp k
theorem goneK_eq (fr : List AVal) : ∀ (l : List Oper) (hp : List (Option (List AVal))) (k : List (Option (List AVal)) → Prop), goneK fr l hp k → ∃ hq, hq.length = hp.length ∧ (∀ i cs, nthj hq i = some cs → nthj hp i = some cs) ∧ k hq
  | [], hp, k, h => ⟨hp, rfl, fun i cs h => h, h⟩
  | o :: l, hp, k, h => by
    simp only [goneK] at h
    split at h
    · rename_i i hi
      rw [setK_eq] at h
      obtain ⟨hq, h1, h2, h3⟩ := goneK_eq fr l _ k h
      refine ⟨hq, by rw [h1, List.length_set], fun j cs hj => ?_, h3⟩
      have := h2 j cs hj
      rw [nthj_eq, List.getElem?_set] at this
      rw [nthj_eq]
      split at this
      · split at this <;> simp at this
      · exact this
    · exact goneK_eq fr l hp k h

theorem V_drawS {T : TypeId → Option TInfo} {G : List (FuncId × Ctr)} (hT : TOk E.P T) (hG : GOk E.P G) (hm : E.P.follows .mixedOrders = true) {id : Nat} {fr : List AVal} (hc : chkRegion L (autoNS G fr L) = true) {hp : List (Option (List AVal))} {rows : List (Option Row)}
    {kN : St → Prop} {kE : Nat → St → Prop} {kR : St → Prop}
    (h : splitS G fr L fun x y => goneK fr x hp fun hq => lenK hq fun nb => lenK rows fun nr => headRun T G L nb nr E.b0 hq hp x [] fr hq rows fun D σ => match σ with
      | ⟨fr', hp', rows'⟩ => dropK hp hp' fun tl => appK hp tl fun hp1 => stoK D hp1 fun hp2 => vcOps E T G L y ⟨fr', hp2, rows'⟩ kN) : V E (.region id L.toArray true) kN kE kR ⟨fr, hp, rows⟩ := by
  rw [splitS_eq] at h
  obtain ⟨hq, h1, h2, h3⟩ := goneK_eq fr _ _ _ h
  simp only [lenK_eq] at h3
  refine V_drawG hT hG hm (autoNS G fr L) hc h1.symm h2 (fun D hD hk => ?_) h3
  simp only [dropK_eq, appK_eq, stoK_eq] at hk
  exact hk

end
end Go.Proofs.Ytlplngafncobkaa.Fw
