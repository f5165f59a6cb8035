/- A region that draws its order, some operations of which float: they may stand anywhere among the others, which stand in their order. -/
import Derived.Test.YtmbfflckgmdncaaGE
namespace Go.Proofs.Ytmbfflckgmdncaa.Fw
open Go Go.RowKit
set_option linter.unusedVariables false
set_option linter.unusedSimpArgs false

/-- what an operation that floats gives is what stands in its slot already -/
def allFl (E : Env) (T : TypeId → Option TInfo) (L : List Oper) : List Oper → St → Prop
  | [], _ => True
  | f :: fs, ⟨fr, hp, rows⟩ => vcOne E T [] L [] f fr hp rows (fun _ => False) (fun σ' => σ' = ⟨fr, hp, rows⟩) ∧ allFl E T L fs ⟨fr, hp, rows⟩
def vcFl (E : Env) (T : TypeId → Option TInfo) (G : List (FuncId × Ctr)) (L fs : List Oper) : List Oper → St → (St → Prop) → Prop
  | [], σ, kN => allFl E T L fs σ ∧ kN σ
  | c :: cs, ⟨fr, hp, rows⟩, kN => allFl E T L fs ⟨fr, hp, rows⟩ ∧ vcOne E T G L [] c fr hp rows (fun _ => False) (fun σ' => vcFl E T G L fs cs σ' kN)
theorem allFl_mem {E : Env} {T : TypeId → Option TInfo} {L : List Oper} {fr : List AVal} {hp : List (Option (List AVal))} {rows : List (Option Row)} : ∀ {fs : List Oper}, allFl E T L fs ⟨fr, hp, rows⟩ → ∀ f ∈ fs, vcOne E T [] L [] f fr hp rows (fun _ => False) (fun σ' => σ' = ⟨fr, hp, rows⟩)
  | [], _, f, hf => by simp at hf
  | g :: fs, h, f, hf => by
    rcases List.mem_cons.1 hf with rfl | hf
    · exact h.1
    · exact allFl_mem h.2 f hf
theorem vcFl_all {E : Env} {T : TypeId → Option TInfo} {G : List (FuncId × Ctr)} {L fs cs : List Oper} {σ : St} {kN : St → Prop} (h : vcFl E T G L fs cs σ kN) : allFl E T L fs σ := by
  cases cs with
  | nil => exact h.1
  | cons c cs => exact h.1
/-- those that float, those that do not -/
def pickF : List Bool → List Oper → Bool → List Oper
  | b :: F, o :: L, x => match b == x with | true => o :: pickF F L x | false => pickF F L x
  | _, _, _ => []
theorem pickF_mem : ∀ {F : List Bool} {L : List Oper} {x : Bool} {i : Nat} {o : Oper}, F[i]? = some x → L[i]? = some o → o ∈ pickF F L x
  | [], L, x, i, o, h, _ => by simp at h
  | b :: F, [], x, i, o, _, h => by simp at h
  | b :: F, o' :: L, x, 0, o, h1, h2 => by
    simp at h1 h2
    subst h1; subst h2
    simp [pickF]
  | b :: F, o' :: L, x, i + 1, o, h1, h2 => by
    have := pickF_mem (F := F) (L := L) (x := x) (i := i) (o := o) (by simpa using h1) (by simpa using h2)
    simp only [pickF]
    split
    · exact List.mem_cons_of_mem _ this
    · exact this
/-- no chain operation from n to i: what is left of the chain at n begins with i -/
theorem pickF_at : ∀ {F : List Bool} {L : List Oper} {i : Nat} {o : Oper}, (∀ j, j < i → F[j]? ≠ some false) → F[i]? = some false → L[i]? = some o → pickF F L false = o :: pickF (F.drop (i + 1)) (L.drop (i + 1)) false
  | [], L, i, o, _, h, _ => by simp at h
  | b :: F, [], i, o, _, _, h => by simp at h
  | b :: F, o' :: L, 0, o, _, h1, h2 => by
    simp at h1 h2
    subst h1; subst h2
    simp [pickF]
  | b :: F, o' :: L, i + 1, o, hj, h1, h2 => by
    have hb : b = true := by
      have := hj 0 (by omega)
      simpa using this
    subst hb
    simp only [pickF, List.drop_succ_cons]
    exact pickF_at (fun j h => by simpa using hj (j + 1) (by omega)) (by simpa using h1) (by simpa using h2)
theorem pickF_none : ∀ {F : List Bool} {L : List Oper}, (∀ j, j < L.length → F[j]? ≠ some false) → pickF F L false = []
  | [], L, _ => by simp [pickF]
  | b :: F, [], _ => by simp [pickF]
  | b :: F, o :: L, hj => by
    have hb : b = true := by
      have := hj 0 (by simp)
      simpa using this
    subst hb
    simp only [pickF]
    exact pickF_none (fun j h => by simpa using hj (j + 1) (by simpa using h))

def isSel : Op → Bool
  | .select _ _ => true
  | _ => false
/-- the last chain operation ahead of an index -/
def prevC (F : List Bool) : Nat → Option Nat
  | 0 => none
  | i + 1 => match F.getD i true with | false => some i | true => prevC F i
theorem prevC_some {F : List Bool} : ∀ {i p : Nat}, prevC F i = some p → p < i ∧ F.getD p true = false ∧ ∀ j, p < j → j < i → F.getD j true = true
  | 0, p, h => by cases h
  | i + 1, p, h => by
    unfold prevC at h
    split at h
    · rename_i hf
      cases h
      exact ⟨Nat.lt_succ_self _, hf, fun j h1 h2 => by omega⟩
    · rename_i hf
      obtain ⟨h1, h2, h3⟩ := prevC_some h
      refine ⟨by omega, h2, fun j h4 h5 => ?_⟩
      rcases Nat.lt_or_ge j i with h | h
      · exact h3 j h4 h
      · obtain rfl : j = i := by omega
        exact hf
theorem prevC_none {F : List Bool} : ∀ {i : Nat}, prevC F i = none → ∀ j, j < i → F.getD j true = true
  | 0, _, j, h => by omega
  | i + 1, h, j, hj => by
    unfold prevC at h
    split at h
    · cases h
    · rename_i hf
      rcases Nat.lt_or_ge j i with h' | h'
      · exact prevC_none h j h'
      · obtain rfl : j = i := by omega
        exact hf
def chkFloat (L : List Oper) (F : List Bool) : Bool :=
  decide (F.length = L.length) && (List.range L.length).all fun i => match L[i]? with
    | none => false
    | some oi => (match oi.guard with | none => true | some _ => false) && !isSel oi.op && (oi.after.toList.all fun e => !bindsAny e || decide (e.on < i)) &&
      (F.getD i true || (match prevC F i with | some p => edgeTo oi p | none => true)) &&
      (List.range L.length).all fun j => match L[j]? with
        | none => false
        | some oj => (match oj.dst with
          | none => true
          | some t => (match F.getD j true with
            | true => (!(oi.looksAt L.toArray).contains t || edgeTo oi j)
            | false => !F.getD i true || !(oi.looksAt L.toArray).contains t))

section
variable {E : Env} {T : TypeId → Option TInfo} {G : List (FuncId × Ctr)} {L : List Oper} {F : List Bool} {kN : St → Prop} {Q : Exit → Act → World → Prop}

structure ChkF (L : List Oper) (F : List Bool) : Prop where
  len : F.length = L.length
  one : ∀ (i : Nat) (oi : Oper), L[i]? = some oi → oi.guard = none ∧ isSel oi.op = false ∧ (∀ e ∈ oi.after.toList, bindsAny e = true → e.on < i) ∧ (F.getD i true = false → ∀ p, prevC F i = some p → ∃ e ∈ oi.after.toList, bindsAny e = true ∧ e.on = p)
  look : ∀ (i : Nat) (oi : Oper) (j : Nat) (oj : Oper) (t : Nat), L[i]? = some oi → L[j]? = some oj → oj.dst = some t → F.getD j true = true → t ∈ oi.looksAt L.toArray → ∃ e ∈ oi.after.toList, bindsAny e = true ∧ e.on = j
theorem edgeTo_inv {o : Oper} {x : Nat} (hx : edgeTo o x = true) : ∃ e ∈ o.after.toList, bindsAny e = true ∧ e.on = x := by
  unfold edgeTo at hx
  obtain ⟨e, he, hb⟩ := List.any_eq_true.1 hx
  simp only [Bool.and_eq_true, beq_iff_eq] at hb
  exact ⟨e, he, hb.1, hb.2⟩
theorem chkFloat_spec (h : chkFloat L F = true) : ChkF L F := by
  unfold chkFloat at h
  simp only [Bool.and_eq_true, decide_eq_true_eq] at h
  obtain ⟨hl, h⟩ := h
  have key : ∀ i oi, L[i]? = some oi → _ := fun i oi hi => by
    have := List.all_eq_true.1 h i (List.mem_range.2 (List.getElem?_eq_some_iff.1 hi).1)
    rw [hi] at this
    exact this
  refine ⟨hl, fun i oi hi => ?_, fun i oi j oj t hi hj hd hF hm => ?_⟩
  · have h1 := key i oi hi
    simp only [Bool.and_eq_true] at h1
    obtain ⟨⟨⟨⟨h1, h2⟩, h3⟩, h4⟩, _⟩ := h1
    refine ⟨?_, by simpa using h2, fun e he hb => ?_, fun hF p hp => ?_⟩
    · cases hg : oi.guard with
      | none => rfl
      | some g => rw [hg] at h1; cases h1
    · have := List.all_eq_true.1 h3 e he
      simpa [hb] using this
    · rw [hF, hp] at h4
      exact edgeTo_inv (by simpa using h4)
  · have h1 := key i oi hi
    simp only [Bool.and_eq_true] at h1
    have h2 := List.all_eq_true.1 h1.2 j (List.mem_range.2 (List.getElem?_eq_some_iff.1 hj).1)
    rw [hj] at h2
    simp only [hd, hF] at h2
    have hc : (oi.looksAt L.toArray).contains t = true := by simpa using hm
    rw [hc] at h2
    exact edgeTo_inv (by simpa using h2)

/-- the slots whose operations have not come up -/
def unF (L : List Oper) (F : List Bool) (listed : Array Bool) (t : Nat) : Prop := ∃ j oj, L[j]? = some oj ∧ F.getD j true = true ∧ ¬ Lst listed j ∧ oj.dst = some t
structure FlInv (E : Env) (T : TypeId → Option TInfo) (G : List (FuncId × Ctr)) (L : List Oper) (F : List Bool) (kN : St → Prop) (listed : Array Bool) (a : Act) (w : World) (n : Nat) (b : Act) : Prop where
  run : ∃ A σ, vcFl E T G L (pickF F L true) (pickF (F.drop n) (L.drop n) false) σ kN ∧ Sat E A σ b w
  sz : a.tmps.size = b.tmps.size
  df : a.defers = b.defers
  eq : ∀ t, ¬ unF L F listed t → a.tmps.getD t undef = b.tmps.getD t undef
  ch : ∀ i, i < L.length → F.getD i true = false → (Lst listed i ↔ i < n)
theorem put_size (a : Act) (d : Option Tmp) (v : Value) : (a.put d v).tmps.size = a.tmps.size := by unfold Act.put; split <;> simp
theorem put_defers (a : Act) (d : Option Tmp) (v : Value) : (a.put d v).defers = a.defers := by unfold Act.put; split <;> rfl
theorem put_getD {a b : Act} (d : Option Tmp) (v : Value) (hs : a.tmps.size = b.tmps.size) (t : Nat) (h : d = some t ∨ a.tmps.getD t undef = b.tmps.getD t undef) : (a.put d v).tmps.getD t undef = (b.put d v).tmps.getD t undef := by
  unfold Act.put
  cases d with
  | none =>
    rcases h with h | h
    · cases h
    · exact h
  | some d =>
    simp only [Array.getD_eq_getD_getElem?]
    by_cases hd : d = t
    · subst hd
      by_cases hlt : d < a.tmps.size
      · have hlt' : d < b.tmps.size := hs ▸ hlt
        rw [Array.getElem?_setIfInBounds_self_of_lt hlt, Array.getElem?_setIfInBounds_self_of_lt hlt']
      · have hlt' : ¬ d < b.tmps.size := hs ▸ hlt
        rw [Array.getElem?_eq_none (by rw [Array.size_setIfInBounds]; exact Nat.le_of_not_lt hlt), Array.getElem?_eq_none (by rw [Array.size_setIfInBounds]; exact Nat.le_of_not_lt hlt')]
    · rw [Array.getElem?_setIfInBounds_ne hd, Array.getElem?_setIfInBounds_ne hd]
      rcases h with h | h
      · cases h; exact absurd rfl hd
      · simpa [Array.getD_eq_getD_getElem?] using h

/-- One operation, run where some slots do not stand yet. -/
theorem one_fl (hT : TOk E.P T) {G : List (FuncId × Ctr)} (hG : GOk E.P G) {o : Oper} (hg : o.guard = none) (hsel : isSel o.op = false) {fr : List AVal} {hp : List (Option (List AVal))} {rows : List (Option Row)} {k : St → Prop}
    (h : vcOne E T G L [] o fr hp rows (fun _ => False) k) {A : Asg} {a b : Act} {w : World} (hs : Sat E A ⟨fr, hp, rows⟩ b w) (hev : ∀ t, t ∈ o.looksAt L.toArray → a.tmps.getD t undef = b.tmps.getD t undef) (hdf : a.defers = b.defers)
    {K : Act → World → Prop} (hK : ∀ v w', (∃ A' σ', k σ' ∧ Sat E A' σ' (b.put o.dst v) w') → K (a.put o.dst v) w') : o.wp E.P a w K Q := by
  have hw : wpList E.P L.toArray (fun ex b' w' => ex = .normal ∧ ∃ A' σ', k σ' ∧ Sat E A' σ' b' w') [o] b w :=
    vcOne_sound (Q := fun ex b' w' => ex = .normal ∧ ∃ A' σ', k σ' ∧ Sat E A' σ' b' w') hT hG h (fun σ' hf => hf.elim) (fun σ' hk A' a' w' hs' => show (Exit.normal = Exit.normal ∧ ∃ A' σ', k σ' ∧ Sat E A' σ' a' w') from ⟨rfl, A', σ', hk, hs'⟩) hs (by simp [Region.wanted, hg])
  unfold wpList at hw
  rw [if_pos (by simp [Region.wanted, hg])] at hw
  rcases hw with hw | ⟨_, a', w', hl, _⟩
  · have hex : execOp a.eval o = execOp b.eval o := execOp_congr o (fun cs x e => by rw [e] at hsel; cases hsel) fun x hx => by
      cases x with
      | tmp t => exact hev t (List.mem_append_left _ (List.mem_filterMap.2 ⟨.tmp t, by simpa using hx, rfl⟩))
      | const v => rfl
      | global g => rfl
      | func f => rfl
    unfold Oper.wp at hw ⊢
    rw [hex]
    generalize (execOp b.eval o).run E.P w = r at hw
    have hnext : ∀ v w', wpList E.P L.toArray (fun ex b' w' => ex = .normal ∧ ∃ A' σ', k σ' ∧ Sat E A' σ' b' w') [] (b.put o.dst v) w' → K (a.put o.dst v) w' := fun v w' hh => hK v w' hh.2
    match r, hw with
    | .ok (.value v) w', hw => exact hnext _ _ hw
    | .ok .skip w', hw => exact hnext _ _ hw
    | .ok (.defer d) w', hw =>
      obtain ⟨_, A', σ', _, hs'⟩ := hw
      have := hs'.defers
      rw [put_defers] at this
      cases this
    | .ok (.enter f args) w', hw =>
      exact Calls.mono hw fun e w'' he => by
        cases e with
        | returned v => exact hnext _ _ he
        | panicked c => cases he.1
        | outgrown => obtain ⟨_, _, hh, _⟩ := he; cases hh
    | .ok (.row r args) w', hw => exact Rows.mono hw fun v w'' he => hnext _ _ he
    | .halt (.panic v) w', hw => cases hw.1
  · cases hl

theorem float_any (hT : TOk E.P T) (hG : GOk E.P G) (hc : ChkF L F) (hQ : ∀ σ, kN σ → At E Q .normal σ) :
    ∀ (fuel : Nat) (listed : Array Bool) (a : Act) (w : World) (n : Nat) (b : Act), ((List.range L.length).filter fun i => !listed.getD i false).length = fuel → listed.size = L.length →
    FlInv E T G L F kN listed a w n b → wpAny E.P .any L.toArray Q fuel listed a w := by
  intro fuel
  have hready : ∀ listed : Array Bool, ∀ i, i ∈ Region.ready .any L.toArray listed ↔ listed.getD i true = false ∧ ∃ o, L[i]? = some o ∧ ∀ e ∈ o.after.toList, bindsAny e = true → Lst listed e.on := fun listed i => by
    rw [mem_ready]
    constructor
    · rintro ⟨h1, o, h2, h3⟩
      exact ⟨h1, o, by simpa using h2, fun e he hb => h3 e (by simpa using he) (by rw [bindsAny_eq]; exact hb)⟩
    · rintro ⟨h1, o, h2, h3⟩
      exact ⟨h1, o, by simpa using h2, fun e he hb => h3 e (by simpa using he) (by rw [← bindsAny_eq]; exact hb)⟩
  have hfin : ∀ (listed : Array Bool) (a : Act) (w : World) (n : Nat) (b : Act), (∀ i, i < L.length → Lst listed i) → FlInv E T G L F kN listed a w n b → Q .normal a w := fun listed a w n b hall hi => by
    obtain ⟨A, σ, h1, h2⟩ := hi.run
    have hnil : pickF (F.drop n) (L.drop n) false = [] := pickF_none fun j hj hf => by
      rw [List.length_drop] at hj
      rw [List.getElem?_drop] at hf
      have hF : F.getD (n + j) true = false := by rw [List.getD_eq_getElem?_getD, hf]; rfl
      have := (hi.ch (n + j) (by omega) hF).1 (hall _ (by omega))
      omega
    rw [hnil] at h1
    have hab : a = b := by
      obtain ⟨ta, da⟩ := a
      obtain ⟨tb, db⟩ := b
      have e1 : da = db := hi.df
      have e2 : ta = tb := by
        refine Array.ext hi.sz fun t h3 h4 => ?_
        have := hi.eq t (fun ⟨j, oj, h5, _, h6, _⟩ => h6 (hall j (List.getElem?_eq_some_iff.1 h5).1))
        simpa [Array.getD_eq_getD_getElem?, h3, h4] using this
      rw [e1, e2]
    subst hab
    exact hQ σ h1.2 A a w h2
  have hleast : ∀ listed : Array Bool, listed.size = L.length → Region.ready .any L.toArray listed = [] → ∀ i, i < L.length → Lst listed i := fun listed hsz hr => by
    intro i
    induction i using Nat.strongRecOn with
    | _ i ih =>
      intro hi
      refine Classical.byContradiction fun hn => ?_
      have : i ∈ Region.ready .any L.toArray listed := (hready listed i).2 ⟨(not_lst (by omega)).2 hn, L[i], List.getElem?_eq_getElem hi, fun e he hb => by
        have hlt := (hc.one i L[i] (List.getElem?_eq_getElem hi)).2.2.1 e he hb
        exact ih e.on hlt (by omega)⟩
      rw [hr] at this; cases this
  induction fuel with
  | zero =>
    intro listed a w n b hf hsz hi
    have hall : ∀ i, i < L.length → Lst listed i := fun i hi' => by
      refine Classical.byContradiction fun hn => ?_
      have hm : i ∈ (List.range L.length).filter fun i => !listed.getD i false := List.mem_filter.2 ⟨List.mem_range.2 hi', by unfold Lst at hn; simpa using hn⟩
      rw [List.length_eq_zero_iff.1 hf] at hm; cases hm
    refine ⟨?_, hfin listed a w n b hall hi⟩
    refine List.eq_nil_iff_forall_not_mem.2 fun i hm => ?_
    obtain ⟨h1, o, h2, _⟩ := (hready listed i).1 hm
    have hil := (List.getElem?_eq_some_iff.1 h2).1
    exact (not_lst (by omega)).1 h1 (hall i hil)
  | succ m ih =>
    intro listed a w n b hf hsz hi
    refine ⟨fun h0 => hfin listed a w n b (hleast listed hsz h0) hi, fun i hm => ?_⟩
    obtain ⟨hnl, o, ho, hdep⟩ := (hready listed i).1 hm
    have hil := (List.getElem?_eq_some_iff.1 ho).1
    have hs : i < listed.size := by omega
    rw [not_lst hs] at hnl
    obtain ⟨hg, hsel, _, hpv⟩ := hc.one i o ho
    have hev : ∀ t, t ∈ o.looksAt L.toArray → a.tmps.getD t undef = b.tmps.getD t undef := fun t ht => hi.eq t fun ⟨j, oj, h1, h2, h3, h4⟩ => by
      obtain ⟨e, he, hb, hon⟩ := hc.look i o j oj t ho h1 h4 h2 ht
      exact h3 (hon ▸ hdep e he hb)
    have hcount : ((List.range L.length).filter fun x => !(listed.setIfInBounds i true).getD x false).length = m := by
      have key : ∀ l : List Nat, l.Nodup → i ∈ l → ((l.filter fun x => !(listed.setIfInBounds i true).getD x false).length + 1 = (l.filter fun x => !listed.getD x false).length) := by
        intro l
        induction l with
        | nil => intro _ h; simp at h
        | cons x l ihl =>
          intro hnd hmem
          rw [List.nodup_cons] at hnd
          by_cases hx : x = i
          · subst hx
            have e1 : (listed.setIfInBounds x true).getD x false = true := by simp [hs]
            have e2 : listed.getD x false = false := by unfold Lst at hnl; simpa using hnl
            have e3 : (l.filter fun y => !(listed.setIfInBounds x true).getD y false) = l.filter fun y => !listed.getD y false := by
              apply List.filter_congr
              intro y hy
              have : x ≠ y := fun e => hnd.1 (e ▸ hy)
              rw [getD_set_ne false this]
            rw [List.filter_cons, List.filter_cons, e1, e2, e3]
            simp
          · have hil : i ∈ l := by
              rcases List.mem_cons.1 hmem with h | h
              · exact absurd h.symm hx
              · exact h
            have := ihl hnd.2 hil
            have e1 : (listed.setIfInBounds i true).getD x false = listed.getD x false := getD_set_ne false (fun e => hx e.symm)
            rw [List.filter_cons, List.filter_cons, e1]
            cases listed.getD x false with
            | false => simp only [Bool.not_false, if_true, List.length_cons]; omega
            | true => simp only [Bool.not_true, Bool.false_eq_true, if_false]; omega
      have := key (List.range L.length) List.nodup_range (List.mem_range.2 hil)
      omega
    have heq : ∀ v t, ¬ unF L F (listed.setIfInBounds i true) t → (a.put o.dst v).tmps.getD t undef = (b.put o.dst v).tmps.getD t undef := fun v t hu => by
      refine put_getD o.dst v hi.sz t ?_
      by_cases hd : o.dst = some t
      · exact .inl hd
      · refine .inr (hi.eq t fun ⟨j, oj, h1, h2, h3, h4⟩ => hu ⟨j, oj, h1, h2, fun h5 => ?_, h4⟩)
        rcases (Lst_set hs j).1 h5 with h6 | h6
        · subst h6; rw [ho] at h1; cases h1; exact hd h4
        · exact h3 h6
    obtain ⟨A, σ, hv, hsat⟩ := hi.run
    obtain ⟨fr, hp, rows⟩ := σ
    unfold wpOp
    have hop : L.toArray[i]? = some o := by simpa using ho
    rw [hop]
    simp only
    rw [if_pos (by simp [Region.wanted, hg])]
    refine .inl ?_
    cases hF : F.getD i true with
    | true =>
      -- it floats
      have hFi : F[i]? = some true := by
        rw [List.getD_eq_getElem?_getD, List.getElem?_eq_getElem (by rw [hc.len]; exact hil)] at hF
        rw [List.getElem?_eq_getElem (by rw [hc.len]; exact hil)]
        exact congrArg some hF
      have h1 := allFl_mem (vcFl_all hv) o (pickF_mem hFi ho)
      refine one_fl hT GOk.nil hg hsel h1 hsat hev hi.df fun v w' ⟨A', σ', e1, hs'⟩ => ih _ _ _ n (b.put o.dst v) hcount (by simp [hsz]) ?_
      subst e1
      exact ⟨⟨A', _, hv, hs'⟩, by rw [put_size, put_size, hi.sz], by rw [put_defers, put_defers, hi.df], heq v, fun j hj hFj => by
        rw [Lst_set hs j, hi.ch j hj hFj]
        constructor
        · rintro (rfl | h)
          · rw [hF] at hFj; cases hFj
          · exact h
        · exact .inr⟩
    | false =>
      -- the next of the chain
      have hni : n ≤ i := by
        rcases Nat.lt_or_ge i n with h | h
        · exact absurd ((hi.ch i hil hF).2 h) hnl
        · exact h
      have hbet : ∀ j, n ≤ j → j < i → F.getD j true = true := fun j h1 h2 => by
        cases hp' : prevC F i with
        | none => exact prevC_none hp' j h2
        | some p =>
          obtain ⟨h3, h4, h5⟩ := prevC_some hp'
          obtain ⟨e, he, hb, hon⟩ := hpv hF p hp'
          have hpl := (hi.ch p (by omega) h4).1 (hon ▸ hdep e he hb)
          exact h5 j (by omega) h2
      have hFi : (F.drop n)[i - n]? = some false := by
        rw [List.getElem?_drop, show n + (i - n) = i by omega]
        rw [List.getD_eq_getElem?_getD, List.getElem?_eq_getElem (by rw [hc.len]; exact hil)] at hF
        rw [List.getElem?_eq_getElem (by rw [hc.len]; exact hil)]
        exact congrArg some hF
      have hLi : (L.drop n)[i - n]? = some o := by rw [List.getElem?_drop, show n + (i - n) = i by omega]; exact ho
      rw [pickF_at (fun j hj hf => by
        rw [List.getElem?_drop] at hf
        have := hbet (n + j) (by omega) (by omega)
        rw [List.getD_eq_getElem?_getD, hf] at this; cases this) hFi hLi, List.drop_drop, List.drop_drop, show n + (i - n + 1) = i + 1 by omega] at hv
      refine one_fl hT hG hg hsel hv.2 hsat hev hi.df fun v w' ⟨A', σ', e1, hs'⟩ => ih _ _ _ (i + 1) (b.put o.dst v) hcount (by simp [hsz]) ?_
      exact ⟨⟨A', σ', e1, hs'⟩, by rw [put_size, put_size, hi.sz], by rw [put_defers, put_defers, hi.df], heq v, fun j hj hFj => by
        rw [Lst_set hs j, hi.ch j hj hFj]
        constructor
        · rintro (rfl | h) <;> omega
        · intro h
          rcases Nat.lt_or_ge j i with h1 | h1
          · rcases Nat.lt_or_ge j n with h2 | h2
            · exact .inr h2
            · have := hbet j h2 h1; rw [hFj] at this; cases this
          · exact .inl (by omega)⟩

/-- what is told of the operations that float, put into their slots -/
def predK : List Oper → List AVal → List AVal → (List AVal → Prop) → Prop
  | f :: fs, v :: vs, fr, k => match f.dst with | some d => setK fr d v fun fr' => predK fs vs fr' k | none => False
  | [], [], fr, k => k fr
  | _, _, _, _ => False
theorem predK_inv : ∀ {fs : List Oper} {vs fr : List AVal} {k : List AVal → Prop} {A : Asg} {hp : List (Option (List AVal))} {rows : List (Option Row)} {b : Act} {w : World}, predK fs vs fr k → scs hp.length [] rows.length [] vs = true → Sat E A ⟨fr, hp, rows⟩ b w →
    ∃ fr' b', k fr' ∧ Sat E A ⟨fr', hp, rows⟩ b' w ∧ b'.tmps.size = b.tmps.size ∧ b'.defers = b.defers ∧ ∀ t, (∀ f ∈ fs, f.dst ≠ some t) → b'.tmps.getD t undef = b.tmps.getD t undef
  | [], [], fr, k, A, hp, rows, b, w, h, _, hs => ⟨fr, b, h, hs, rfl, rfl, fun _ _ => rfl⟩
  | [], _ :: _, _, _, _, _, _, _, _, h, _, _ => by simp [predK] at h
  | _ :: _, [], _, _, _, _, _, _, _, h, _, _ => by simp [predK] at h
  | f :: fs, v :: vs, fr, k, A, hp, rows, b, w, h, hsc, hs => by
    simp only [predK] at h
    split at h
    case h_2 => exact h.elim
    rename_i d hd
    rw [setK_eq] at h
    have hsc' := hsc
    simp only [scs] at hsc
    split at hsc
    case h_2 => cases hsc
    rename_i hv
    have h1 := hs.putJ d (v.den A)
    have h2 : Sat E A ⟨fr.set d v, hp, rows⟩ (b.put (some d) (v.den A)) w := by
      have := h1.setFr d v (fun y hy => by
        have hlt : d < (fr.set d .junk).length := (List.getElem?_eq_some_iff.1 hy).1
        rw [List.length_set] at hlt
        have hsz : d < b.tmps.size := by rw [hs.size]; exact hlt
        refine ⟨.inr ?_, hv⟩
        simp [Act.put, Array.getD_eq_getD_getElem?, hsz])
      simpa [List.set_set] using this
    obtain ⟨fr', b', q1, q2, q3, q4, q5⟩ := predK_inv h hsc h2
    refine ⟨fr', b', q1, q2, by rw [q3, put_size], by rw [q4, put_defers], fun t ht => ?_⟩
    rw [q5 t fun g hg => ht g (List.mem_cons_of_mem _ hg)]
    have hne : d ≠ t := fun e => ht f (List.mem_cons_self ..) (by rw [hd, e])
    unfold Act.put
    simp only [Array.getD_eq_getD_getElem?]
    rw [Array.getElem?_setIfInBounds_ne hne]
theorem pickF_of : ∀ {F : List Bool} {L : List Oper} {x : Bool} {o : Oper}, F.length = L.length → o ∈ pickF F L x → ∃ i, L[i]? = some o ∧ F.getD i true = x
  | [], L, x, o, _, h => by simp [pickF] at h
  | b :: F, [], x, o, _, h => by simp [pickF] at h
  | b :: F, o' :: L, x, o, hl, h => by
    simp only [pickF] at h
    split at h
    · rename_i hb
      rcases List.mem_cons.1 h with rfl | h
      · exact ⟨0, rfl, by simpa using hb⟩
      · obtain ⟨i, h1, h2⟩ := pickF_of (by simpa using hl) h
        exact ⟨i + 1, by simpa using h1, by simpa using h2⟩
    · obtain ⟨i, h1, h2⟩ := pickF_of (by simpa using hl) h
      exact ⟨i + 1, by simpa using h1, by simpa using h2⟩

theorem V_float (hT : TOk E.P T) (hG : GOk E.P G) (hm : E.P.follows .mixedOrders = true) (F : List Bool) (vs : List AVal) (hc : chkFloat L F = true) {id : Nat} {fr : List AVal} {hp : List (Option (List AVal))} {rows : List (Option Row)} {kE : Nat → St → Prop} {kR : St → Prop}
    (hsc : scs hp.length [] rows.length [] vs = true)
    (h : predK (pickF F L true) vs fr fun fr' => vcFl E T G L (pickF F L true) (pickF F L false) ⟨fr', hp, rows⟩ kN) : V E (.region id L.toArray true) kN kE kR ⟨fr, hp, rows⟩ := ⟨fun Q h1 h2 h3 A a w hs => by
  have hck := chkFloat_spec hc
  refine wp_region_any hm ?_
  have hs' : Sat E A ⟨fr, hp, rows⟩ a { w with drawn := w.drawn + 1 } := { hs with
    mem := hs.mem.grow ⟨⟨rfl, rfl, rfl, Nat.le_refl _, fun _ _ => rfl⟩, Dr.of (by first | exact Nat.le_refl _ | exact Nat.le_add_right _ _ | simp)⟩ hs.klt
    klt := hs.klt }
  obtain ⟨fr', b, q1, q2, q3, q4, q5⟩ := predK_inv h hsc hs'
  have hl0 : ∀ i, ¬ Lst (Array.replicate L.toArray.size false) i := fun i => by
    unfold Lst
    rw [getD_replicate_false]
    simp
  have hsz : L.toArray.size = ((List.range L.length).filter fun i => !(Array.replicate L.toArray.size false).getD i false).length := by
    have : ((List.range L.length).filter fun i => !(Array.replicate L.toArray.size false).getD i false) = List.range L.length := by
      rw [List.filter_eq_self]
      intro i _
      rw [getD_replicate_false]; rfl
    rw [this, List.length_range]; simp
  refine float_any hT hG hck h1 _ _ _ _ 0 b hsz.symm (by simp) ⟨⟨A, _, by simpa using q1, q2⟩, q3.symm, q4.symm, fun t hu => (q5 t fun f hf hd => ?_).symm, fun i hi hF => ?_⟩
  · obtain ⟨i, e1, e2⟩ := pickF_of hck.len hf
    exact hu ⟨i, f, e1, e2, hl0 i, hd⟩
  · exact ⟨fun h => absurd h (hl0 i), fun h => by omega⟩⟩
end
end Go.Proofs.Ytmbfflckgmdncaa.Fw
