/- The walk by reckoning is sound. -/
import Derived.Test.YtlplngafncobkaaFwN
namespace Go.Proofs.Ytlplngafncobkaa.Fw
open Go Go.RowKit
set_option linter.unusedVariables false
set_option linter.unusedSimpArgs false

section
variable {E : Env} {A : Asg} {σ : St} {a : Act} {w : World} {T : TypeId → Option TInfo} {G : List (FuncId × PCtr)}

theorem setRow_other (w : World) (g : Nat) (cs : Array Value) (k : Nat) (h : k ≠ g) : (w.setRow g cs).heap[k]? = w.heap[k]? := by
  simp only [World.setRow, Array.getElem?_modify]
  rw [if_neg (fun e => h e.symm)]
theorem setRow_size (w : World) (g : Nat) (cs : Array Value) : (w.setRow g cs).heap.size = w.heap.size := by simp [World.setRow]

theorem Mem.setBox {hp : Nat → Option (List AVal)} {rw_ : Nat → Option Row} (h : Mem E A hp rw_ w) {i : Nat} {cs cs' : List AVal} (hi0 : E.b0 ≤ i) (hi : hp i = some cs) :
    Mem E A (upd hp i (some cs')) rw_ (w.setRow (A.bx i) (dens A cs').toArray) := by
  obtain ⟨⟨t, ht⟩, hn⟩ := h.box i cs hi
  have cases' : ∀ j c, upd hp i (some cs') j = some c → (j = i ∧ c = cs') ∨ (j ≠ i ∧ hp j = some c) := fun j c hj => by
    by_cases e : j = i
    · subst e; rw [upd_same] at hj; exact .inl ⟨rfl, (Option.some.inj hj).symm⟩
    · rw [upd_ne _ _ _ e] at hj; exact .inr ⟨e, hj⟩
  have some' : ∀ j c, upd hp i (some cs') j = some c → ∃ c', hp j = some c' := fun j c hj => by
    rcases cases' j c hj with ⟨rfl, _⟩ | ⟨_, h'⟩
    · exact ⟨cs, hi⟩
    · exact ⟨c, h'⟩
  refine ⟨?_, fun j c hj => ?_, fun k r hk => ?_, fun j l cj cl h0 hj hl hjl => ?_, fun j cj k r b h0 hj hk hf => ?_, h.rr, h.args⟩
  · refine h.kept.trans ⟨rfl, rfl, rfl, by rw [setRow_size]; exact Nat.le_refl _, fun k hk => setRow_other _ _ _ _ (fun e => hn.2 hi0 (e ▸ hk))⟩
  · rcases cases' j c hj with ⟨rfl, rfl⟩ | ⟨hne, hj'⟩
    · exact ⟨⟨t, setRow_heap _ _ _ _ _ _ ht⟩, hn⟩
    · obtain ⟨⟨t', ht'⟩, hn'⟩ := h.box j c hj'
      exact ⟨⟨t', by rw [setRow_other _ _ _ _ (fun e => h.bb i j cs c hi0 hi hj' (fun e => hne e.symm) e.symm)]; exact ht'⟩, hn'⟩
  · obtain ⟨hr, ho⟩ := h.row k r hk
    have hne : ∀ b, Foot r (A.rw k) b → b ≠ A.bx i := fun b hb e => h.br i cs k r b hi0 hi hk hb e.symm
    refine ⟨hr.keep fun b hb => setRow_other _ _ _ _ (hne b hb), fun hown => ?_⟩
    obtain ⟨h1, h2⟩ := ho hown
    exact ⟨h1.keep fun a ha => setRow_other _ _ _ _ (hne _ ⟨.inl hown, a, ha, rfl⟩), h2⟩
  · obtain ⟨c1, h1⟩ := some' j cj hj
    obtain ⟨c2, h2⟩ := some' l cl hl
    exact h.bb j l c1 c2 h0 h1 h2 hjl
  · obtain ⟨c1, h1⟩ := some' j cj hj
    exact h.br j c1 k r b h0 h1 hk hf

theorem nthj_set {α : Type _} (l : List (Option α)) (i : Nat) (x : α) (hi : i < l.length) : nthj (l.set i (some x)) = upd (nthj l) i (some x) := by
  funext j
  rw [nthj_eq]
  by_cases h : j = i
  · subst h
    rw [upd_same, List.getElem?_set_self hi]; rfl
  · rw [upd_ne _ _ _ h, List.getElem?_set_ne (fun e => h e.symm), nthj_eq]

theorem one_den {x : AVal} (h : x.one = true) (A : Asg) : (x.den A).oneCell' = true := by
  cases x <;> simp_all [AVal.one, AVal.den, Value.oneCell', Hdr.ptr, Hdr.val]
theorem allOne_den : ∀ {l : List AVal}, allOne l = true → ∀ A, ∀ v ∈ dens A l, v.oneCell' = true
  | [], _, A, v, hv => by simp [dens] at hv
  | x :: l, h, A, v, hv => by
    simp only [allOne] at h
    split at h
    · rename_i hx
      simp only [dens, List.mem_cons] at hv
      rcases hv with rfl | hv
      · exact one_den hx A
      · exact allOne_den h A v hv
    · cases h

theorem cellsA_sc {v : AVal} {k : List AVal → Prop} (h : cellsA v k) {nb nr : Nat} (hv : v.sc nb [] nr [] = true) : ∃ cs, k cs ∧ (∀ A, (v.den A).cells = (dens A cs).toArray) ∧ scs nb [] nr [] cs = true := by
  unfold cellsA at h
  split at h
  case h_1 => exact ⟨_, h, fun A => by simp [AVal.den, Value.cells], by simpa [AVal.sc] using hv⟩
  all_goals first
    | exact h.elim
    | (refine ⟨_, h, fun A => ?_, ?_⟩
       · simp [AVal.den, Value.cells, dens, Hdr.val, Hdr.ptr]
       · simp only [scs, hv])

theorem flatMap_set {α β : Type} (f : α → List β) (xs : List α) (i : Nat) (x : α) (h : i < xs.length) : (xs.set i x).flatMap f = (xs.take i).flatMap f ++ f x ++ (xs.drop (i + 1)).flatMap f := by
  rw [List.set_eq_take_append_cons_drop, if_pos h]
  simp [List.flatMap_append, List.flatMap_cons]

theorem take_mid {α β : Type} (f : α → List β) (sz : Nat) (hf : ∀ x, (f x).length = sz) (xs : List α) (i : Nat) (x' d : α) (h : i < xs.length) (L V : List β) (off : Nat) (hoff : off + V.length ≤ sz) (hL : L.take (xs.length * sz) = xs.flatMap f)
    (hx : f x' = (f (xs.getD i d)).take off ++ V ++ (f (xs.getD i d)).drop (off + V.length)) :
    (L.take (i * sz + off) ++ V ++ L.drop (i * sz + off + V.length)).take (xs.length * sz) = (xs.set i x').flatMap f := by
  have hxs : xs = xs.take i ++ xs.getD i d :: xs.drop (i + 1) := by
    rw [List.getD_eq_getElem?_getD, List.getElem?_eq_getElem h]; simp
  have hP : ((xs.take i).flatMap f).length = i * sz := by rw [flatMap_length f sz hf, List.length_take, Nat.min_eq_left (by omega)]
  have hS : ((xs.drop (i + 1)).flatMap f).length = (xs.length - (i + 1)) * sz := by rw [flatMap_length f sz hf]; simp
  have hC : xs.flatMap f = (xs.take i).flatMap f ++ (f (xs.getD i d) ++ (xs.drop (i + 1)).flatMap f) := by
    conv => lhs; rw [hxs]
    simp [List.flatMap_append, List.flatMap_cons]
  have hN : xs.length * sz = i * sz + sz + (xs.length - (i + 1)) * sz := by
    rw [show i * sz + sz = (i + 1) * sz by rw [Nat.add_mul]; omega, ← Nat.add_mul]; congr 1; omega
  have hLL : L = (xs.take i).flatMap f ++ (f (xs.getD i d) ++ ((xs.drop (i + 1)).flatMap f ++ L.drop (xs.length * sz))) := by
    conv => lhs; rw [← List.take_append_drop (xs.length * sz) L, hL, hC]
    simp
  rw [flatMap_set f xs i x' h, hx]
  generalize L.drop (xs.length * sz) = R at hLL
  subst hLL
  generalize (xs.take i).flatMap f = P at *
  generalize (xs.drop (i + 1)).flatMap f = S at *
  have hy := hf (xs.getD i d)
  generalize f (xs.getD i d) = Y at *
  have t1 : (P ++ (Y ++ (S ++ R))).take (i * sz + off) = P ++ Y.take off := by
    rw [List.take_append, List.take_of_length_le (by omega), hP, show i * sz + off - i * sz = off by omega, List.take_append_of_le_length (by omega)]
  have t2 : (P ++ (Y ++ (S ++ R))).drop (i * sz + off + V.length) = Y.drop (off + V.length) ++ (S ++ R) := by
    rw [List.drop_append, List.drop_eq_nil_of_le (by omega), hP, show i * sz + off + V.length - i * sz = off + V.length by omega, List.drop_append_of_le_length (by omega), List.nil_append]
  rw [t1, t2]
  have hlen : (P ++ Y.take off ++ V ++ (Y.drop (off + V.length) ++ S)).length = xs.length * sz := by
    simp [hP, hS, hy]; omega
  rw [show P ++ Y.take off ++ V ++ (Y.drop (off + V.length) ++ (S ++ R)) = (P ++ Y.take off ++ V ++ (Y.drop (off + V.length) ++ S)) ++ R by simp, ← hlen, List.take_left']
  · simp
  · rfl

theorem Mem.setOwn {hp : Nat → Option (List AVal)} {rw_ : Nat → Option Row} (h : Mem E A hp rw_ w) {r g : Nat} {row row' : Row} {cur' : Array Value} (hr : rw_ r = some row) (ho : row.own = true) (hg : (A.rw r).a = some ⟨g, 0, none⟩)
    (hown : RowOwn (w.setRow g cur') (A.rw r) row') (ho' : row'.own = true) : Mem E A hp (upd rw_ r (some row')) (w.setRow g cur') := by
  obtain ⟨hat, hown0⟩ := h.row r row hr
  obtain ⟨hw0, hnk⟩ := hown0 ho
  have hnkg : ¬ E.K g := hnk _ hg
  have hfoot : Foot row (A.rw r) g := ⟨.inl ho, _, hg, rfl⟩
  have cases' : ∀ j c, upd rw_ r (some row') j = some c → (j = r ∧ c = row') ∨ (j ≠ r ∧ rw_ j = some c) := fun j c hj => by
    by_cases e : j = r
    · subst e; rw [upd_same] at hj; exact .inl ⟨rfl, (Option.some.inj hj).symm⟩
    · rw [upd_ne _ _ _ e] at hj; exact .inr ⟨e, hj⟩
  have foot' : ∀ b, Foot row' (A.rw r) b → Foot row (A.rw r) b := fun b ⟨_, hb⟩ => ⟨.inl ho, hb⟩
  refine ⟨?_, fun j c hj => ?_, fun k c hk => ?_, h.bb, fun j cj k c b h0 hj hk hf => ?_, fun k k' c c' b hk hk' hkk hown1 hf hf' => ?_, h.args⟩
  · exact h.kept.trans ⟨rfl, rfl, rfl, by rw [setRow_size]; exact Nat.le_refl _, fun k hk => setRow_other _ _ _ _ (fun e => hnkg (e ▸ hk))⟩
  · obtain ⟨⟨t, ht⟩, hn1, hn2⟩ := h.box j c hj
    have hne : A.bx j ≠ g := by
      rcases Nat.lt_or_ge j E.b0 with hlt | hge
      · intro e; exact hnkg (e ▸ hn1 hlt)
      · exact h.br j c r row g hge hj hr hfoot
    exact ⟨⟨t, by rw [setRow_other _ _ _ _ hne]; exact ht⟩, hn1, hn2⟩
  · rcases cases' k c hk with ⟨rfl, rfl⟩ | ⟨hne, hk'⟩
    · exact ⟨hown.at, fun _ => ⟨hown, fun a ha => by rw [hg] at ha; cases ha; exact hnkg⟩⟩
    · obtain ⟨hat1, hown1⟩ := h.row k c hk'
      have hd : ∀ b, Foot c (A.rw k) b → b ≠ g := fun b hb e => h.rr r k row c b hr hk' (fun e => hne e.symm) ho (e ▸ hfoot) hb
      refine ⟨hat1.keep fun b hb => setRow_other _ _ _ _ (hd b hb), fun hoc => ?_⟩
      obtain ⟨h3, h4⟩ := hown1 hoc
      exact ⟨h3.keep fun a ha => setRow_other _ _ _ _ (hd _ ⟨.inl hoc, a, ha, rfl⟩), h4⟩
  · rcases cases' k c hk with ⟨rfl, rfl⟩ | ⟨_, hk'⟩
    · exact h.br j cj k row b h0 hj hr (foot' b hf)
    · exact h.br j cj k c b h0 hj hk' hf
  · rcases cases' k c hk with ⟨rfl, rfl⟩ | ⟨_, hk1⟩ <;> rcases cases' k' c' hk' with ⟨rfl, rfl⟩ | ⟨_, hk2⟩
    · exact hkk rfl
    · exact h.rr k k' row c' b hr hk2 hkk ho (foot' b hf) hf'
    · exact h.rr k k' c row b hk1 hr hkk hown1 hf (foot' b hf')
    · exact h.rr k k' c c' b hk1 hk2 hkk hown1 hf hf'

theorem nthj_setR (l : List (Option Row)) (i : Nat) (x : Row) (hi : i < l.length) : nthj (l.set i (some x)) = upd (nthj l) i (some x) := nthj_set l i x hi

theorem stA_sound (hT : TOk E.P T) {t : TypeId} {x v : Operand} {k : St → Prop} (hs : Sat E A σ a w) (h : stA T E.b0 σ t x v k) :
    ∃ σ' w', k σ' ∧ Sat E A σ' a w' ∧ ∀ ty pos after guard, (execOp a.eval ⟨none, .store t x v, ty, pos, after, guard⟩).run E.P w = .ok .skip w' := by
  obtain ⟨fr, hp, rows⟩ := σ
  simp only [stA] at h
  replace h := with1_eq h; obtain ⟨xv, hx, h⟩ := h
  replace h := with1_eq h; obtain ⟨vv, hv, h⟩ := h
  have ex := ev_sound hs (x := x) hx
  have evv := ev_sound hs (x := v) hv
  have hvsc := ev_sc hs (x := v) hv
  cases xv <;> simp only at h
  case loc i off =>
    cases hb0 : Nat.ble E.b0 i with
    | false => simp [hb0] at h
    | true =>
    have hi0 : E.b0 ≤ i := Nat.le_of_ble_eq_true hb0
    simp only [hb0] at h
    cases hi : nthj hp i with
    | none => simp [hi] at h
    | some cs =>
      simp only [hi] at h
      cases ht : T t with
      | none => simp [ht] at h
      | some ti =>
        simp only [ht] at h
        replace h := cellsA_sc h hvsc; obtain ⟨vs, h, hvs, hsc⟩ := h
        split at h
        · rename_i hb
          have hb := Nat.eq_of_beq_eq_true hb
          rw [lenN_eq] at hb
          split at h
          · rename_i hone
            obtain ⟨hle, h⟩ := over_eq _ _ _ _ h
            rw [setK_eq] at h
            have hil : i < hp.length := by
              rcases Nat.lt_or_ge i hp.length with h' | h'
              · exact h'
              · rw [nthj_none h'] at hi; cases hi
            have hm := hs.mem.setBox (cs' := cs.take off ++ vs ++ cs.drop (off + vs.length)) hi0 hi
            refine ⟨_, w.setRow (A.bx i) (dens A (cs.take off ++ vs ++ cs.drop (off + vs.length))).toArray, h, ?_, fun ty pos after guard => ?_⟩
            · have hcsc := hs.hsc i cs hi
              refine { hs with
                sc := fun t y hy => by simpa using hs.sc t y hy
                hsc := fun j c hj => ?_
                mem := ?_
                klt := fun b hb' => by rw [setRow_size]; exact hs.klt b hb'
                b0 := by simpa using hs.b0 }
              · simp only [List.length_set]
                simp only [nthj_set _ _ _ hil] at hj
                by_cases hji : j = i
                · subst hji
                  rw [upd_same] at hj
                  cases hj
                  rw [scs_all] at hcsc ⊢
                  rw [scs_all] at hsc
                  intro y hy
                  simp only [List.mem_append] at hy
                  rcases hy with (hy | hy) | hy
                  · exact hcsc y (List.mem_of_mem_take hy)
                  · exact hsc y hy
                  · exact hcsc y (List.mem_of_mem_drop hy)
                · rw [upd_ne _ _ _ hji] at hj; exact hs.hsc j c hj
              · simp only [nthj_set _ _ _ hil]; exact hm
            · obtain ⟨⟨t', ht'⟩, _⟩ := hs.mem.box i cs hi
              have hl : (dens A cs).length = cs.length := by rw [dens_eq]; simp
              have hl2 : (dens A vs).length = vs.length := by rw [dens_eq]; simp
              have hst := run_storeCells_at E.P (A.bx i) off t' (dens A vs) 0 (dens A cs).toArray w ht' (by simp [hl, hl2]; omega) (allOne_den hone A)
              have hcells : (vv.den A).cells = (dens A vs).toArray := hvs A
              have hsz : ((dens A vs).toArray.size ≠ ti.size) = False := by simp [hl2, hb]
              simp only [execOp, ex, evv, AVal.den]
              simp only [Instr.storeAt, Instr.sureAddr, Sem.run_bind, Sem.run_pure, Result.andThen_ok, storeVar, run_size (hT _ _ ht), hcells, hsz, if_false, hst]
              simp only [dens_eq, List.map_append, List.map_take, List.map_drop, Nat.add_zero, List.length_map]
          · exact h.elim
        · exact h.elim
  case ele r i off sz =>
    cases hr : nthj rows r with
    | none => simp [hr] at h
    | some row =>
      obtain ⟨c, e, own, xs⟩ := row
      cases own
      case false => simp [hr] at h
      case true =>
      simp only [hr] at h
      cases ht : T t with
      | none => simp [ht] at h
      | some ti =>
        simp only [ht] at h
        replace h := cellsA_sc h hvsc; obtain ⟨vs, h, hvs, hsc⟩ := h
        split at h
        · rename_i hb
          have hb := Nat.eq_of_beq_eq_true hb
          rw [lenN_eq] at hb
          split at h
          · rename_i hsz
            have hsz := Nat.eq_of_beq_eq_true hsz
            obtain ⟨hle, h⟩ := over_eq _ _ _ _ h
            rw [c.enc_len] at hle
            split at h
            · rename_i x' hdec
              obtain ⟨hi, h⟩ := h
              rw [setK_eq] at h
              have henc := TyC.dec_enc hdec
              have hfl : ∀ v ∈ vs, v.flat = true := fun v hv => c.flat x' v (by rw [henc]; simp [hv])
              obtain ⟨hat, ho⟩ := hs.mem.row r _ hr
              obtain ⟨ho, hnk⟩ := ho rfl
              have hv0 : dens A vs = dens A0 vs := dens_flat hfl A A0
              have hone : ∀ v ∈ dens A vs, v.oneCell' = true := fun v hv => by
                rw [dens_eq] at hv
                obtain ⟨y, hy, rfl⟩ := List.mem_map.1 hv
                have := hfl y hy
                cases y <;> simp_all [AVal.flat, AVal.den, Value.oneCell']
              have hown := ho
              rcases ho.2 with ⟨_, hn⟩ | ⟨g, cap, cur, hv, _, hg, hle2, hm2, hcs, htk⟩
              · simp at hn; rw [hn] at hi; simp at hi
              · have hv' := hv
                simp only [Hdr.val, Value.slice.injEq] at hv'
                obtain ⟨hva, hvl, hvc⟩ := hv'
                have hcs : cur.size = cap * c.sz := hcs
                have hle2 : xs.length ≤ cap := hle2
                have hil : r < rows.length := by
                  rcases Nat.lt_or_ge r rows.length with h' | h'
                  · exact h'
                  · rw [nthj_none h'] at hr; cases hr
                have hl2 : (dens A vs).length = vs.length := by rw [dens_eq]; simp
                have hbnd : i * c.sz + off + vs.length ≤ cur.size := by
                  have h1 : (i + 1) * c.sz ≤ cap * c.sz := Nat.mul_le_mul_right _ (by omega)
                  rw [Nat.add_mul] at h1
                  rw [hcs]; omega
                have hst := run_storeCells_at E.P g (i * c.sz + off) e (dens A vs) 0 cur w hg (by rw [hl2]; omega) hone
                simp only [Nat.add_zero, hl2] at hst
                let cur' : Array Value := (cur.toList.take (i * c.sz + off) ++ dens A vs ++ cur.toList.drop (i * c.sz + off + vs.length)).toArray
                have hown' : RowOwn (w.setRow g cur') (A.rw r) ⟨c, e, true, xs.set i x'⟩ := by
                  refine ⟨by rw [Row.cells_length], .inr ⟨g, cap, cur', by rw [hv]; simp, Nat.zero_le _, setRow_heap _ _ _ _ _ _ hg, by simpa using hle2, hm2, ?_, ?_⟩⟩
                  · show cur'.size = cap * c.sz
                    simp only [cur', List.size_toArray, List.length_append, List.length_take, List.length_drop, hl2, Array.length_toList]; omega
                  · simp only [cur', List.length_set, Row.cells]
                    rw [← hl2]
                    refine take_mid (fun x => dens A0 (c.enc x)) c.sz (fun x => by rw [dens_eq]; simp [c.enc_len]) xs i x' c.dflt hi cur.toList (dens A vs) off (by rw [hl2]; exact hle) htk ?_
                    rw [hl2, hv0, henc]
                    simp only [dens_eq, List.map_append, List.map_take, List.map_drop]
                have hm := hs.mem.setOwn (r := r) (g := g) (row' := ⟨c, e, true, xs.set i x'⟩) (cur' := cur') hr rfl hva hown' rfl
                refine ⟨_, w.setRow g cur', h, ?_, fun ty pos after guard => ?_⟩
                · refine { hs with
                    sc := fun t y hy => by simpa using hs.sc t y hy
                    hsc := fun j cc hj => by simpa using hs.hsc j cc hj
                    mem := ?_
                    klt := fun b hb' => by rw [setRow_size]; exact hs.klt b hb'
                    n0 := by simpa using hs.n0 }
                  simp only [nthj_set _ _ _ hil]; exact hm
                · have hcells : (vv.den A).cells = (dens A vs).toArray := hvs A
                  have hszs : ((dens A vs).toArray.size ≠ ti.size) = False := by simp [hl2, hb]
                  have hadd : (⟨g, 0, none⟩ : Addr).add (i * c.sz + off) = ⟨g, i * c.sz + off, none⟩ := by unfold Addr.add; split <;> simp_all
                  have hptr : (AVal.ele r i off sz).den A = .pointer (some ⟨g, i * c.sz + off, none⟩) := by
                    simp only [AVal.den, Hdr.ptr, hva, Option.getD_some, hsz, hadd]
                  simp only [execOp, ex, evv, hptr]
                  simp only [Instr.storeAt, Instr.sureAddr, Sem.run_bind, Sem.run_pure, Result.andThen_ok, storeVar, run_size (hT _ _ ht), hcells, hszs, if_false, hst]
                  rfl
            · exact h.elim
          · exact h.elim
        · exact h.elim
  all_goals exact h.elim

end
end Go.Proofs.Ytlplngafncobkaa.Fw
