/- The walk by reckoning is sound. -/
import Derived.Test.YtlplngafncobkaaFwN
namespace Go.Proofs.Ytlplngafncobkaa.Fw
open Go Go.RowKit
set_option linter.unusedVariables false
set_option linter.unusedSimpArgs false

section
variable {E : Env} {A : Asg} {σ : St} {a : Act} {w : World} {T : TypeId → Option TInfo} {G : List (FuncId × Ctr)}

theorem setRow_other (w : World) (g : Nat) (cs : Array Value) (k : Nat) (h : k ≠ g) : (w.setRow g cs).heap[k]? = w.heap[k]? := by
  simp only [World.setRow, Array.getElem?_modify]
  rw [if_neg (fun e => h e.symm)]
theorem setRow_size (w : World) (g : Nat) (cs : Array Value) : (w.setRow g cs).heap.size = w.heap.size := by simp [World.setRow]

theorem Mem.setBox {hp : Nat → Option (List AVal)} {rw_ : Nat → Option Row} (h : Mem E A hp rw_ w) {i : Nat} {cs cs' : List AVal} (hi0 : E.b0 ≤ i) (hi : hp i = some cs) :
    Mem E A (upd hp i (some cs')) rw_ (w.setRow (A.bx i) (dens A cs').toArray) := by
  obtain ⟨⟨t, ht⟩, hn⟩ := h.box i cs hi
  have cases' : ∀ j c, upd hp i (some cs') j = some c → (j = i ∧ c = cs') ∨ (j ≠ i ∧ hp j = some c) := fun j c hj => by
    by_cases e : j = i
    · subst e; rw [upd_same] at hj; exact .inl ⟨rfl, (Option.some.inj hj).symm⟩
    · rw [upd_ne _ _ _ e] at hj; exact .inr ⟨e, hj⟩
  have some' : ∀ j c, upd hp i (some cs') j = some c → ∃ c', hp j = some c' := fun j c hj => by
    rcases cases' j c hj with ⟨rfl, _⟩ | ⟨_, h'⟩
    · exact ⟨cs, hi⟩
    · exact ⟨c, h'⟩
  refine ⟨?_, fun j c hj => ?_, fun k r hk => ?_, fun j l cj cl h0 hj hl hjl => ?_, fun j cj k r b h0 hj hk hf => ?_, h.rr, h.args⟩
  · refine h.kept.trans ⟨rfl, rfl, rfl, by rw [setRow_size]; exact Nat.le_refl _, fun k hk => setRow_other _ _ _ _ (fun e => hn.2 hi0 (e ▸ hk))⟩
  · rcases cases' j c hj with ⟨rfl, rfl⟩ | ⟨hne, hj'⟩
    · exact ⟨⟨t, setRow_heap _ _ _ _ _ _ ht⟩, hn⟩
    · obtain ⟨⟨t', ht'⟩, hn'⟩ := h.box j c hj'
      exact ⟨⟨t', by rw [setRow_other _ _ _ _ (fun e => h.bb i j cs c hi0 hi hj' (fun e => hne e.symm) e.symm)]; exact ht'⟩, hn'⟩
  · obtain ⟨hr, ho⟩ := h.row k r hk
    have hne : ∀ b, Feet r (A.rw k) (A.inn k) b → b ≠ A.bx i := fun b hb e => h.br i cs k r b hi0 hi hk hb e.symm
    refine ⟨hr.keep fun b hb => setRow_other _ _ _ _ (hne b hb), fun hown => ?_⟩
    obtain ⟨h1, h2⟩ := ho hown
    exact ⟨h1.keep hown fun b hb => setRow_other _ _ _ _ (hne b hb), h2⟩
  · obtain ⟨c1, h1⟩ := some' j cj hj
    obtain ⟨c2, h2⟩ := some' l cl hl
    exact h.bb j l c1 c2 h0 h1 h2 hjl
  · obtain ⟨c1, h1⟩ := some' j cj hj
    exact h.br j c1 k r b h0 h1 hk hf

theorem nthj_set {α : Type _} (l : List (Option α)) (i : Nat) (x : α) (hi : i < l.length) : nthj (l.set i (some x)) = upd (nthj l) i (some x) := by
  funext j
  rw [nthj_eq]
  by_cases h : j = i
  · subst h
    rw [upd_same, List.getElem?_set_self hi]; rfl
  · rw [upd_ne _ _ _ h, List.getElem?_set_ne (fun e => h e.symm), nthj_eq]

theorem one_den {x : AVal} (h : x.one = true) (A : Asg) : (x.den A).oneCell' = true := by
  cases x <;> simp_all [AVal.one, AVal.den, Value.oneCell', Hdr.ptr, Hdr.val]
theorem allOne_den : ∀ {l : List AVal}, allOne l = true → ∀ A, ∀ v ∈ dens A l, v.oneCell' = true
  | [], _, A, v, hv => by simp [dens] at hv
  | x :: l, h, A, v, hv => by
    simp only [allOne] at h
    split at h
    · rename_i hx
      simp only [dens, List.mem_cons] at hv
      rcases hv with rfl | hv
      · exact one_den hx A
      · exact allOne_den h A v hv
    · cases h

theorem cellsA_sc {v : AVal} {k : List AVal → Prop} (h : cellsA v k) {nb nr : Nat} (hv : v.sc nb [] nr [] = true) : ∃ cs, k cs ∧ (∀ A, (v.den A).cells = (dens A cs).toArray) ∧ scs nb [] nr [] cs = true := by
  unfold cellsA at h
  split at h
  case h_1 => exact ⟨_, h, fun A => by simp [AVal.den, Value.cells], by simpa [AVal.sc] using hv⟩
  all_goals first
    | exact h.elim
    | (refine ⟨_, h, fun A => ?_, ?_⟩
       · simp [AVal.den, Value.cells, dens, Hdr.val, Hdr.ptr]
       · simp only [scs, hv])

theorem flatMap_set {α β : Type} (f : α → List β) (xs : List α) (i : Nat) (x : α) (h : i < xs.length) : (xs.set i x).flatMap f = (xs.take i).flatMap f ++ f x ++ (xs.drop (i + 1)).flatMap f := by
  rw [List.set_eq_take_append_cons_drop, if_pos h]
  simp [List.flatMap_append, List.flatMap_cons]

theorem take_mid {α β : Type} (f : α → List β) (sz : Nat) (hf : ∀ x, (f x).length = sz) (xs : List α) (i : Nat) (x' d : α) (h : i < xs.length) (L V : List β) (off : Nat) (hoff : off + V.length ≤ sz) (hL : L.take (xs.length * sz) = xs.flatMap f)
    (hx : f x' = (f (xs.getD i d)).take off ++ V ++ (f (xs.getD i d)).drop (off + V.length)) :
    (L.take (i * sz + off) ++ V ++ L.drop (i * sz + off + V.length)).take (xs.length * sz) = (xs.set i x').flatMap f := by
  have hxs : xs = xs.take i ++ xs.getD i d :: xs.drop (i + 1) := by
    rw [List.getD_eq_getElem?_getD, List.getElem?_eq_getElem h]; simp
  have hP : ((xs.take i).flatMap f).length = i * sz := by rw [flatMap_length f sz hf, List.length_take, Nat.min_eq_left (by omega)]
  have hS : ((xs.drop (i + 1)).flatMap f).length = (xs.length - (i + 1)) * sz := by rw [flatMap_length f sz hf]; simp
  have hC : xs.flatMap f = (xs.take i).flatMap f ++ (f (xs.getD i d) ++ (xs.drop (i + 1)).flatMap f) := by
    conv => lhs; rw [hxs]
    simp [List.flatMap_append, List.flatMap_cons]
  have hN : xs.length * sz = i * sz + sz + (xs.length - (i + 1)) * sz := by
    rw [show i * sz + sz = (i + 1) * sz by rw [Nat.add_mul]; omega, ← Nat.add_mul]; congr 1; omega
  have hLL : L = (xs.take i).flatMap f ++ (f (xs.getD i d) ++ ((xs.drop (i + 1)).flatMap f ++ L.drop (xs.length * sz))) := by
    conv => lhs; rw [← List.take_append_drop (xs.length * sz) L, hL, hC]
    simp
  rw [flatMap_set f xs i x' h, hx]
  generalize L.drop (xs.length * sz) = R at hLL
  subst hLL
  generalize (xs.take i).flatMap f = P at *
  generalize (xs.drop (i + 1)).flatMap f = S at *
  have hy := hf (xs.getD i d)
  generalize f (xs.getD i d) = Y at *
  have t1 : (P ++ (Y ++ (S ++ R))).take (i * sz + off) = P ++ Y.take off := by
    rw [List.take_append, List.take_of_length_le (by omega), hP, show i * sz + off - i * sz = off by omega, List.take_append_of_le_length (by omega)]
  have t2 : (P ++ (Y ++ (S ++ R))).drop (i * sz + off + V.length) = Y.drop (off + V.length) ++ (S ++ R) := by
    rw [List.drop_append, List.drop_eq_nil_of_le (by omega), hP, show i * sz + off + V.length - i * sz = off + V.length by omega, List.drop_append_of_le_length (by omega), List.nil_append]
  rw [t1, t2]
  have hlen : (P ++ Y.take off ++ V ++ (Y.drop (off + V.length) ++ S)).length = xs.length * sz := by
    simp [hP, hS, hy]; omega
  rw [show P ++ Y.take off ++ V ++ (Y.drop (off + V.length) ++ (S ++ R)) = (P ++ Y.take off ++ V ++ (Y.drop (off + V.length) ++ S)) ++ R by simp, ← hlen, List.take_left']
  · simp
  · rfl

/-- Blocks of rows of the walk's own are turned: what is told of all others stays. -/
theorem Mem.drop {hp : Nat → Option (List AVal)} {rw_ rw' : Nat → Option Row} {w' : World} (h : Mem E A hp rw_ w) {tch : Nat → Prop} (hsub : ∀ k r, rw' k = some r → rw_ k = some r)
    (htch : ∀ b, tch b → ∃ k r, rw_ k = some r ∧ r.own = true ∧ rw' k = none ∧ Feet r (A.rw k) (A.inn k) b) (hk : Kept (fun b => b < w.heap.size ∧ ¬ tch b) w w') (hK : ∀ b, E.K b → b < w.heap.size) : Mem E A hp rw' w' := by
  have hnK : ∀ b, tch b → ¬ E.K b := fun b hb => by
    obtain ⟨k, r, h1, h2, _, h4⟩ := htch b hb
    exact ((h.row k r h1).2 h2).2 b h4
  refine (h.sub (fun _ _ h => h) hsub).keep ⟨hk.os, hk.tape, hk.output, hk.size, fun b hb => hk.block b ⟨hK b hb, fun ht => hnK b ht hb⟩⟩ (fun i cs hi => hk.block _ ⟨h.box_lt hi, fun ht => ?_⟩) fun k r b hr hf => hk.block b ⟨h.foot_lt (hsub k r hr) hf, fun ht => ?_⟩
  · rcases Nat.lt_or_ge i E.b0 with hlt | hge
    · exact hnK _ ht ((h.box i cs hi).2.1 hlt)
    · obtain ⟨k, r, h1, h2, _, h4⟩ := htch _ ht
      exact h.br i cs k r _ hge hi h1 h4 rfl
  · obtain ⟨k', r', h1, h2, h3, h4⟩ := htch b ht
    exact h.rr k' k r' r b h1 (hsub k r hr) (fun e => by subst e; rw [hr] at h3; cases h3) h2 h4 hf

/-- A row of the walk's own is told anew: the blocks are the same. -/
theorem Mem.redo {hp : Nat → Option (List AVal)} {rw_ : Nat → Option Row} {w' : World} (h : Mem E A hp rw_ w) {r : Nat} {row row' : Row} (hr : rw_ r = some row) (ho : row.own = true)
    (hk : Kept (fun b => b < w.heap.size ∧ ¬ Feet row (A.rw r) (A.inn r) b) w w') (hK : ∀ b, E.K b → b < w.heap.size) (hrow : RowsOwn w' (A.rw r) (A.inn r) row')
    (hfeet : ∀ b, Feet row' (A.rw r) (A.inn r) b → Feet row (A.rw r) (A.inn r) b) : Mem E A hp (upd rw_ r (some row')) w' := by
  have hd := h.drop (rw' := upd rw_ r none) (tch := Feet row (A.rw r) (A.inn r)) (fun k c hk' => by
    by_cases e : k = r
    · subst e; rw [upd_same] at hk'; cases hk'
    · rwa [upd_ne _ _ _ e] at hk') (fun b hb => ⟨r, row, hr, ho, upd_same _ _ _, hb⟩) hk hK
  have hnk := ((h.row r row hr).2 ho).2
  have cases' : ∀ j c, upd rw_ r (some row') j = some c → (j = r ∧ c = row') ∨ (j ≠ r ∧ rw_ j = some c ∧ upd rw_ r none j = some c) := fun j c hj => by
    by_cases e : j = r
    · subst e; rw [upd_same] at hj; exact .inl ⟨rfl, (Option.some.inj hj).symm⟩
    · rw [upd_ne _ _ _ e] at hj; exact .inr ⟨e, hj, by rw [upd_ne _ _ _ e]; exact hj⟩
  refine ⟨hd.kept, hd.box, fun k c hk' => ?_, hd.bb, fun i ci k c b h0 hi hk' hf => ?_, fun k k' c c' b hk1 hk2 hkk hown hf hf' => ?_, hd.args⟩
  · rcases cases' k c hk' with ⟨rfl, rfl⟩ | ⟨hne, _, hk2⟩
    · exact ⟨hrow.at, fun _ => ⟨hrow, fun b hb => hnk b (hfeet b hb)⟩⟩
    · exact hd.row k c hk2
  · rcases cases' k c hk' with ⟨rfl, rfl⟩ | ⟨hne, _, hk2⟩
    · exact h.br i ci k row b h0 hi hr (hfeet b hf)
    · exact hd.br i ci k c b h0 hi hk2 hf
  · rcases cases' k c hk1 with ⟨rfl, rfl⟩ | ⟨_, h1, h1'⟩ <;> rcases cases' k' c' hk2 with ⟨rfl, rfl⟩ | ⟨_, h2, h2'⟩
    · exact hkk rfl
    · exact h.rr k k' row c' b hr h2 hkk ho (hfeet b hf) hf'
    · exact h.rr k k' c row b h1 hr hkk hown hf (hfeet b hf')
    · exact h.rr k k' c c' b h1 h2 hkk hown hf hf'

theorem kept_setRow (w : World) (g : Nat) (cs : Array Value) {K : Nat → Prop} (hK : ∀ b, K b → b ≠ g) : Kept K w (w.setRow g cs) :=
  ⟨rfl, rfl, rfl, by rw [setRow_size]; exact Nat.le_refl _, fun k hk => setRow_other _ _ _ _ (hK k hk)⟩

/-- A store into an element of a row of the walk's own. -/
theorem store_own {P : Program} {T : TypeId → Option TInfo} (hT : TOk P T) {t : TypeId} {ti : TInfo} (ht : T t = some ti) {hd : Hdr} {c : TyC} {e : TypeId} {xs : List c.α} (ho : RowOwn w hd ⟨c, e, true, xs⟩) {i off : Nat} (hi : i < xs.length) {vs cs' : List AVal} {x' : c.α}
    (hb : vs.length = ti.size) (hle : off + vs.length ≤ c.sz) (hcs' : cs' = (c.enc (xs.getD i c.dflt)).take off ++ vs ++ (c.enc (xs.getD i c.dflt)).drop (off + vs.length)) (hdec : c.dec cs' = some x') (vv : Value) (hvs : vv.cells = (dens A vs).toArray) :
    ∃ g cur', hd.a = some ⟨g, 0, none⟩ ∧ RowOwn (w.setRow g cur') hd ⟨c, e, true, xs.set i x'⟩ ∧ ∀ ρ : Operand → Value, ∀ x v ty pos after guard, ρ x = hd.ptr (i * c.sz + off) → ρ v = vv →
      (execOp ρ ⟨none, .store t x v, ty, pos, after, guard⟩).run P w = .ok .skip (w.setRow g cur') := by
  have henc := TyC.dec_enc hdec
  have hfl : ∀ v ∈ vs, v.flat = true := fun v hv => c.flat x' v (by rw [henc, hcs']; simp [hv])
  have hv0 : dens A vs = dens A0 vs := dens_flat hfl A A0
  have hone : ∀ v ∈ dens A vs, v.oneCell' = true := fun v hv => by
    rw [dens_eq] at hv
    obtain ⟨y, hy, rfl⟩ := List.mem_map.1 hv
    have := hfl y hy
    cases y <;> simp_all [AVal.flat, AVal.den, Value.oneCell']
  rcases ho.2 with ⟨_, hn⟩ | ⟨g, cap, cur, hv, _, hg, hle2, hm2, hcs, htk⟩
  · simp at hn; rw [hn] at hi; simp at hi
  · have hv' := hv
    simp only [Hdr.val, Value.slice.injEq] at hv'
    obtain ⟨hva, hvl, hvc⟩ := hv'
    have hcs : cur.size = cap * c.sz := hcs
    have hle2 : xs.length ≤ cap := hle2
    have hl2 : (dens A vs).length = vs.length := by rw [dens_eq]; simp
    have hbnd : i * c.sz + off + vs.length ≤ cur.size := by
      have h1 : (i + 1) * c.sz ≤ cap * c.sz := Nat.mul_le_mul_right _ (by omega)
      rw [Nat.add_mul] at h1
      rw [hcs]; omega
    have hst := run_storeCells_at P g (i * c.sz + off) e (dens A vs) 0 cur w hg (by rw [hl2]; omega) hone
    simp only [Nat.add_zero, hl2] at hst
    let cur' : Array Value := (cur.toList.take (i * c.sz + off) ++ dens A vs ++ cur.toList.drop (i * c.sz + off + vs.length)).toArray
    have hown' : RowOwn (w.setRow g cur') hd ⟨c, e, true, xs.set i x'⟩ := by
      refine ⟨by rw [Row.cells_length], .inr ⟨g, cap, cur', by rw [hv]; simp, Nat.zero_le _, setRow_heap _ _ _ _ _ _ hg, by simpa using hle2, hm2, ?_, ?_⟩⟩
      · show cur'.size = cap * c.sz
        simp only [cur', List.size_toArray, List.length_append, List.length_take, List.length_drop, hl2, Array.length_toList]; omega
      · simp only [cur', List.length_set, Row.cells]
        rw [← hl2]
        refine take_mid (fun x => dens A0 (c.enc x)) c.sz (fun x => by rw [dens_eq]; simp [c.enc_len]) xs i x' c.dflt hi cur.toList (dens A vs) off (by rw [hl2]; exact hle) htk ?_
        rw [hl2, hv0, henc, hcs']
        simp only [dens_eq, List.map_append, List.map_take, List.map_drop]
    refine ⟨g, cur', hva, hown', fun ρ x v ty pos after guard ex evv => ?_⟩
    have hszs : ((dens A vs).toArray.size ≠ ti.size) = False := by simp [hl2, hb]
    have hadd : (⟨g, 0, none⟩ : Addr).add (i * c.sz + off) = ⟨g, i * c.sz + off, none⟩ := by unfold Addr.add; split <;> simp_all
    have hptr : hd.ptr (i * c.sz + off) = .pointer (some ⟨g, i * c.sz + off, none⟩) := by
      simp only [Hdr.ptr, hva, Option.getD_some, hadd]
    simp only [execOp, ex, evv, hptr]
    simp only [Instr.storeAt, Instr.sureAddr, Sem.run_bind, Sem.run_pure, Result.andThen_ok, storeVar, run_size (hT _ _ ht), hvs, hszs, if_false, hst]
    rfl

section
variable {c : TyC} {e' e : TypeId} {yss : List (List c.α)} {h : Hdr} {ih : Nat → Hdr}
theorem parts_get {own : Bool} (j : Nat) (hj : j < yss.length) : ((⟨.lst c e', e, own, yss⟩ : Row).parts h ih)[j + 1]? = some (ih j, ⟨c, e', own, yss.getD j []⟩) := by
  rw [parts_lst, List.getElem?_cons_succ, List.getElem?_map, List.getElem?_range hj]; rfl
/-- One of the rows in a row of rows is told anew, in its own block. -/
theorem RowsOwn.setInner {i g : Nat} {ys : List c.α} {cur' : Array Value} (ho : RowsOwn w h ih ⟨.lst c e', e, true, yss⟩) (hi : i < yss.length) (hva : (ih i).a = some ⟨g, 0, none⟩)
    (hown : RowOwn (w.setRow g cur') (ih i) ⟨c, e', true, ys⟩) : RowsOwn (w.setRow g cur') h ih ⟨.lst c e', e, true, yss.set i ys⟩ := by
  have hpi := parts_get (e' := e') (e := e) (h := h) (ih := ih) (own := true) i hi
  refine ⟨fun p hp => ?_, fun i1 j1 p q hp hq hij a b ha hb => ?_⟩
  · rw [parts_lst, List.length_set] at hp
    simp only [List.mem_cons, List.mem_map, List.mem_range] at hp
    rcases hp with rfl | ⟨k, hk, rfl⟩
    · refine (ho.outer).keep fun a ha => setRow_other _ _ _ _ ?_
      exact ho.dis 0 (i + 1) _ _ rfl hpi (by omega) a _ ha hva
    · by_cases hki : k = i
      · subst hki
        have : (yss.set k ys).getD k [] = ys := by simp [List.getD, hi]
        rw [this]; exact hown
      · have : (yss.set i ys).getD k [] = yss.getD k [] := by
          rw [List.getD_eq_getElem?_getD, List.getD_eq_getElem?_getD, List.getElem?_set_ne (fun e => hki e.symm)]
        rw [this]
        refine (ho.inner hk).keep fun a ha => setRow_other _ _ _ _ ?_
        exact ho.dis (k + 1) (i + 1) _ _ (parts_get k hk) hpi (by omega) a _ ha hva
  · have same : ∀ (m : Nat) (p : Hdr × Row), ((⟨.lst c e', e, true, yss.set i ys⟩ : Row).parts h ih)[m]? = some p → ∃ q, ((⟨.lst c e', e, true, yss⟩ : Row).parts h ih)[m]? = some q ∧ q.1 = p.1 := fun m p hm => by
      rw [parts_lst, List.length_set] at hm
      rw [parts_lst]
      cases m with
      | zero => simp at hm; subst hm; exact ⟨_, rfl, rfl⟩
      | succ m =>
        rw [List.getElem?_cons_succ, List.getElem?_map] at hm ⊢
        cases hr : (List.range yss.length)[m]? with
        | none => rw [hr] at hm; cases hm
        | some y => rw [hr] at hm; cases hm; exact ⟨_, rfl, rfl⟩
    obtain ⟨p', hp', e1⟩ := same _ _ hp
    obtain ⟨q', hq', e2⟩ := same _ _ hq
    exact ho.dis i1 j1 p' q' hp' hq' hij a b (by rw [e1]; exact ha) (by rw [e2]; exact hb)
theorem feet_setInner {i : Nat} {ys : List c.α} {own : Bool} {b : Nat} (ho : own = true) (hf : Feet ⟨.lst c e', e, own, yss.set i ys⟩ h ih b) : Feet ⟨.lst c e', e, own, yss⟩ h ih b := by
  subst ho
  obtain ⟨p, hp, _, a, ha, rfl⟩ := hf
  rw [parts_lst, List.length_set] at hp
  simp only [List.mem_cons, List.mem_map, List.mem_range] at hp
  rcases hp with rfl | ⟨k, hk, rfl⟩
  · exact ⟨_, mem_outer, .inl rfl, a, ha, rfl⟩
  · exact ⟨_, mem_inner hk, .inl rfl, a, ha, rfl⟩
end

theorem nthj_setR (l : List (Option Row)) (i : Nat) (x : Row) (hi : i < l.length) : nthj (l.set i (some x)) = upd (nthj l) i (some x) := nthj_set l i x hi

theorem stA_sound (hT : TOk E.P T) {t : TypeId} {x v : Operand} {k : St → Prop} (hs : Sat E A σ a w) (h : stA T E.b0 σ t x v k) :
    ∃ σ' w', k σ' ∧ Sat E A σ' a w' ∧ ∀ ty pos after guard, (execOp a.eval ⟨none, .store t x v, ty, pos, after, guard⟩).run E.P w = .ok .skip w' := by
  obtain ⟨fr, hp, rows⟩ := σ
  simp only [stA] at h
  replace h := with1_eq h; obtain ⟨xv, hx, h⟩ := h
  replace h := with1_eq h; obtain ⟨vv, hv, h⟩ := h
  have ex := ev_sound hs (x := x) hx
  have evv := ev_sound hs (x := v) hv
  have hvsc := ev_sc hs (x := v) hv
  cases xv <;> simp only at h
  case loc i off =>
    cases hb0 : Nat.ble E.b0 i with
    | false => simp [hb0] at h
    | true =>
    have hi0 : E.b0 ≤ i := Nat.le_of_ble_eq_true hb0
    simp only [hb0] at h
    cases hi : nthj hp i with
    | none => simp [hi] at h
    | some cs =>
      simp only [hi] at h
      cases ht : T t with
      | none => simp [ht] at h
      | some ti =>
        simp only [ht] at h
        replace h := cellsA_sc h hvsc; obtain ⟨vs, h, hvs, hsc⟩ := h
        split at h
        · rename_i hb
          have hb := Nat.eq_of_beq_eq_true hb
          rw [lenN_eq] at hb
          split at h
          · rename_i hone
            obtain ⟨hle, h⟩ := over_eq _ _ _ _ h
            rw [setK_eq] at h
            have hil : i < hp.length := by
              rcases Nat.lt_or_ge i hp.length with h' | h'
              · exact h'
              · rw [nthj_none h'] at hi; cases hi
            have hm := hs.mem.setBox (cs' := cs.take off ++ vs ++ cs.drop (off + vs.length)) hi0 hi
            refine ⟨_, w.setRow (A.bx i) (dens A (cs.take off ++ vs ++ cs.drop (off + vs.length))).toArray, h, ?_, fun ty pos after guard => ?_⟩
            · have hcsc := hs.hsc i cs hi
              refine { hs with
                sc := fun t y hy => by simpa using hs.sc t y hy
                hsc := fun j c hj => ?_
                mem := ?_
                klt := fun b hb' => by rw [setRow_size]; exact hs.klt b hb'
                b0 := by simpa using hs.b0 }
              · simp only [List.length_set]
                simp only [nthj_set _ _ _ hil] at hj
                by_cases hji : j = i
                · subst hji
                  rw [upd_same] at hj
                  cases hj
                  rw [scs_all] at hcsc ⊢
                  rw [scs_all] at hsc
                  intro y hy
                  simp only [List.mem_append] at hy
                  rcases hy with (hy | hy) | hy
                  · exact hcsc y (List.mem_of_mem_take hy)
                  · exact hsc y hy
                  · exact hcsc y (List.mem_of_mem_drop hy)
                · rw [upd_ne _ _ _ hji] at hj; exact hs.hsc j c hj
              · simp only [nthj_set _ _ _ hil]; exact hm
            · obtain ⟨⟨t', ht'⟩, _⟩ := hs.mem.box i cs hi
              have hl : (dens A cs).length = cs.length := by rw [dens_eq]; simp
              have hl2 : (dens A vs).length = vs.length := by rw [dens_eq]; simp
              have hst := run_storeCells_at E.P (A.bx i) off t' (dens A vs) 0 (dens A cs).toArray w ht' (by simp [hl, hl2]; omega) (allOne_den hone A)
              have hcells : (vv.den A).cells = (dens A vs).toArray := hvs A
              have hsz : ((dens A vs).toArray.size ≠ ti.size) = False := by simp [hl2, hb]
              simp only [execOp, ex, evv, AVal.den]
              simp only [Instr.storeAt, Instr.sureAddr, Sem.run_bind, Sem.run_pure, Result.andThen_ok, storeVar, run_size (hT _ _ ht), hcells, hsz, if_false, hst]
              simp only [dens_eq, List.map_append, List.map_take, List.map_drop, Nat.add_zero, List.length_map]
          · exact h.elim
        · exact h.elim
  case ele r i off sz =>
    cases hr : nthj rows r with
    | none => simp [hr] at h
    | some row =>
      obtain ⟨c, e, own, xs⟩ := row
      cases own
      case false => simp [hr] at h
      case true =>
      simp only [hr] at h
      cases ht : T t with
      | none => simp [ht] at h
      | some ti =>
        simp only [ht] at h
        split at h
        case h_2 => exact h.elim
        rename_i hcl
        replace h := cellsA_sc h hvsc; obtain ⟨vs, h, hvs, hsc⟩ := h
        split at h
        · rename_i hb
          have hb := Nat.eq_of_beq_eq_true hb
          rw [lenN_eq] at hb
          split at h
          · rename_i hsz
            have hsz := Nat.eq_of_beq_eq_true hsz
            obtain ⟨hle, h⟩ := over_eq _ _ _ _ h
            rw [c.enc_len] at hle
            split at h
            · rename_i x' hdec
              obtain ⟨hi, h⟩ := h
              replace h := eqK_eq h
              rw [setK_eq] at h
              obtain ⟨hat, ho⟩ := hs.mem.row r _ hr
              obtain ⟨ho, hnk⟩ := ho rfl
              have hil : r < rows.length := by
                rcases Nat.lt_or_ge r rows.length with h' | h'
                · exact h'
                · rw [nthj_none h'] at hr; cases hr
              obtain ⟨g, cur', hva, hown', hrun⟩ := store_own (A := A) hT ht (ho.flat hcl) hi hb hle rfl hdec (vv.den A) (hvs A)
              have hm := hs.mem.redo (row' := ⟨c, e, true, xs.set i x'⟩) hr rfl (kept_setRow w g cur' fun b hb2 e2 => hb2.2 (by subst e2; exact Foot.feet ⟨.inl rfl, _, hva, rfl⟩ hcl)) hs.klt (hown'.rows hcl) (fun b hb2 => by
                obtain ⟨_, h2⟩ := Feet.flat hb2 hcl
                exact Foot.feet ⟨.inl rfl, h2⟩ hcl)
              refine ⟨_, w.setRow g cur', h, ?_, fun ty pos after guard => hrun a.eval x v ty pos after guard (by rw [ex]; simp only [AVal.den, hsz]) evv⟩
              refine { hs with
                sc := fun t y hy => by simpa using hs.sc t y hy
                hsc := fun j cc hj => by simpa using hs.hsc j cc hj
                mem := ?_
                klt := fun b hb' => by rw [setRow_size]; exact hs.klt b hb'
                n0 := by simpa using hs.n0 }
              simp only [nthj_set _ _ _ hil]; exact hm
            · exact h.elim
          · exact h.elim
        · exact h.elim
  case iele r i j off sz =>
    split at h
    case h_2 => exact h.elim
    rename_i c e' e yss hr
    cases ht : T t with
    | none => simp [ht] at h
    | some ti =>
      simp only [ht] at h
      split at h
      case h_2 => exact h.elim
      rename_i hcl
      replace h := cellsA_sc h hvsc; obtain ⟨vs, h, hvs, hsc⟩ := h
      split at h
      · rename_i hb
        have hb := Nat.eq_of_beq_eq_true hb
        rw [lenN_eq] at hb
        split at h
        · rename_i hsz
          have hsz := Nat.eq_of_beq_eq_true hsz
          obtain ⟨hle, h⟩ := over_eq _ _ _ _ h
          rw [c.enc_len] at hle
          split at h
          · rename_i x' hdec
            obtain ⟨⟨hi, hj⟩, h⟩ := h
            replace h := eqK_eq h
            rw [setK_eq] at h
            obtain ⟨hat, ho⟩ := hs.mem.row r _ hr
            obtain ⟨ho, hnk⟩ := ho rfl
            have hil : r < rows.length := by
              rcases Nat.lt_or_ge r rows.length with h' | h'
              · exact h'
              · rw [nthj_none h'] at hr; cases hr
            obtain ⟨g, cur', hva, hown', hrun⟩ := store_own (A := A) hT ht (ho.inner hi) hj hb hle rfl hdec (vv.den A) (hvs A)
            have hfg : Feet ⟨.lst c e', e, true, yss⟩ (A.rw r) (A.inn r) g := ⟨_, mem_inner hi, .inl rfl, _, hva, rfl⟩
            have hm := hs.mem.redo (row' := ⟨.lst c e', e, true, @List.set (List c.α) yss i ((@List.getD (List c.α) yss i []).set j x')⟩) hr rfl (kept_setRow w g cur' fun b hb2 e2 => hb2.2 (by subst e2; exact hfg)) hs.klt (ho.setInner hi hva hown') (fun b hb2 => feet_setInner rfl hb2)
            refine ⟨_, w.setRow g cur', h, ?_, fun ty pos after guard => hrun a.eval x v ty pos after guard (by rw [ex]; simp only [AVal.den, hsz]) evv⟩
            refine { hs with
              sc := fun t y hy => by simpa using hs.sc t y hy
              hsc := fun j cc hj => by simpa using hs.hsc j cc hj
              mem := ?_
              klt := fun b hb' => by rw [setRow_size]; exact hs.klt b hb'
              n0 := by simpa using hs.n0 }
            simp only [nthj_set _ _ _ hil]; exact hm
          · exact h.elim
        · exact h.elim
      · exact h.elim
  all_goals exact h.elim

end
end Go.Proofs.Ytlplngafncobkaa.Fw
