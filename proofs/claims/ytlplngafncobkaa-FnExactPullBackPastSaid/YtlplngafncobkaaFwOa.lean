/- Operations that turn rows: append, clear, rows put into rows, calls of functions that turn rows. -/
import Derived.Test.YtlplngafncobkaaFwO
namespace Go.Proofs.Ytlplngafncobkaa.Fw
open Go Go.RowKit
set_option linter.unusedVariables false
set_option linter.unusedSimpArgs false

theorem append_where {P : Program} (w : World) (t ty e : TypeId) (i : TypeInfo) (z : Value) (size bytes : Nat) (ht : P.underlying t = some (.slice e)) (hi : P.info? e = some i) (hz : i.zero = some z)
    (hsize : i.size = size) (hby : i.bytes = bytes) (hzs : z.cells.size = size) (hsz : 0 < size) (v : Value) (n : Nat) (xs : List Value) (hown : w.ownsRow 0 e size v n xs)
    (a : Addr) (m c : Nat) (news : List Value) (hl : news.length = m * size) (hnews : ∀ j u, news[j]? = some u → w.cell? (a.add j) = some u) (h1 : ∀ u ∈ news, u.oneCell' = true)
    (h63 : n + m ≤ maxLen) (hbytes : (n + m) * bytes ≤ 140737488355328) :
    ∃ v' w', (Builtin.append_ #[t, t] ty #[v, .slice (some a) m c]).run P w = .ok v' w' ∧ w'.ownsRow 0 e size v' (n + m) (xs ++ news) ∧ w.grownBy w' v.ownBlock ∧
      (∀ b, v'.ownBlock = some b → v.ownBlock = some b ∨ w.heap.size ≤ b) := by
  obtain ⟨v', w', hr, h2, h3, h4⟩ := run_append_own (P := P) w 0 t ty e i z size bytes ht hi hz hsize hby hzs hsz v n xs hown a m c news hl hnews h1 h63 hbytes (Nat.zero_le _)
  refine ⟨v', w', hr, h2, h3, fun b hb => ?_⟩
  subst hsize; subst hby
  have h63' : ((n + m : Nat) : Int) ≤ 9223372036854775807 := by simp only [maxLen] at h63; omega
  rcases hown.2 with ⟨rfl, rfl⟩ | ⟨g, cap, cur, rfl, _, hg, hnc, hcm, hcs, htake⟩
  · by_cases hm : m = 0
    · subst hm
      have := h4.2 ⟨rfl, rfl⟩
      subst this
      cases hb
    · have hr' := run_append_nil (P := P) w t ty e i z ht hi hz a m c news hl hnews (by omega) (by omega) (by simp only [Nat.zero_add] at hbytes; omega)
      rw [hr] at hr'
      cases hr'
      cases hb
      exact .inr (Nat.le_refl _)
  · by_cases hroom : n + m ≤ cap
    · have hfit : n * i.size + news.length ≤ cur.size := by rw [hl, hcs, ← Nat.add_mul]; exact Nat.mul_le_mul_right _ hroom
      have hr' := run_append_room (P := P) w t ty e i ht hi g n cap cur hg a m c news hl hnews h1 hroom hfit
      rw [hr] at hr'
      cases hr'
      exact .inl hb
    · have holds : ∀ j u, xs[j]? = some u → w.cell? ((⟨g, 0, none⟩ : Addr).add j) = some u := hown.cells (g := g) rfl
      have hr' := run_append_grow (P := P) w t ty e i z ht hi hz ⟨g, 0, none⟩ n cap xs hown.1 holds a m c news hl hnews (by omega) (by omega) (growslice_fits (by omega) hbytes)
      rw [hr] at hr'
      cases hr'
      cases hb
      exact .inr (Nat.le_refl _)

/-- Own blocks of a header. -/
def Hdr.at (h : Hdr) (b : Nat) : Prop := ∃ a, h.a = some a ∧ a.block = b

theorem flatMap_append_cells (c : TyC) (xs ys : List c.α) : (xs ++ ys).flatMap (fun x => dens A0 (c.enc x)) = xs.flatMap (fun x => dens A0 (c.enc x)) ++ ys.flatMap (fun x => dens A0 (c.enc x)) := List.flatMap_append ..

theorem own_hdr {w : World} {e : TypeId} {size n : Nat} {v : Value} {xs : List Value} (h : w.ownsRow 0 e size v n xs) : ∃ hd : Hdr, v = hd.val ∧ hd.len = n ∧ ∀ b, hd.at b ↔ v.ownBlock = some b := by
  rcases h.2 with ⟨rfl, rfl⟩ | ⟨g, cap, cur, rfl, _⟩
  · exact ⟨⟨none, 0, 0⟩, rfl, rfl, fun b => by simp [Hdr.at, Value.ownBlock]⟩
  · exact ⟨⟨some ⟨g, 0, none⟩, n, cap⟩, rfl, rfl, fun b => by simp [Hdr.at, Value.ownBlock]⟩

/-- Appending a row to a row of the walk's own. -/
theorem append_row {P : Program} {T : TypeId → Option TInfo} (hT : TOk P T) {t ty e : TypeId} {ti ei : TInfo} (ht : T t = some ti) (hd : ti.desc = .slice e) (he : T e = some ei) {w : World} {h hx : Hdr} {c : TyC} {e1 : TypeId} {own : Bool} {xs ys : List c.α}
    (hsz : ei.size = c.sz) (ho : RowOwn w h ⟨c, e, true, xs⟩) (hr : RowAt w hx ⟨c, e1, own, ys⟩) (h63 : (xs.length : Int) + ys.length ≤ 9223372036854775807) (hby : ((xs.length : Int) + ys.length) * ei.bytes ≤ 140737488355328) :
    ∃ (h' : Hdr) (w' : World), (Builtin.append_ #[t, t] ty #[h.val, hx.val]).run P w = .ok h'.val w' ∧ RowOwn w' h' ⟨c, e, true, xs ++ ys⟩ ∧ Kept (fun b => b < w.heap.size ∧ ¬ h.at b) w w' ∧ (∀ b, h'.at b → h.at b ∨ w.heap.size ≤ b) := by
  have hund := (hT _ _ ht).und
  rw [hd] at hund
  obtain ⟨inf, z, hi, hsize, hbytes, hz, hzc⟩ := info_of (hT _ _ he)
  have hzs : z.cells.size = c.sz := by rw [hzc]; simp [dens_eq, (hT _ _ he).zlen, hsz]
  have hhl : h.len = xs.length := ho.at.len
  have hxl : hx.len = ys.length := hr.len
  have ho' : w.ownsRow 0 e c.sz h.val xs.length (xs.flatMap fun x => dens A0 (c.enc x)) := ho
  cases hxa : hx.a with
  | none =>
    have hys : ys = [] := by
      cases ys with
      | nil => rfl
      | cons y l =>
        obtain ⟨a, ha⟩ := hr.there (i := 0) (by show 0 < (y :: l).length; simp)
        rw [hxa] at ha; cases ha
    subst hys
    refine ⟨h, w, ?_, by simpa using ho, Kept.refl _ _, fun b hb => .inl hb⟩
    have hx0 : hx.len = 0 := hxl
    rcases ho'.2 with ⟨hv, hn⟩ | ⟨g, cap, cur, hv, _, _, hnc, _⟩
    · rw [hv]
      simp [Hdr.val, hxa, hx0, Builtin.append_, run_underlying hund, sizeOf, typeInfo, hi, Builtin.lenOf, Builtin.firstCells]
    · rw [hv]
      simp [Hdr.val, hxa, hx0, Builtin.append_, run_underlying hund, sizeOf, typeInfo, hi, Builtin.lenOf, Builtin.firstCells, hnc, storeCells]
  | some a =>
    have hnews : ∀ j u, (ys.flatMap fun x => dens A0 (c.enc x))[j]? = some u → w.cell? (a.add j) = some u := fun j u hj => by
      have hlt : j < ys.length * c.sz := by
        have := (List.getElem?_eq_some_iff.1 hj).1
        rwa [flatMap_length _ c.sz (fun x => by rw [dens_eq]; simp [c.enc_len])] at this
      have hp := c.pos
      have hq : j / c.sz < ys.length := by rw [Nat.div_lt_iff_lt_mul hp]; exact hlt
      have hm : j % c.sz < c.sz := Nat.mod_lt _ hp
      obtain ⟨a', ha', hc⟩ := hr.cell (j / c.sz) _ (List.getElem?_eq_getElem hq)
      rw [hxa] at ha'; cases ha'
      have hml : j % c.sz < (c.enc ys[j / c.sz]).length := by rw [c.enc_len]; exact hm
      have h1 := hc (j % c.sz) _ (List.getElem?_eq_getElem hml)
      have h2 := flatMap_get (fun x => dens A0 (c.enc x)) c.sz (fun x => by rw [dens_eq]; simp [c.enc_len]) ys (j / c.sz) (j % c.sz) _ _ (List.getElem?_eq_getElem hq) (by rw [dens_eq, List.getElem?_map, List.getElem?_eq_getElem hml]; rfl)
      have e1 : j / c.sz * c.sz + j % c.sz = j := by rw [Nat.mul_comm]; exact Nat.div_add_mod _ _
      rw [e1] at h1 h2
      rw [hj] at h2
      cases h2
      exact h1
    have hone : ∀ u ∈ (ys.flatMap fun x => dens A0 (c.enc x)), u.oneCell' = true := fun u hu => by
      obtain ⟨x, hx, hu⟩ := List.mem_flatMap.1 hu
      rw [dens_eq] at hu
      obtain ⟨y, hy, rfl⟩ := List.mem_map.1 hu
      have := c.flat x y hy
      cases y <;> simp_all [AVal.flat, AVal.den, Value.oneCell']
    have h63' : xs.length + ys.length ≤ maxLen := by simp only [maxLen]; omega
    have hby' : (xs.length + ys.length) * ei.bytes ≤ 140737488355328 := by
      have : (((xs.length + ys.length) * ei.bytes : Nat) : Int) ≤ 140737488355328 := by rw [Int.natCast_mul, Int.natCast_add]; exact hby
      omega
    obtain ⟨v', w', hrun, h2, h3, h4⟩ := append_where (P := P) w t ty e inf z c.sz ei.bytes hund hi hz (by rw [hsize, hsz]) hbytes hzs c.pos h.val xs.length _ ho' a ys.length hx.cap _ (flatMap_length _ c.sz (fun x => by rw [dens_eq]; simp [c.enc_len]) ys) hnews hone h63' hby'
    obtain ⟨hd', rfl, hl', hat'⟩ := own_hdr h2
    obtain ⟨h0, e0, _, hat0⟩ := own_hdr ho'
    have hat : ∀ b, h.at b ↔ h.val.ownBlock = some b := fun b => by
      unfold Hdr.at Hdr.val
      cases h.a <;> simp [Value.ownBlock]
    refine ⟨hd', w', by rw [← hrun]; simp only [Hdr.val, hxa, hxl], ?_, ⟨h3.os, h3.tape, h3.output, h3.size, fun b hb => h3.block b hb.1 (fun e => hb.2 ((hat b).2 e.symm))⟩, fun b hb => ?_⟩
    · unfold RowOwn Row.cells
      rw [flatMap_append_cells, List.length_append]
      exact h2
    · rcases h4 b ((hat' b).1 hb) with h | h
      · exact .inl ((hat b).2 h)
      · exact .inr h

section
variable {E : Env} {A : Asg} {a : Act} {w w' : World} {T : TypeId → Option TInfo} {G : List (FuncId × Ctr)}
variable {hpf : Nat → Option (List AVal)} {rw_ rw2 : Nat → Option Row}

/-- Rows of the walk's own are gone; a new one is made of their blocks and of new ones. -/
theorem Mem.remake (h : Mem E A hpf rw_ w) {tch : Nat → Prop} (hsub : ∀ k r, rw2 k = some r → rw_ k = some r)
    (htch : ∀ b, tch b → ∃ k r, rw_ k = some r ∧ r.own = true ∧ rw2 k = none ∧ Feet r (A.rw k) (A.inn k) b) (hk : Kept (fun b => b < w.heap.size ∧ ¬ tch b) w w') (hK : ∀ b, E.K b → b < w.heap.size)
    (l : Nat) (hd : Hdr) (ih : Nat → Hdr) (r : Row) (hl : rw2 l = none) (hn0 : E.n0 ≤ l) (hsc : ∀ i c, hpf i = some c → dens (A.setRw l hd ih) c = dens A c) (hr : RowsOwn w' hd ih r)
    (hfeet : ∀ b, Feet r hd ih b → w.heap.size ≤ b ∨ ∃ k r0, rw_ k = some r0 ∧ r0.own = true ∧ rw2 k = none ∧ Feet r0 (A.rw k) (A.inn k) b) : Mem E (A.setRw l hd ih) hpf (upd rw2 l (some r)) w' := by
  have hd' := h.drop hsub htch hk hK
  refine hd'.addRow l hd ih r hl hn0 hsc hr.at (fun _ => ⟨hr, fun b hb hKb => ?_⟩) (fun i ci b h0 hi hf e => ?_) (fun k' r' b hk' _ hf hf' => ?_)
  · rcases hfeet b hb with h1 | ⟨k, r0, h1, h2, h3, h4⟩
    · have := hK b hKb; omega
    · exact ((h.row k r0 h1).2 h2).2 b h4 hKb
  · rcases hfeet b hf with h1 | ⟨k, r0, h1, h2, h3, h4⟩
    · have := h.box_lt hi; omega
    · exact h.br i ci k r0 b h0 hi h1 h4 e
  · rcases hfeet b hf with h1 | ⟨k, r0, h1, h2, h3, h4⟩
    · have := h.foot_lt (hsub _ _ hk') hf'; omega
    · exact h.rr k k' r0 r' b h1 (hsub _ _ hk') (fun e => by subst e; rw [hk'] at h3; cases h3) h2 h4 hf'

theorem nthj_setNone {α : Type _} (l : List (Option α)) (i k : Nat) : nthj (l.set i none) k = if k = i then none else nthj l k := by
  rw [nthj_eq, nthj_eq]
  by_cases h : k = i
  · subst h
    rw [if_pos rfl, List.getElem?_set_self']
    cases l[k]? <;> rfl
  · rw [if_neg h, List.getElem?_set_ne (fun e => h e.symm)]

/-- The state behind an operation that turned rows. -/
theorem Sat.turned {fr : List AVal} {hp : List (Option (List AVal))} {rows rows3 : List (Option Row)} (h : Sat E A ⟨fr, hp, rows⟩ a w) (B : Asg) (hbx : ∀ i, i < hp.length → B.bx i = A.bx i)
    (hrw : ∀ k, k < rows.length → B.rw k = A.rw k ∧ B.inn k = A.inn k) (hlen : rows.length ≤ rows3.length) (hm : Mem E B (nthj hp) (nthj rows3) w') (hsz : w.heap.size ≤ w'.heap.size) (v : AVal) (dst : Option Tmp)
    (hsc : v.sc hp.length [] rows3.length [] = true) : Sat E B ⟨(match dst with | none => fr | some d => fr.set d v), hp, rows3⟩ (a.put dst (v.den B)) w' := by
  have hden : ∀ x : AVal, x.sc hp.length [] rows.length [] = true → x.den A = x.den B := fun x hx =>
    AVal.den_congr (fun j hj => by
      have : j < hp.length := by simpa using hj
      exact (hbx j this).symm) (fun j hj => by
      have : j < rows.length := by simpa using hj
      obtain ⟨h1, h2⟩ := hrw j this
      exact ⟨h1.symm, h2.symm⟩) x hx
  have old : ∀ (t : Nat) (x : AVal), fr[t]? = some x → (x = .junk ∨ a.tmps.getD t undef = x.den B) ∧ x.sc hp.length [] rows3.length [] = true := fun t x hx =>
    ⟨(h.fr t x hx).imp id (fun e => e.trans (hden x (h.sc t x hx))), AVal.sc_mono (Nat.le_refl _) hlen x (h.sc t x hx)⟩
  have base : ∀ fr' (a' : Act), a'.defers = [] → a'.tmps.size = fr'.length →
      (∀ (t : Nat) (x : AVal), fr'[t]? = some x → (x = .junk ∨ a'.tmps.getD t undef = x.den B) ∧ x.sc hp.length [] rows3.length [] = true) → Sat E B ⟨fr', hp, rows3⟩ a' w' := fun fr' a' hd hs hf =>
    { defers := hd
      size := hs
      fr := fun t x hx => (hf t x hx).1
      sc := fun t x hx => (hf t x hx).2
      hsc := fun i cs hi => scs_mono (Nat.le_refl _) hlen cs (h.hsc i cs hi)
      mem := hm
      klt := fun b hb => Nat.lt_of_lt_of_le (h.klt b hb) hsz
      n0 := Nat.le_trans h.n0 hlen
      b0 := h.b0 }
  cases dst with
  | none => exact base fr a h.defers h.size old
  | some d =>
    refine base _ _ h.defers (by simp [Act.put, h.size]) fun t x hx => ?_
    by_cases htd : t = d
    · subst htd
      rw [List.getElem?_set_self'] at hx
      cases hf : fr[t]? with
      | none => simp [hf] at hx
      | some y =>
        simp [hf] at hx
        subst hx
        have hlt : t < a.tmps.size := by rw [h.size]; exact (List.getElem?_eq_some_iff.1 hf).1
        exact ⟨.inr (by simp [Act.put, hlt]), hsc⟩
    · rw [List.getElem?_set_ne (fun e => htd e.symm)] at hx
      obtain ⟨h1, h2⟩ := old t x hx
      refine ⟨h1.imp id (fun e => ?_), h2⟩
      rw [← e]
      simp only [Act.put, Array.getD_eq_getD_getElem?]
      rw [Array.getElem?_setIfInBounds_ne (fun e => htd e.symm)]

theorem own_take {w : World} {h : Hdr} {c : TyC} {e : TypeId} {xs : List c.α} (ho : RowOwn w h ⟨c, e, true, xs⟩) {n : Nat} (hn : n ≤ xs.length) : RowOwn w (h.view 0 n c.sz) ⟨c, e, true, xs.take n⟩ := by
  have hl : (xs.take n).length = n := by simp; omega
  have hfm : ((xs.take n).flatMap fun x => dens A0 (c.enc x)) = (xs.flatMap fun x => dens A0 (c.enc x)).take (n * c.sz) := by
    have h1 : xs.flatMap (fun x => dens A0 (c.enc x)) = (xs.take n).flatMap (fun x => dens A0 (c.enc x)) ++ (xs.drop n).flatMap (fun x => dens A0 (c.enc x)) := by
      rw [← flatMap_append_cells, List.take_append_drop]
    rw [h1, List.take_left']
    rw [flatMap_length _ c.sz (fun x => by rw [dens_eq]; simp [c.enc_len]), hl]
  refine ⟨by rw [Row.cells_length], ?_⟩
  rcases ho.2 with ⟨hv, h0⟩ | ⟨g, cap, cur, hv, _, hg, hle, hm, hcs, htk⟩
  · simp only [Hdr.val, Value.slice.injEq] at hv
    obtain ⟨h1, h2, h3⟩ := hv
    have h0 : xs.length = 0 := h0
    have : n = 0 := by omega
    subst this
    refine .inl ⟨?_, by simp⟩
    simp only [Hdr.val, Hdr.view, h1, h3]
    simp
  · have hv' := hv
    simp only [Hdr.val, Value.slice.injEq] at hv'
    obtain ⟨hva, hvl, hvc⟩ := hv'
    have hle : xs.length ≤ cap := hle
    refine .inr ⟨g, cap, cur, ?_, Nat.zero_le _, hg, by rw [hl]; omega, hm, hcs, ?_⟩
    · simp only [Hdr.val, Hdr.view, hva, hvc, hl]
      split <;> simp [add_zero']
    · have htk : cur.toList.take (xs.length * c.sz) = xs.flatMap fun x => dens A0 (c.enc x) := htk
      show cur.toList.take ((xs.take n).length * c.sz) = (xs.take n).flatMap fun x => dens A0 (c.enc x)
      rw [hl, hfm, ← htk, List.take_take]
      congr 1
      have : n * c.sz ≤ xs.length * c.sz := Nat.mul_le_mul_right _ hn
      omega

theorem view_at {h : Hdr} {n sz b : Nat} : (h.view 0 n sz).at b ↔ h.at b := by
  unfold Hdr.at Hdr.view
  simp only [Nat.zero_mul]
  split
  · rfl
  · cases h.a with
    | none => simp
    | some a => simp [add_zero']

/-- What is appended reads as a row. -/
theorem srcA_inv {rows : List (Option Row)} {c : TyC} {x : AVal} {k : List c.α → Prop} (hcl : c.isL = false) (hm : Mem E A hpf (nthj rows) w) (h : srcA rows c x k) :
    ∃ (ys : List c.α) (hx : Hdr) (e : TypeId) (own : Bool), k ys ∧ x.den A = hx.val ∧ RowAt w hx ⟨c, e, own, ys⟩ := by
  unfold srcA at h
  split at h
  · rename_i r
    split at h
    · rename_i c' e own ys hr
      split at h
      · rename_i hs
        have := TyC.same_eq hs
        subst this
        exact ⟨ys, A.rw r, e, own, h, rfl, (hm.row r _ hr).1.flat hcl⟩
      · exact h.elim
    · exact h.elim
  · rename_i r lo n sz
    split at h
    · rename_i c' e own ys hr
      split at h
      · rename_i hsz
        have hsz := Nat.eq_of_beq_eq_true hsz
        split at h
        · rename_i hs
          have := TyC.same_eq hs
          subst this
          subst hsz
          obtain ⟨hn, h⟩ := h
          exact ⟨_, _, e, false, h, rfl, ((hm.row r _ hr).1.flat hcl).view lo n hn⟩
        · exact h.elim
      · exact h.elim
    · exact h.elim
  · exact ⟨[], ⟨none, 0, 0⟩, 0, true, h, rfl, (own_nil w c 0).at⟩
  · exact h.elim

theorem parts_nil (h : Hdr) (ih : Nat → Hdr) (c : TyC) (e : TypeId) (own : Bool) : ∃ r0 : Row, (⟨c, e, own, (show List c.α from [])⟩ : Row).parts h ih = [(h, r0)] ∧ r0.xs = [] ∧ r0.own = own := by
  by_cases hc : c.isL = true
  · cases c <;> simp only [TyC.isL] at hc <;> first | cases hc | skip
    exact ⟨_, rfl, rfl, rfl⟩
  · rw [parts_flat (by simpa using hc)]
    exact ⟨_, rfl, rfl, rfl⟩
theorem rows_nil (w : World) (ih : Nat → Hdr) (c : TyC) (e : TypeId) : RowsOwn w ⟨none, 0, 0⟩ ih ⟨c, e, true, []⟩ := by
  obtain ⟨r0, h1, h2, h3⟩ := parts_nil ⟨none, 0, 0⟩ ih c e true
  refine ⟨fun p hp => ?_, fun i j p q hi hj hij => ?_⟩
  · rw [h1] at hp
    simp only [List.mem_singleton] at hp
    subst hp
    obtain ⟨c0, e0, own0, xs0⟩ := r0
    simp only at h2 h3
    subst h2; subst h3
    exact own_nil _ _ _
  · rw [h1] at hi hj
    cases i with
    | zero => cases j with
      | zero => exact absurd rfl hij
      | succ j => simp at hj
    | succ i => simp at hi
theorem feet_nil {ih : Nat → Hdr} {c : TyC} {e : TypeId} {b : Nat} (hf : Feet ⟨c, e, true, []⟩ ⟨none, 0, 0⟩ ih b) : False := by
  obtain ⟨r0, h1, h2, h3⟩ := parts_nil ⟨none, 0, 0⟩ ih c e true
  obtain ⟨p, hp, _, a, ha, rfl⟩ := hf
  rw [h1] at hp
  simp only [List.mem_singleton] at hp
  subst hp
  cases ha

/-- To what it is appended: a row of the walk's own, which is gone then. -/
theorem dstA_inv {rows : List (Option Row)} {c : TyC} {e : TypeId} {s : AVal} {k : List (Option Row) → List c.α → Prop} (hm : Mem E A hpf (nthj rows) w) (h : dstA rows c e s k) :
    ∃ (rows1 : List (Option Row)) (xs : List c.α) (hd : Hdr) (ih : Nat → Hdr), k rows1 xs ∧ s.den A = hd.val ∧ rows1.length = rows.length ∧ (∀ k r, nthj rows1 k = some r → nthj rows k = some r) ∧ RowsOwn w hd ih ⟨c, e, true, xs⟩ ∧
      (∀ b, Feet ⟨c, e, true, xs⟩ hd ih b → ∃ k r, nthj rows k = some r ∧ r.own = true ∧ nthj rows1 k = none ∧ Feet r (A.rw k) (A.inn k) b) := by
  have gone : ∀ r k r0, nthj (rows.set r none) k = some r0 → nthj rows k = some r0 := fun r k r0 hk => by
    rw [nthj_setNone] at hk
    split at hk
    · cases hk
    · exact hk
  unfold dstA at h
  split at h
  · rename_i r
    split at h
    · rename_i c' e' xs hr
      split at h
      · rename_i he
        have he := Nat.eq_of_beq_eq_true he
        subst he
        split at h
        · rename_i hs
          have := TyC.same_eq hs
          subst this
          have h : setK rows r none (fun rows' => k rows' xs) := h
          rw [setK_eq] at h
          exact ⟨_, xs, A.rw r, A.inn r, h, rfl, by simp, gone r, ((hm.row r _ hr).2 rfl).1, fun b hb => ⟨r, _, hr, rfl, by rw [nthj_setNone, if_pos rfl], hb⟩⟩
        · exact h.elim
      · exact h.elim
    · exact h.elim
  · rename_i r lo n sz
    split at h
    · rename_i c' e' xs hr
      split at h
      · rename_i he
        have he := Nat.eq_of_beq_eq_true he
        subst he
        split at h
        · split at h
          · rename_i hcl hsz
            have hsz := Nat.eq_of_beq_eq_true hsz
            split at h
            · rename_i hs
              have := TyC.same_eq hs
              subst this
              subst hsz
              obtain ⟨hn, h⟩ : n ≤ xs.length ∧ setK rows r none (fun rows' => k rows' (xs.take n)) := h
              rw [setK_eq] at h
              have ho := ((hm.row r _ hr).2 rfl).1.flat hcl
              refine ⟨_, xs.take n, (A.rw r).view 0 n c'.sz, fun _ => ⟨none, 0, 0⟩, h, rfl, by simp, gone r, (own_take ho hn).rows hcl, fun b hb => ⟨r, _, hr, rfl, by rw [nthj_setNone, if_pos rfl], ?_⟩⟩
              obtain ⟨_, h2⟩ := Feet.flat hb hcl
              exact Foot.feet ⟨.inl rfl, view_at.1 h2⟩ hcl
            · exact h.elim
          · exact h.elim
        · exact h.elim
      · exact h.elim
    · exact h.elim
  · exact ⟨rows, [], ⟨none, 0, 0⟩, fun _ => ⟨none, 0, 0⟩, h, rfl, rfl, fun _ _ h => h, rows_nil _ _ _ _, fun b hb => (feet_nil hb).elim⟩
  · exact h.elim

/-- Rows that are put into a row of rows. -/
theorem takeR_inv {c : TyC} {e' : TypeId} {rows0 : List (Option Row)} (hcl : c.isL = false) (hm : Mem E A hpf (nthj rows0) w) : ∀ (cs : List AVal) (rows : List (Option Row)) (k : List (Option Row) → List (List c.α) → Prop), takeR c e' rows cs k →
    (∀ i r, nthj rows i = some r → nthj rows0 i = some r) → ∃ (rows2 : List (Option Row)) (zss : List (List c.α)) (hs : List Hdr), k rows2 zss ∧ hs.length = zss.length ∧ zss.length = cs.length ∧ rows2.length = rows.length ∧ dens A cs = hs.map Hdr.val ∧
      (∀ i r, nthj rows2 i = some r → nthj rows i = some r) ∧ (∀ (i : Nat) (h : Hdr), hs[i]? = some h → RowOwn w h ⟨c, e', true, zss.getD i []⟩) ∧
      (∀ (i : Nat) (h : Hdr) (b : Nat), hs[i]? = some h → h.at b → ∃ k r, nthj rows k = some r ∧ r.own = true ∧ nthj rows2 k = none ∧ Feet r (A.rw k) (A.inn k) b) ∧
      (∀ (i j : Nat) (h h' : Hdr) (b : Nat), i ≠ j → hs[i]? = some h → hs[j]? = some h' → h.at b → ¬ h'.at b)
  | [], rows, k, h, _ => ⟨rows, [], [], h, rfl, rfl, rfl, by simp [dens], fun _ _ h => h, fun i h hi => by simp at hi, fun i h b hi => by simp at hi, fun i j h h' b _ hi => by simp at hi⟩
  | x :: l, rows, k, h, hsub => by
    have gone : ∀ (rows : List (Option Row)) r k r0, nthj (rows.set r none) k = some r0 → nthj rows k = some r0 ∧ k ≠ r := fun rows r k r0 hk => by
      rw [nthj_setNone] at hk
      split at hk
      · cases hk
      · exact ⟨hk, by assumption⟩
    have key : ∀ (r : Nat) (row : Row) (ys : List c.α) (hd : Hdr), nthj rows r = some row → row.own = true → x.den A = hd.val → RowOwn w hd ⟨c, e', true, ys⟩ → (∀ b, hd.at b → Feet row (A.rw r) (A.inn r) b) →
        takeR c e' (rows.set r none) l (fun rows2 yss => k rows2 (ys :: yss)) →
        ∃ (rows2 : List (Option Row)) (zss : List (List c.α)) (hs : List Hdr), k rows2 zss ∧ hs.length = zss.length ∧ zss.length = (x :: l).length ∧ rows2.length = rows.length ∧ dens A (x :: l) = hs.map Hdr.val ∧
          (∀ i r, nthj rows2 i = some r → nthj rows i = some r) ∧ (∀ (i : Nat) (h : Hdr), hs[i]? = some h → RowOwn w h ⟨c, e', true, zss.getD i []⟩) ∧
          (∀ (i : Nat) (h : Hdr) (b : Nat), hs[i]? = some h → h.at b → ∃ k r, nthj rows k = some r ∧ r.own = true ∧ nthj rows2 k = none ∧ Feet r (A.rw k) (A.inn k) b) ∧
          (∀ (i j : Nat) (h h' : Hdr) (b : Nat), i ≠ j → hs[i]? = some h → hs[j]? = some h' → h.at b → ¬ h'.at b) := by
      intro r row ys hd hr hown hx ho hft h
      obtain ⟨rows2, zss, hs, h1, h2, h3, h4, h5, h6, h7, h8, h9⟩ := takeR_inv hcl hm l (rows.set r none) _ h (fun i r0 hi => hsub i r0 (gone rows r i r0 hi).1)
      have cross : ∀ (j : Nat) (h' : Hdr) (b : Nat), hs[j]? = some h' → hd.at b → ¬ h'.at b := fun j h' b hj hb hb' => by
        obtain ⟨k', r', q1, q2, q3, q4⟩ := h8 j h' b hj hb'
        obtain ⟨q5, q6⟩ := gone rows r k' r' q1
        exact hm.rr r k' row r' b (hsub _ _ hr) (hsub _ _ q5) (fun e => q6 e.symm) hown (hft b hb) q4
      refine ⟨rows2, ys :: zss, hd :: hs, h1, by simp [h2], by simp [h3], by simpa using h4, by simp [dens, hx, h5], fun i r0 hi => (gone rows r i r0 (h6 i r0 hi)).1, fun i h hi => ?_, fun i h b hi hb => ?_, fun i j h h' b hij hi hj hb => ?_⟩
      · cases i with
        | zero => simp at hi; subst hi; exact ho
        | succ i => simp at hi; simpa using h7 i h hi
      · cases i with
        | zero =>
          simp at hi; subst hi
          refine ⟨r, row, hr, hown, ?_, hft b hb⟩
          cases hq : nthj rows2 r with
          | none => rfl
          | some q => exact absurd rfl (gone rows r r q (h6 r q hq)).2
        | succ i =>
          simp at hi
          obtain ⟨k', r', q1, q2, q3, q4⟩ := h8 i h b hi hb
          exact ⟨k', r', (gone rows r k' r' q1).1, q2, q3, q4⟩
      · cases i with
        | zero => cases j with
          | zero => exact absurd rfl hij
          | succ j => simp at hi hj; subst hi; exact cross j h' b hj hb
        | succ i => cases j with
          | zero => simp at hi hj; subst hj; exact fun hb' => cross i h b hi hb' hb
          | succ j => simp at hi hj; exact h9 i j h h' b (fun e => hij (by rw [e])) hi hj hb
    cases x with
    | row r =>
      simp only [takeR] at h
      split at h
      · rename_i c' e2 ys hr
        split at h
        · rename_i he
          have he := Nat.eq_of_beq_eq_true he
          subst he
          split at h
          · rename_i hs
            have := TyC.same_eq hs
            subst this
            have h : setK rows r none (fun rows' => takeR c' e2 rows' l fun rows2 yss => k rows2 (ys :: yss)) := h
            rw [setK_eq] at h
            have ho := ((hm.row r _ (hsub _ _ hr)).2 rfl).1.flat hcl
            exact key r _ ys (A.rw r) hr rfl rfl ho (fun b ⟨a, ha, hb⟩ => Foot.feet ⟨.inl rfl, a, ha, hb⟩ hcl) h
          · exact h.elim
        · exact h.elim
      · exact h.elim
    | irow r i =>
      simp only [takeR] at h
      split at h
      · rename_i c' e2 e0 yss hr
        split at h
        · rename_i he
          have he := Nat.eq_of_beq_eq_true he
          subst he
          split at h
          · rename_i hs
            have := TyC.same_eq hs
            cases this
            obtain ⟨hi, h⟩ : i < @List.length (List c.α) yss ∧ setK rows r none (fun rows' => takeR c e2 rows' l fun rows2 zss => k rows2 (@List.getD (List c.α) yss i [] :: zss)) := h
            rw [setK_eq] at h
            have ho := ((hm.row r _ (hsub _ _ hr)).2 rfl).1
            exact key r _ _ (A.inn r i) hr rfl rfl (ho.inner hi) (fun b ⟨a, ha, hb⟩ => ⟨_, mem_inner hi, .inl rfl, a, ha, hb⟩) h
          · exact h.elim
        · exact h.elim
      · exact h.elim
    | raw v =>
      by_cases hv : v = .slice none 0 0
      · subst hv
        have h : takeR c e' rows l (fun rows2 yss => k rows2 ([] :: yss)) := h
        obtain ⟨rows2, zss, hs, h1, h2, h3, h4, h5, h6, h7, h8, h9⟩ := takeR_inv hcl hm l rows _ h hsub
        refine ⟨rows2, [] :: zss, ⟨none, 0, 0⟩ :: hs, h1, by simp [h2], by simp [h3], h4, by simp [dens, AVal.den, h5, Hdr.val], h6, fun i h hi => ?_, fun i h b hi hb => ?_, fun i j h h' b hij hi hj hb => ?_⟩
        · cases i with
          | zero => simp at hi; subst hi; exact own_nil _ _ _
          | succ i => simp at hi; simpa using h7 i h hi
        · cases i with
          | zero => simp at hi; subst hi; obtain ⟨a, ha, _⟩ := hb; cases ha
          | succ i => simp at hi; exact h8 i h b hi hb
        · cases i with
          | zero => simp at hi; subst hi; obtain ⟨a, ha, _⟩ := hb; cases ha
          | succ i => cases j with
            | zero => simp at hj; subst hj; rintro ⟨a, ha, _⟩; cases ha
            | succ j => simp at hi hj; exact h9 i j h h' b (fun e => hij (by rw [e])) hi hj hb
      · exfalso
        unfold takeR at h
        split at h
        · rename_i heq; cases heq
        · rename_i heq; cases heq
        · rename_i heq; cases heq
        · rename_i heq; cases heq; exact hv rfl
        · exact h
    | _ => exact h.elim

theorem Sat.scRw {fr : List AVal} {hp : List (Option (List AVal))} {rows : List (Option Row)} (hs : Sat E A ⟨fr, hp, rows⟩ a w) (hd : Hdr) (ih : Nat → Hdr) : ∀ i cs, nthj hp i = some cs → dens (A.setRw rows.length hd ih) cs = dens A cs := fun i cs hi =>
  (dens_congr (A := A) (B := A.setRw rows.length hd ih) (fun j hj => rfl) (fun j hj => by
    have hj : j < rows.length := by simpa using hj
    exact ⟨(upd_ne A.rw rows.length _ (by omega)).symm, (upd_ne A.inn rows.length _ (by omega)).symm⟩) cs (hs.hsc i cs hi)).symm

/-- An append. -/
theorem appA_sound (hT : TOk E.P T) {fr : List AVal} {hp : List (Option (List AVal))} {rows : List (Option Row)} {t : TypeId} {s x : Operand} {d : Nat} {k : St → Prop} (hs : Sat E A ⟨fr, hp, rows⟩ a w) (h : appA T ⟨fr, hp, rows⟩ t s x d k) :
    ∃ σ' B u w', k σ' ∧ Sat E B σ' (a.put (some d) u) w' ∧ ∀ ty, (Builtin.append_ #[t, t] ty #[a.eval s, a.eval x]).run E.P w = .ok u w' := by
  simp only [appA] at h
  obtain ⟨sv, hsv, h⟩ := with1_eq h
  obtain ⟨xv, hxv, h⟩ := with1_eq h
  have es := ev_sound hs (x := s) hsv
  have ex := ev_sound hs (x := x) hxv
  cases ht : T t with
  | none => simp [ht] at h
  | some ti =>
    simp only [ht] at h
    split at h
    case h_2 => exact h.elim
    rename_i e hd
    cases he : T e with
    | none => simp [he] at h
    | some ei =>
      simp only [he] at h
      split at h
      · rename_i c hc
        have hsz := ((hT _ _ he).ty c hc).1
        split at h
        case h_2 => exact h.elim
        rename_i hcl
        obtain ⟨rows1, xs, hd1, ih1, h, e1, hl1, hsub, ho, hft⟩ := dstA_inv hs.mem h
        obtain ⟨ys, hx, e2, own2, h, e3, hr⟩ := srcA_inv hcl hs.mem h
        obtain ⟨⟨h63, hby⟩, h⟩ := h
        replace h := eqK_eq h
        simp only [lenK_eq, pushK_eq, setK_eq] at h
        obtain ⟨h', w', hrun, hown', hkept, hat⟩ := append_row hT (ty := t) ht hd he hsz.symm (ho.flat hcl) hr h63 hby
        have hat1 : ∀ b, hd1.at b → Feet ⟨c, e, true, xs⟩ hd1 ih1 b := fun b ⟨a0, ha0, hb0⟩ => Foot.feet ⟨.inl rfl, a0, ha0, hb0⟩ hcl
        have hm := hs.mem.remake (rw2 := nthj rows1) (tch := hd1.at) hsub (fun b hb => hft b (hat1 b hb)) hkept hs.klt rows.length h' (fun _ => ⟨none, 0, 0⟩) ⟨c, e, true, xs ++ ys⟩ (nthj_none (by rw [hl1]; exact Nat.le_refl _)) hs.n0
          (hs.scRw _ _) (hown'.rows hcl) (fun b hb => by
            obtain ⟨_, h2⟩ := Feet.flat hb hcl
            rcases hat b h2 with h3 | h3
            · exact .inr (hft b (hat1 b h3))
            · exact .inl h3)
        have hn3 : nthj (rows1 ++ [some (⟨c, e, true, xs ++ ys⟩ : Row)]) = upd (nthj rows1) rows.length (some ⟨c, e, true, xs ++ ys⟩) := by
          funext q
          rw [nthj_snoc, hl1]; rfl
        have hden : (AVal.row rows.length).den (A.setRw rows.length h' (fun _ => ⟨none, 0, 0⟩)) = h'.val := by simp [AVal.den, Asg.setRw, upd_same]
        refine ⟨_, A.setRw rows.length h' (fun _ => ⟨none, 0, 0⟩), h'.val, w', h, ?_, fun ty => ?_⟩
        · have := hs.turned (B := A.setRw rows.length h' (fun _ => ⟨none, 0, 0⟩)) (rows3 := rows1 ++ [some (⟨c, e, true, xs ++ ys⟩ : Row)]) (w' := w') (fun _ _ => rfl) (fun q hq => ⟨upd_ne A.rw rows.length _ (by omega), upd_ne A.inn rows.length _ (by omega)⟩) (by simp [hl1]) (by rw [hn3]; exact hm) hkept.size (.row rows.length) (some d) (by simp [AVal.sc, lvl_eq, hl1])
          rw [hden] at this
          exact this
        · rw [es, ex, e1, e3]
          rw [← hrun]
          rfl
      · rename_i hc
        split at h
        case h_2 => exact h.elim
        rename_i e' hds hs1
        cases he' : T e' with
        | none => simp [he'] at h
        | some ei' =>
          simp only [he'] at h
          split at h
          case h_2 => exact h.elim
          rename_i c hc'
          split at h
          case h_2 => exact h.elim
          rename_i hcl
          split at h
          case h_2 => exact h.elim
          rename_i b m
          split at h
          case h_2 => exact h.elim
          rename_i cs hb
          split at h
          case h_2 => exact h.elim
          rename_i hbm
          have hbm := Nat.eq_of_beq_eq_true hbm
          rw [lenN_eq] at hbm
          obtain ⟨rows1, (yss : List (List c.α)), hd1, ih1, h, e1, hl1, hsub, ho, hft⟩ := dstA_inv (c := .lst c e') hs.mem h
          obtain ⟨rows2, zss, hz, h, hz1, hz2, hl2, hz3, hsub2, hz4, hz5, hz6⟩ := takeR_inv hcl hs.mem cs rows1 _ h hsub
          obtain ⟨⟨h63, hby⟩, h⟩ := h
          replace h := eqK_eq h
          simp only [lenK_eq, pushK_eq, setK_eq] at h
          have hra : RowAt w ⟨some ⟨A.bx b, 0, none⟩, m, m⟩ ⟨.sl, e, false, hz⟩ := by
            obtain ⟨⟨t', hbx⟩, _⟩ := hs.mem.box b cs hb
            refine ⟨by show m = hz.length; omega, Nat.le_refl _, by simp only [maxLen]; show m ≤ _; omega, fun i y hi => ⟨_, rfl, fun j cv hj => ?_⟩⟩
            have hi : hz[i]? = some y := hi
            cases j with
            | zero =>
              simp [TyC.enc] at hj; subst hj
              have hadd : (⟨A.bx b, 0, none⟩ : Addr).add (i * TyC.sl.sz + 0) = ⟨A.bx b, i, none⟩ := by
                simp only [TyC.sz, Nat.mul_one, Nat.add_zero]
                unfold Addr.add; split <;> simp_all
              rw [hadd]
              have hq : (dens A cs)[i]? = some y.val := by rw [hz3, List.getElem?_map, hi]; rfl
              simp [World.cell?, hbx, hq, AVal.den]
            | succ j => simp [TyC.enc] at hj
          have hq1 : @List.length TyC.sl.α (List.map ih1 (List.range yss.length)) = yss.length := (List.length_map ..).trans List.length_range
          have hq2 : @List.length TyC.sl.α hz = zss.length := hz1
          obtain ⟨h', w', hrun, hown', hkept, hat⟩ := append_row hT (ty := t) (c := .sl) ht hd he (by rw [hs1]; rfl) ho.outer hra (by rw [hq1, hq2]; exact h63) (by rw [hq1, hq2]; exact hby)
          clear h63 hby
          let n := yss.length
          let ihN : Nat → Hdr := fun i => if i < n then ih1 i else hz.getD (i - n) ⟨none, 0, 0⟩
          have hlen3 : (yss ++ zss).length = n + zss.length := by simp [n]
          have hrange : (List.range (yss ++ zss).length).map ihN = (List.range n).map ih1 ++ hz := by
            rw [hlen3, List.range_add, List.map_append]
            congr 1
            · exact List.map_congr_left fun i hi => by simp only [ihN]; rw [if_pos (List.mem_range.1 hi)]
            · rw [List.map_map, ← hz1]
              apply List.ext_getElem?
              intro i
              rw [List.getElem?_map]
              by_cases hi : i < hz.length
              · rw [List.getElem?_range hi]
                simp [ihN, hi]
                try (intro h0; exact absurd h0 (by omega))
              · rw [List.getElem?_eq_none (by simpa using hi), List.getElem?_eq_none (by omega)]; rfl
          have hrows2 : ∀ b, (∃ k r, nthj rows k = some r ∧ r.own = true ∧ nthj rows1 k = none ∧ Feet r (A.rw k) (A.inn k) b) → (∃ k r, nthj rows k = some r ∧ r.own = true ∧ nthj rows2 k = none ∧ Feet r (A.rw k) (A.inn k) b) := by
            rintro b ⟨k, r, q1, q2, q3, q4⟩
            refine ⟨k, r, q1, q2, ?_, q4⟩
            cases hq : nthj rows2 k with
            | none => rfl
            | some q => have := hsub2 k q hq; rw [q3] at this; cases this
          have hdfeet : ∀ b, hd1.at b → Feet ⟨.lst c e', e, true, yss⟩ hd1 ih1 b := fun b ⟨a0, ha0, hb0⟩ => hb0 ▸ Feet.head rfl ha0
          -- blocks of the old rows in it, of the rows put in: not turned
          have hk1 : ∀ (hh : Hdr) (row : Row), RowOwn w hh row → (∀ b, hh.at b → ¬ hd1.at b) → RowOwn w' hh row := fun hh row hro hne => hro.keep fun a0 ha0 => hkept.block _ ⟨RowOwn.foot_lt hro ⟨a0, ha0, rfl⟩, hne _ ⟨a0, ha0, rfl⟩⟩
          have hinn : ∀ i, i < n → ∀ b, (ih1 i).at b → ¬ hd1.at b := fun i hi b ⟨a0, ha0, hb0⟩ ⟨a1, ha1, hb1⟩ => ho.dis (i + 1) 0 _ _ (parts_get i hi) rfl (by omega) a0 a1 ha0 ha1 (hb0.trans hb1.symm)
          have htk : ∀ (i : Nat) (hh : Hdr) (b : Nat), hz[i]? = some hh → hh.at b → ∀ b', Feet ⟨.lst c e', e, true, yss⟩ hd1 ih1 b' → b ≠ b' := fun i hh b hi hb b' hb' e0 => by
            subst e0
            obtain ⟨k1, r1, q1, q2, q3, q4⟩ := hz5 i hh b hi hb
            obtain ⟨k2, r2, p1, p2, p3, p4⟩ := hft b hb'
            exact hs.mem.rr k1 k2 r1 r2 b (hsub _ _ q1) p1 (fun e0 => by subst e0; rw [q1] at p3; cases p3) q2 q4 p4
          have hnew : RowsOwn w' h' ihN ⟨.lst c e', e, true, yss ++ zss⟩ := by
            have part : ∀ m p, ((⟨.lst c e', e, true, yss ++ zss⟩ : Row).parts h' ihN)[m]? = some p → (m = 0 ∧ p = (h', ⟨.sl, e, true, (List.range n).map ih1 ++ hz⟩)) ∨ (∃ i, i < n ∧ m = i + 1 ∧ p = (ih1 i, ⟨c, e', true, yss.getD i []⟩)) ∨
                (∃ i hh, hz[i]? = some hh ∧ m = n + i + 1 ∧ p = (hh, ⟨c, e', true, zss.getD i []⟩)) := fun m p hm => by
              cases m with
              | zero =>
                have hm : some (h', (⟨.sl, e, true, (List.range (yss ++ zss).length).map ihN⟩ : Row)) = some p := hm
                cases hm
                exact .inl ⟨rfl, congrArg (fun z : List Hdr => ((h', (⟨.sl, e, true, z⟩ : Row)) : Hdr × Row)) hrange⟩
              | succ m =>
                have hml : m < (yss ++ zss).length := by
                  rw [parts_lst, List.getElem?_cons_succ, List.getElem?_map] at hm
                  rcases Nat.lt_or_ge m (yss ++ zss).length with h0 | h0
                  · exact h0
                  · rw [List.getElem?_eq_none (by simpa using h0)] at hm; cases hm
                rw [parts_get m hml] at hm
                cases hm
                by_cases hmn : m < n
                · refine .inr (.inl ⟨m, hmn, rfl, ?_⟩)
                  simp only [ihN, if_pos hmn]
                  rw [List.getD_eq_getElem?_getD, List.getD_eq_getElem?_getD, List.getElem?_append_left hmn]
                · have hlt : m - n < hz.length := by rw [hz1]; omega
                  refine .inr (.inr ⟨m - n, hz[m - n], List.getElem?_eq_getElem hlt, by omega, ?_⟩)
                  simp only [ihN, if_neg hmn]
                  rw [List.getD_eq_getElem?_getD, List.getD_eq_getElem?_getD, List.getElem?_append_right (by show n ≤ m; omega)]
                  simp [hlt, n]
            have ihat : ∀ i, i < n → ∀ b, (ih1 i).at b → Feet ⟨.lst c e', e, true, yss⟩ hd1 ih1 b := fun i hi b ⟨a0, ha0, hb0⟩ => ⟨_, mem_inner hi, .inl rfl, a0, ha0, hb0⟩
            have h'not : ∀ (hh : Hdr) (row : Row) b, RowOwn w hh row → (∀ b, hh.at b → ¬ hd1.at b) → hh.at b → ¬ h'.at b := fun hh row b hro hne hb hb' => by
              rcases hat b hb' with h0 | h0
              · exact hne b hb h0
              · have := RowOwn.foot_lt hro hb; omega
            refine ⟨fun p hp => ?_, fun i j p q hi hj hij x y hx hy he0 => ?_⟩
            · obtain ⟨m, hm⟩ := List.mem_iff_getElem?.1 hp
              rcases part m p hm with ⟨_, rfl⟩ | ⟨i, hi, _, rfl⟩ | ⟨i, hh, hi, _, rfl⟩
              · exact hown'
              · exact hk1 _ _ (ho.inner hi) (hinn i hi)
              · exact hk1 _ _ (hz4 i hh hi) (fun b hb hb' => htk i hh b hi hb b (hdfeet b hb') rfl)
            · rcases part i p hi with ⟨rfl, rfl⟩ | ⟨i1, hi1, rfl, rfl⟩ | ⟨i1, hh, hi1, rfl, rfl⟩ <;> rcases part j q hj with ⟨rfl, rfl⟩ | ⟨j1, hj1, rfl, rfl⟩ | ⟨j1, hh2, hj1, rfl, rfl⟩
              · exact hij rfl
              · exact h'not _ _ _ (ho.inner hj1) (hinn j1 hj1) ⟨y, hy, he0.symm⟩ ⟨x, hx, rfl⟩
              · exact h'not _ _ _ (hz4 j1 hh2 hj1) (fun b hb hb' => htk j1 hh2 b hj1 hb b (hdfeet b hb') rfl) ⟨y, hy, he0.symm⟩ ⟨x, hx, rfl⟩
              · exact h'not _ _ _ (ho.inner hi1) (hinn i1 hi1) ⟨x, hx, rfl⟩ ⟨y, hy, he0.symm⟩
              · exact ho.dis (i1 + 1) (j1 + 1) _ _ (parts_get i1 hi1) (parts_get j1 hj1) hij x y hx hy he0
              · exact htk j1 hh2 _ hj1 ⟨y, hy, rfl⟩ _ (ihat i1 hi1 _ ⟨x, hx, rfl⟩) he0.symm
              · exact h'not _ _ _ (hz4 i1 hh hi1) (fun b hb hb' => htk i1 hh b hi1 hb b (hdfeet b hb') rfl) ⟨x, hx, rfl⟩ ⟨y, hy, he0.symm⟩
              · exact htk i1 hh _ hi1 ⟨x, hx, rfl⟩ _ (ihat j1 hj1 _ ⟨y, hy, rfl⟩) he0
              · exact hz6 i1 j1 hh hh2 _ (fun e0 => hij (by rw [e0])) hi1 hj1 ⟨x, hx, rfl⟩ ⟨y, hy, he0.symm⟩
          have hm := hs.mem.remake (rw2 := nthj rows2) (tch := hd1.at) (fun q r hq => hsub q r (hsub2 q r hq)) (fun b hb => hrows2 b (hft b (hdfeet b hb))) hkept hs.klt rows.length h' ihN ⟨.lst c e', e, true, yss ++ zss⟩ (nthj_none (by rw [hl2, hl1]; exact Nat.le_refl _)) hs.n0
            (hs.scRw _ _) hnew (fun b hb => by
              obtain ⟨p, hp, _, a0, ha0, hb0⟩ := hb
              rw [parts_lst] at hp
              simp only [List.mem_cons, List.mem_map, List.mem_range] at hp
              rcases hp with rfl | ⟨i, hi, rfl⟩
              · rcases hat b ⟨a0, ha0, hb0⟩ with h0 | h0
                · exact .inr (hrows2 b (hft b (hdfeet b h0)))
                · exact .inl h0
              · rw [hlen3] at hi
                by_cases hin : i < n
                · simp only [ihN, if_pos hin] at ha0
                  exact .inr (hrows2 b (hft b ⟨_, mem_inner hin, .inl rfl, a0, ha0, hb0⟩))
                · simp only [ihN, if_neg hin] at ha0
                  have hlt : i - n < hz.length := by rw [hz1]; omega
                  rw [List.getD_eq_getElem?_getD, List.getElem?_eq_getElem hlt] at ha0
                  obtain ⟨k1, r1, q1, q2, q3, q4⟩ := hz5 (i - n) _ b (List.getElem?_eq_getElem hlt) ⟨a0, ha0, hb0⟩
                  exact .inr ⟨k1, r1, hsub _ _ q1, q2, q3, q4⟩)
          have hn3 : nthj (rows2 ++ [some (⟨.lst c e', e, true, yss ++ zss⟩ : Row)]) = upd (nthj rows2) rows.length (some ⟨.lst c e', e, true, yss ++ zss⟩) := by
            funext q
            rw [nthj_snoc, hl2, hl1]; rfl
          have hden : (AVal.row rows.length).den (A.setRw rows.length h' ihN) = h'.val := by simp [AVal.den, Asg.setRw, upd_same]
          refine ⟨_, A.setRw rows.length h' ihN, h'.val, w', h, ?_, fun ty => ?_⟩
          · have := hs.turned (B := A.setRw rows.length h' ihN) (rows3 := rows2 ++ [some (⟨.lst c e', e, true, yss ++ zss⟩ : Row)]) (w' := w') (fun _ _ => rfl) (fun q hq => ⟨upd_ne A.rw rows.length _ (by omega), upd_ne A.inn rows.length _ (by omega)⟩) (by simp [hl1, hl2]) (by rw [hn3]; exact hm) hkept.size (.row rows.length) (some d) (by simp [AVal.sc, lvl_eq, hl1, hl2])
            rw [hden] at this
            exact this
          · rw [es, ex, e1]
            rw [← hrun]
            rfl

end
end Go.Proofs.Ytlplngafncobkaa.Fw
