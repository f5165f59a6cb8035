/- Operations that turn rows: append, clear, rows put into rows, calls of functions that turn rows. -/
import Derived.Test.YtmbfflckgmdncaaDoorGB
namespace Go.Proofs.YtmbfflckgmdncaaDoor.Fw
open Go Go.RowKit
set_option linter.unusedVariables false
set_option linter.unusedSimpArgs false

theorem append_where {P : Program} (w : World) (t ty e : TypeId) (i : TypeInfo) (z : Value) (size bytes : Nat) (ht : P.underlying t = some (.slice e)) (hi : P.info? e = some i) (hz : i.zero = some z)
    (hsize : i.size = size) (hby : i.bytes = bytes) (hzs : z.cells.size = size) (hsz : 0 < size) (v : Value) (n : Nat) (xs : List Value) (hown : w.ownsRow 0 e size v n xs)
    (a : Addr) (m c : Nat) (news : List Value) (hl : news.length = m * size) (hnews : ∀ j u, news[j]? = some u → w.cell? (a.add j) = some u) (h1 : ∀ u ∈ news, u.oneCell' = true)
    (h63 : n + m ≤ maxLen) (hbytes : (n + m) * bytes ≤ 140737488355328) :
    ∃ v' w', (Builtin.append_ #[t, t] ty #[v, .slice (some a) m c]).run P w = .ok v' w' ∧ w'.ownsRow 0 e size v' (n + m) (xs ++ news) ∧ w.grownBy w' v.ownBlock ∧
      (∀ b, v'.ownBlock = some b → v.ownBlock = some b ∨ w.heap.size ≤ b) ∧ w.drawn ≤ w'.drawn := by
  obtain ⟨v', w', hr, h2, h3, h4⟩ := run_append_own (P := P) w 0 t ty e i z size bytes ht hi hz hsize hby hzs hsz v n xs hown a m c news hl hnews h1 h63 hbytes (Nat.zero_le _)
  subst hsize; subst hby
  have h63' : ((n + m : Nat) : Int) ≤ 9223372036854775807 := by simp only [maxLen] at h63; omega
  rcases hown.2 with ⟨rfl, rfl⟩ | ⟨g, cap, cur, rfl, _, hg, hnc, hcm, hcs, htake⟩
  · by_cases hm : m = 0
    · subst hm
      have hn0 : news = [] := List.eq_nil_of_length_eq_zero (by simpa using hl)
      have := h4.2 ⟨rfl, rfl⟩
      subst this
      refine ⟨_, w', hr, h2, h3, (fun b hb => by cases hb), ?_⟩
      subst hn0
      have hf := run_firstCells_some (P := P) w i.size 0 a 0 c [] (by simp) hnews
      simp [Builtin.append_, run_underlying ht, sizeOf, typeInfo, hi, Builtin.lenOf, hf] at hr
      rw [← hr]; exact Nat.le_refl _
    · have hr' := run_append_nil (P := P) w t ty e i z ht hi hz a m c news hl hnews (by omega) (by omega) (by simp only [Nat.zero_add] at hbytes; omega)
      rw [hr] at hr'
      cases hr'
      exact ⟨_, _, hr, h2, h3, (fun b hb => by cases hb; exact .inr (Nat.le_refl _)), Nat.le_succ _⟩
  · by_cases hroom : n + m ≤ cap
    · have hfit : n * i.size + news.length ≤ cur.size := by rw [hl, hcs, ← Nat.add_mul]; exact Nat.mul_le_mul_right _ hroom
      have hr' := run_append_room (P := P) w t ty e i ht hi g n cap cur hg a m c news hl hnews h1 hroom hfit
      rw [hr] at hr'
      cases hr'
      exact ⟨_, _, hr, h2, h3, (fun b hb => .inl hb), Nat.le_refl _⟩
    · have holds : ∀ j u, xs[j]? = some u → w.cell? ((⟨g, 0, none⟩ : Addr).add j) = some u := hown.cells (g := g) rfl
      have hr' := run_append_grow (P := P) w t ty e i z ht hi hz ⟨g, 0, none⟩ n cap xs hown.1 holds a m c news hl hnews (by omega) (by omega) (growslice_fits (by omega) hbytes)
      rw [hr] at hr'
      cases hr'
      exact ⟨_, _, hr, h2, h3, (fun b hb => by cases hb; exact .inr (Nat.le_refl _)), Nat.le_succ _⟩

/-- Own blocks of a header. -/
def Hdr.at (h : Hdr) (b : Nat) : Prop := ∃ a, h.a = some a ∧ a.block = b

theorem flatMap_append_cells (c : TyC) (xs ys : List c.α) : (xs ++ ys).flatMap (fun x => dens A0 (c.enc x)) = xs.flatMap (fun x => dens A0 (c.enc x)) ++ ys.flatMap (fun x => dens A0 (c.enc x)) := List.flatMap_append ..

theorem own_hdr {w : World} {e : TypeId} {size n : Nat} {v : Value} {xs : List Value} (h : w.ownsRow 0 e size v n xs) : ∃ hd : Hdr, v = hd.val ∧ hd.len = n ∧ ∀ b, hd.at b ↔ v.ownBlock = some b := by
  rcases h.2 with ⟨rfl, rfl⟩ | ⟨g, cap, cur, rfl, _⟩
  · exact ⟨⟨none, 0, 0⟩, rfl, rfl, fun b => by simp [Hdr.at, Value.ownBlock]⟩
  · exact ⟨⟨some ⟨g, 0, none⟩, n, cap⟩, rfl, rfl, fun b => by simp [Hdr.at, Value.ownBlock]⟩

/-- Appending a row to a row of the walk's own. -/
theorem append_row {P : Program} {T : TypeId → Option TInfo} (hT : TOk P T) {t ty e : TypeId} {ti ei : TInfo} (ht : T t = some ti) (hd : ti.desc = .slice e) (he : T e = some ei) {w : World} {h hx : Hdr} {c : TyC} {e1 : TypeId} {own : Bool} {xs ys : List c.α}
    (hsz : ei.size = c.sz) (ho : RowOwn w h ⟨c, e, true, xs⟩) (hr : RowAt w hx ⟨c, e1, own, ys⟩) (h63 : (xs.length : Int) + ys.length ≤ 9223372036854775807) (hby : ((xs.length : Int) + ys.length) * ei.bytes ≤ 140737488355328) :
    ∃ (h' : Hdr) (w' : World), (Builtin.append_ #[t, t] ty #[h.val, hx.val]).run P w = .ok h'.val w' ∧ RowOwn w' h' ⟨c, e, true, xs ++ ys⟩ ∧ Kept (fun b => b < w.heap.size ∧ ¬ h.at b) w w' ∧ (∀ b, h'.at b → h.at b ∨ w.heap.size ≤ b) := by
  have hund := (hT _ _ ht).und
  rw [hd] at hund
  obtain ⟨inf, z, hi, hsize, hbytes, hz, hzc⟩ := info_of (hT _ _ he)
  have hzs : z.cells.size = c.sz := by rw [hzc]; simp [dens_eq, (hT _ _ he).zlen, hsz]
  have hhl : h.len = xs.length := ho.at.len
  have hxl : hx.len = ys.length := hr.len
  have ho' : w.ownsRow 0 e c.sz h.val xs.length (xs.flatMap fun x => dens A0 (c.enc x)) := ho
  cases hxa : hx.a with
  | none =>
    have hys : ys = [] := by
      cases ys with
      | nil => rfl
      | cons y l =>
        obtain ⟨a, ha⟩ := hr.there (i := 0) (by show 0 < (y :: l).length; simp)
        rw [hxa] at ha; cases ha
    subst hys
    refine ⟨h, w, ?_, by simpa using ho, Kept.refl _ _, fun b hb => .inl hb⟩
    have hx0 : hx.len = 0 := hxl
    rcases ho'.2 with ⟨hv, hn⟩ | ⟨g, cap, cur, hv, _, _, hnc, _⟩
    · rw [hv]
      simp [Hdr.val, hxa, hx0, Builtin.append_, run_underlying hund, sizeOf, typeInfo, hi, Builtin.lenOf, Builtin.firstCells]
    · rw [hv]
      simp [Hdr.val, hxa, hx0, Builtin.append_, run_underlying hund, sizeOf, typeInfo, hi, Builtin.lenOf, Builtin.firstCells, hnc, storeCells]
  | some a =>
    have hnews : ∀ j u, (ys.flatMap fun x => dens A0 (c.enc x))[j]? = some u → w.cell? (a.add j) = some u := fun j u hj => by
      have hlt : j < ys.length * c.sz := by
        have := (List.getElem?_eq_some_iff.1 hj).1
        rwa [flatMap_length _ c.sz (fun x => by rw [dens_eq]; simp [c.enc_len])] at this
      have hp := c.pos
      have hq : j / c.sz < ys.length := by rw [Nat.div_lt_iff_lt_mul hp]; exact hlt
      have hm : j % c.sz < c.sz := Nat.mod_lt _ hp
      obtain ⟨a', ha', hc⟩ := hr.cell (j / c.sz) _ (List.getElem?_eq_getElem hq)
      rw [hxa] at ha'; cases ha'
      have hml : j % c.sz < (c.enc ys[j / c.sz]).length := by rw [c.enc_len]; exact hm
      have h1 := hc (j % c.sz) _ (List.getElem?_eq_getElem hml)
      have h2 := flatMap_get (fun x => dens A0 (c.enc x)) c.sz (fun x => by rw [dens_eq]; simp [c.enc_len]) ys (j / c.sz) (j % c.sz) _ _ (List.getElem?_eq_getElem hq) (by rw [dens_eq, List.getElem?_map, List.getElem?_eq_getElem hml]; rfl)
      have e1 : j / c.sz * c.sz + j % c.sz = j := by rw [Nat.mul_comm]; exact Nat.div_add_mod _ _
      rw [e1] at h1 h2
      rw [hj] at h2
      cases h2
      exact h1
    have hone : ∀ u ∈ (ys.flatMap fun x => dens A0 (c.enc x)), u.oneCell' = true := fun u hu => by
      obtain ⟨x, hx, hu⟩ := List.mem_flatMap.1 hu
      rw [dens_eq] at hu
      obtain ⟨y, hy, rfl⟩ := List.mem_map.1 hu
      have := c.flat x y hy
      cases y <;> simp_all [AVal.flat, AVal.den, Value.oneCell']
    have h63' : xs.length + ys.length ≤ maxLen := by simp only [maxLen]; omega
    have hby' : (xs.length + ys.length) * ei.bytes ≤ 140737488355328 := by
      have : (((xs.length + ys.length) * ei.bytes : Nat) : Int) ≤ 140737488355328 := by rw [Int.natCast_mul, Int.natCast_add]; exact hby
      omega
    obtain ⟨v', w', hrun, h2, h3, h4, h5⟩ := append_where (P := P) w t ty e inf z c.sz ei.bytes hund hi hz (by rw [hsize, hsz]) hbytes hzs c.pos h.val xs.length _ ho' a ys.length hx.cap _ (flatMap_length _ c.sz (fun x => by rw [dens_eq]; simp [c.enc_len]) ys) hnews hone h63' hby'
    obtain ⟨hd', rfl, hl', hat'⟩ := own_hdr h2
    obtain ⟨h0, e0, _, hat0⟩ := own_hdr ho'
    have hat : ∀ b, h.at b ↔ h.val.ownBlock = some b := fun b => by
      unfold Hdr.at Hdr.val
      cases h.a <;> simp [Value.ownBlock]
    refine ⟨hd', w', by rw [← hrun]; simp only [Hdr.val, hxa, hxl], ?_, ⟨h3.os, h3.tape, h3.output, h3.size, fun b hb => h3.block b hb.1 (fun e => hb.2 ((hat b).2 e.symm)), Dr.of h5⟩, fun b hb => ?_⟩
    · unfold RowOwn Row.cells
      rw [flatMap_append_cells, List.length_append]
      exact h2
    · rcases h4 b ((hat' b).1 hb) with h | h
      · exact .inl ((hat b).2 h)
      · exact .inr h

section
variable {E : Env} {A : Asg} {a : Act} {w w' : World} {T : TypeId → Option TInfo} {G : List (FuncId × Ctr)}
variable {hpf : Nat → Option (List AVal)} {rw_ rw2 : Nat → Option Row}

/-- Rows of the walk's own are gone; a new one is made of their blocks and of new ones. -/
theorem Mem.remake (h : Mem E A hpf rw_ w) {tch : Nat → Prop} (hsub : ∀ k r, rw2 k = some r → rw_ k = some r)
    (htch : ∀ b, tch b → ∃ k r, rw_ k = some r ∧ r.own = true ∧ rw2 k = none ∧ Feet r (A.rw k) (A.inn k) b) (hk : Kept (fun b => b < w.heap.size ∧ ¬ tch b) w w') (hK : ∀ b, E.K b → b < w.heap.size)
    (l : Nat) (hd : Hdr) (ih : Nat → Hdr) (r : Row) (hl : rw2 l = none) (hn0 : E.n0 ≤ l) (hsc : ∀ i c, hpf i = some c → dens (A.setRw l hd ih) c = dens A c) (hr : RowsOwn w' hd ih r)
    (hfeet : ∀ b, Feet r hd ih b → w.heap.size ≤ b ∨ ∃ k r0, rw_ k = some r0 ∧ r0.own = true ∧ rw2 k = none ∧ Feet r0 (A.rw k) (A.inn k) b) : Mem E (A.setRw l hd ih) hpf (upd rw2 l (some r)) w' := by
  have hd' := h.drop hsub htch hk hK
  refine hd'.addRow l hd ih r hl hn0 hsc hr.at (fun _ => ⟨hr, fun b hb hKb => ?_⟩) (fun i ci b h0 hi hf e => ?_) (fun k' r' b hk' _ hf hf' => ?_)
  · rcases hfeet b hb with h1 | ⟨k, r0, h1, h2, h3, h4⟩
    · have := hK b hKb; omega
    · exact ((h.row k r0 h1).2 h2).2 b h4 hKb
  · rcases hfeet b hf with h1 | ⟨k, r0, h1, h2, h3, h4⟩
    · have := h.box_lt hi; omega
    · exact h.br i ci k r0 b h0 hi h1 h4 e
  · rcases hfeet b hf with h1 | ⟨k, r0, h1, h2, h3, h4⟩
    · have := h.foot_lt (hsub _ _ hk') hf'; omega
    · exact h.rr k k' r0 r' b h1 (hsub _ _ hk') (fun e => by subst e; rw [hk'] at h3; cases h3) h2 h4 hf'

theorem nthj_setNone {α : Type _} (l : List (Option α)) (i k : Nat) : nthj (l.set i none) k = if k = i then none else nthj l k := by
  rw [nthj_eq, nthj_eq]
  by_cases h : k = i
  · subst h
    rw [if_pos rfl, List.getElem?_set_self']
    cases l[k]? <;> rfl
  · rw [if_neg h, List.getElem?_set_ne (fun e => h e.symm)]

/-- The state behind an operation that turned rows. -/
theorem Sat.turned {fr : List AVal} {hp : List (Option (List AVal))} {rows rows3 : List (Option Row)} (h : Sat E A ⟨fr, hp, rows⟩ a w) (B : Asg) (hbx : ∀ i, i < hp.length → B.bx i = A.bx i)
    (hrw : ∀ k, k < rows.length → B.rw k = A.rw k ∧ B.inn k = A.inn k) (hlen : rows.length ≤ rows3.length) (hm : Mem E B (nthj hp) (nthj rows3) w') (hsz : w.heap.size ≤ w'.heap.size) (v : AVal) (dst : Option Tmp)
    (hsc : v.sc hp.length [] rows3.length [] = true) : Sat E B ⟨(match dst with | none => fr | some d => fr.set d v), hp, rows3⟩ (a.put dst (v.den B)) w' := by
  have hden : ∀ x : AVal, x.sc hp.length [] rows.length [] = true → x.den A = x.den B := fun x hx =>
    AVal.den_congr (fun j hj => by
      have : j < hp.length := by simpa using hj
      exact (hbx j this).symm) (fun j hj => by
      have : j < rows.length := by simpa using hj
      obtain ⟨h1, h2⟩ := hrw j this
      exact ⟨h1.symm, h2.symm⟩) x hx
  have old : ∀ (t : Nat) (x : AVal), fr[t]? = some x → (x = .junk ∨ a.tmps.getD t undef = x.den B) ∧ x.sc hp.length [] rows3.length [] = true := fun t x hx =>
    ⟨(h.fr t x hx).imp id (fun e => e.trans (hden x (h.sc t x hx))), AVal.sc_mono (Nat.le_refl _) hlen x (h.sc t x hx)⟩
  have base : ∀ fr' (a' : Act), a'.defers = [] → a'.tmps.size = fr'.length →
      (∀ (t : Nat) (x : AVal), fr'[t]? = some x → (x = .junk ∨ a'.tmps.getD t undef = x.den B) ∧ x.sc hp.length [] rows3.length [] = true) → Sat E B ⟨fr', hp, rows3⟩ a' w' := fun fr' a' hd hs hf =>
    { defers := hd
      size := hs
      fr := fun t x hx => (hf t x hx).1
      sc := fun t x hx => (hf t x hx).2
      hsc := fun i cs hi => scs_mono (Nat.le_refl _) hlen cs (h.hsc i cs hi)
      mem := hm
      klt := fun b hb => Nat.lt_of_lt_of_le (h.klt b hb) hsz
      n0 := Nat.le_trans h.n0 hlen
      b0 := h.b0 }
  cases dst with
  | none => exact base fr a h.defers h.size old
  | some d =>
    refine base _ _ h.defers (by simp [Act.put, h.size]) fun t x hx => ?_
    by_cases htd : t = d
    · subst htd
      rw [List.getElem?_set_self'] at hx
      cases hf : fr[t]? with
      | none => simp [hf] at hx
      | some y =>
        simp [hf] at hx
        subst hx
        have hlt : t < a.tmps.size := by rw [h.size]; exact (List.getElem?_eq_some_iff.1 hf).1
        exact ⟨.inr (by simp [Act.put, hlt]), hsc⟩
    · rw [List.getElem?_set_ne (fun e => htd e.symm)] at hx
      obtain ⟨h1, h2⟩ := old t x hx
      refine ⟨h1.imp id (fun e => ?_), h2⟩
      rw [← e]
      simp only [Act.put, Array.getD_eq_getD_getElem?]
      rw [Array.getElem?_setIfInBounds_ne (fun e => htd e.symm)]

theorem own_take {w : World} {h : Hdr} {c : TyC} {e : TypeId} {xs : List c.α} (ho : RowOwn w h ⟨c, e, true, xs⟩) {n : Nat} (hn : n ≤ xs.length) : RowOwn w (h.view 0 n c.sz) ⟨c, e, true, xs.take n⟩ := by
  have hl : (xs.take n).length = n := by simp; omega
  have hfm : ((xs.take n).flatMap fun x => dens A0 (c.enc x)) = (xs.flatMap fun x => dens A0 (c.enc x)).take (n * c.sz) := by
    have h1 : xs.flatMap (fun x => dens A0 (c.enc x)) = (xs.take n).flatMap (fun x => dens A0 (c.enc x)) ++ (xs.drop n).flatMap (fun x => dens A0 (c.enc x)) := by
      rw [← flatMap_append_cells, List.take_append_drop]
    rw [h1, List.take_left']
    rw [flatMap_length _ c.sz (fun x => by rw [dens_eq]; simp [c.enc_len]), hl]
  refine ⟨by rw [Row.cells_length], ?_⟩
  rcases ho.2 with ⟨hv, h0⟩ | ⟨g, cap, cur, hv, _, hg, hle, hm, hcs, htk⟩
  · simp only [Hdr.val, Value.slice.injEq] at hv
    obtain ⟨h1, h2, h3⟩ := hv
    have h0 : xs.length = 0 := h0
    have : n = 0 := by omega
    subst this
    refine .inl ⟨?_, by simp⟩
    simp only [Hdr.val, Hdr.view, h1, h3]
    simp
  · have hv' := hv
    simp only [Hdr.val, Value.slice.injEq] at hv'
    obtain ⟨hva, hvl, hvc⟩ := hv'
    have hle : xs.length ≤ cap := hle
    refine .inr ⟨g, cap, cur, ?_, Nat.zero_le _, hg, by rw [hl]; omega, hm, hcs, ?_⟩
    · simp only [Hdr.val, Hdr.view, hva, hvc, hl]
      split <;> simp [add_zero']
    · have htk : cur.toList.take (xs.length * c.sz) = xs.flatMap fun x => dens A0 (c.enc x) := htk
      show cur.toList.take ((xs.take n).length * c.sz) = (xs.take n).flatMap fun x => dens A0 (c.enc x)
      rw [hl, hfm, ← htk, List.take_take]
      congr 1
      have : n * c.sz ≤ xs.length * c.sz := Nat.mul_le_mul_right _ hn
      omega

theorem view_at {h : Hdr} {n sz b : Nat} : (h.view 0 n sz).at b ↔ h.at b := by
  unfold Hdr.at Hdr.view
  simp only [Nat.zero_mul]
  split
  · rfl
  · cases h.a with
    | none => simp
    | some a => simp [add_zero']

/-- What is appended reads as a row. -/
theorem srcA_inv {rows : List (Option Row)} {c : TyC} {x : AVal} {k : List c.α → Prop} (hcl : c.isL = false) (hm : Mem E A hpf (nthj rows) w) (h : srcA rows c x k) :
    ∃ (ys : List c.α) (hx : Hdr) (e : TypeId) (own : Bool), k ys ∧ x.den A = hx.val ∧ RowAt w hx ⟨c, e, own, ys⟩ := by
  unfold srcA at h
  split at h
  · rename_i r
    split at h
    · rename_i c' e own ys hr
      split at h
      · rename_i hs
        have := TyC.same_eq hs
        subst this
        exact ⟨ys, A.rw r, e, own, h, rfl, (hm.row r _ hr).1.flat hcl⟩
      · exact h.elim
    · exact h.elim
  · rename_i r lo n sz
    split at h
    · rename_i c' e own ys hr
      split at h
      · rename_i hsz
        have hsz := Nat.eq_of_beq_eq_true hsz
        split at h
        · rename_i hs
          have := TyC.same_eq hs
          subst this
          subst hsz
          obtain ⟨hn, h⟩ := h
          exact ⟨_, _, e, false, h, rfl, ((hm.row r _ hr).1.flat hcl).view lo n hn⟩
        · exact h.elim
      · exact h.elim
    · exact h.elim
  · exact ⟨[], ⟨none, 0, 0⟩, 0, true, h, rfl, (own_nil w c 0).at⟩
  · exact h.elim

theorem parts_nil (h : Hdr) (ih : Nat → Hdr) (c : TyC) (e : TypeId) (own : Bool) : ∃ r0 : Row, (⟨c, e, own, (show List c.α from [])⟩ : Row).parts h ih = [(h, r0)] ∧ r0.xs = [] ∧ r0.own = own := by
  by_cases hc : c.isL = true
  · cases c <;> simp only [TyC.isL] at hc <;> first | cases hc | skip
    exact ⟨_, rfl, rfl, rfl⟩
  · rw [parts_flat (by simpa using hc)]
    exact ⟨_, rfl, rfl, rfl⟩
theorem rows_nil (w : World) (ih : Nat → Hdr) (c : TyC) (e : TypeId) : RowsOwn w ⟨none, 0, 0⟩ ih ⟨c, e, true, []⟩ := by
  obtain ⟨r0, h1, h2, h3⟩ := parts_nil ⟨none, 0, 0⟩ ih c e true
  refine ⟨fun p hp => ?_, fun i j p q hi hj hij => ?_⟩
  · rw [h1] at hp
    simp only [List.mem_singleton] at hp
    subst hp
    obtain ⟨c0, e0, own0, xs0⟩ := r0
    simp only at h2 h3
    subst h2; subst h3
    exact own_nil _ _ _
  · rw [h1] at hi hj
    cases i with
    | zero => cases j with
      | zero => exact absurd rfl hij
      | succ j => simp at hj
    | succ i => simp at hi
theorem feet_nil {ih : Nat → Hdr} {c : TyC} {e : TypeId} {b : Nat} (hf : Feet ⟨c, e, true, []⟩ ⟨none, 0, 0⟩ ih b) : False := by
  obtain ⟨r0, h1, h2, h3⟩ := parts_nil ⟨none, 0, 0⟩ ih c e true
  obtain ⟨p, hp, _, a, ha, rfl⟩ := hf
  rw [h1] at hp
  simp only [List.mem_singleton] at hp
  subst hp
  cases ha

/-- To what it is appended: a row of the walk's own, which is gone then. -/
theorem dstA_inv {rows : List (Option Row)} {c : TyC} {e : TypeId} {s : AVal} {k : List (Option Row) → List c.α → Prop} (hm : Mem E A hpf (nthj rows) w) (h : dstA rows c e s k) :
    ∃ (rows1 : List (Option Row)) (xs : List c.α) (hd : Hdr) (ih : Nat → Hdr), k rows1 xs ∧ s.den A = hd.val ∧ rows1.length = rows.length ∧ (∀ k r, nthj rows1 k = some r → nthj rows k = some r) ∧ RowsOwn w hd ih ⟨c, e, true, xs⟩ ∧
      (∀ b, Feet ⟨c, e, true, xs⟩ hd ih b → ∃ k r, nthj rows k = some r ∧ r.own = true ∧ nthj rows1 k = none ∧ Feet r (A.rw k) (A.inn k) b) := by
  have gone : ∀ r k r0, nthj (rows.set r none) k = some r0 → nthj rows k = some r0 := fun r k r0 hk => by
    rw [nthj_setNone] at hk
    split at hk
    · cases hk
    · exact hk
  unfold dstA at h
  split at h
  · rename_i r
    split at h
    · rename_i c' e' xs hr
      split at h
      · rename_i he
        have he := Nat.eq_of_beq_eq_true he
        subst he
        split at h
        · rename_i hs
          have := TyC.same_eq hs
          subst this
          have h : setK rows r none (fun rows' => k rows' xs) := h
          rw [setK_eq] at h
          exact ⟨_, xs, A.rw r, A.inn r, h, rfl, by simp, gone r, ((hm.row r _ hr).2 rfl).1, fun b hb => ⟨r, _, hr, rfl, by rw [nthj_setNone, if_pos rfl], hb⟩⟩
        · exact h.elim
      · exact h.elim
    · exact h.elim
  · rename_i r lo n sz
    split at h
    · rename_i c' e' xs hr
      split at h
      · rename_i he
        have he := Nat.eq_of_beq_eq_true he
        subst he
        split at h
        · split at h
          · rename_i hcl hsz
            have hsz := Nat.eq_of_beq_eq_true hsz
            split at h
            · rename_i hs
              have := TyC.same_eq hs
              subst this
              subst hsz
              obtain ⟨hn, h⟩ : n ≤ xs.length ∧ setK rows r none (fun rows' => k rows' (xs.take n)) := h
              rw [setK_eq] at h
              have ho := ((hm.row r _ hr).2 rfl).1.flat hcl
              refine ⟨_, xs.take n, (A.rw r).view 0 n c'.sz, fun _ => ⟨none, 0, 0⟩, h, rfl, by simp, gone r, (own_take ho hn).rows hcl, fun b hb => ⟨r, _, hr, rfl, by rw [nthj_setNone, if_pos rfl], ?_⟩⟩
              obtain ⟨_, h2⟩ := Feet.flat hb hcl
              exact Foot.feet ⟨.inl rfl, view_at.1 h2⟩ hcl
            · exact h.elim
          · exact h.elim
        · exact h.elim
      · exact h.elim
    · exact h.elim
  · exact ⟨rows, [], ⟨none, 0, 0⟩, fun _ => ⟨none, 0, 0⟩, h, rfl, rfl, fun _ _ h => h, rows_nil _ _ _ _, fun b hb => (feet_nil hb).elim⟩
  · exact h.elim

/-- Rows that are put into a row of rows. -/
theorem takeR_inv {c : TyC} {e' : TypeId} {rows0 : List (Option Row)} (hcl : c.isL = false) (hm : Mem E A hpf (nthj rows0) w) : ∀ (cs : List AVal) (rows : List (Option Row)) (k : List (Option Row) → List (List c.α) → Prop), takeR c e' rows cs k →
    (∀ i r, nthj rows i = some r → nthj rows0 i = some r) → ∃ (rows2 : List (Option Row)) (zss : List (List c.α)) (hs : List Hdr), k rows2 zss ∧ hs.length = zss.length ∧ zss.length = cs.length ∧ rows2.length = rows.length ∧ dens A cs = hs.map Hdr.val ∧
      (∀ i r, nthj rows2 i = some r → nthj rows i = some r) ∧ (∀ (i : Nat) (h : Hdr), hs[i]? = some h → RowOwn w h ⟨c, e', true, zss.getD i []⟩) ∧
      (∀ (i : Nat) (h : Hdr) (b : Nat), hs[i]? = some h → h.at b → ∃ k r, nthj rows k = some r ∧ r.own = true ∧ nthj rows2 k = none ∧ Feet r (A.rw k) (A.inn k) b) ∧
      (∀ (i j : Nat) (h h' : Hdr) (b : Nat), i ≠ j → hs[i]? = some h → hs[j]? = some h' → h.at b → ¬ h'.at b)
  | [], rows, k, h, _ => ⟨rows, [], [], h, rfl, rfl, rfl, by simp [dens], fun _ _ h => h, fun i h hi => by simp at hi, fun i h b hi => by simp at hi, fun i j h h' b _ hi => by simp at hi⟩
  | x :: l, rows, k, h, hsub => by
    have gone : ∀ (rows : List (Option Row)) r k r0, nthj (rows.set r none) k = some r0 → nthj rows k = some r0 ∧ k ≠ r := fun rows r k r0 hk => by
      rw [nthj_setNone] at hk
      split at hk
      · cases hk
      · exact ⟨hk, by assumption⟩
    have key : ∀ (r : Nat) (row : Row) (ys : List c.α) (hd : Hdr), nthj rows r = some row → row.own = true → x.den A = hd.val → RowOwn w hd ⟨c, e', true, ys⟩ → (∀ b, hd.at b → Feet row (A.rw r) (A.inn r) b) →
        takeR c e' (rows.set r none) l (fun rows2 yss => k rows2 (ys :: yss)) →
        ∃ (rows2 : List (Option Row)) (zss : List (List c.α)) (hs : List Hdr), k rows2 zss ∧ hs.length = zss.length ∧ zss.length = (x :: l).length ∧ rows2.length = rows.length ∧ dens A (x :: l) = hs.map Hdr.val ∧
          (∀ i r, nthj rows2 i = some r → nthj rows i = some r) ∧ (∀ (i : Nat) (h : Hdr), hs[i]? = some h → RowOwn w h ⟨c, e', true, zss.getD i []⟩) ∧
          (∀ (i : Nat) (h : Hdr) (b : Nat), hs[i]? = some h → h.at b → ∃ k r, nthj rows k = some r ∧ r.own = true ∧ nthj rows2 k = none ∧ Feet r (A.rw k) (A.inn k) b) ∧
          (∀ (i j : Nat) (h h' : Hdr) (b : Nat), i ≠ j → hs[i]? = some h → hs[j]? = some h' → h.at b → ¬ h'.at b) := by
      intro r row ys hd hr hown hx ho hft h
      obtain ⟨rows2, zss, hs, h1, h2, h3, h4, h5, h6, h7, h8, h9⟩ := takeR_inv hcl hm l (rows.set r none) _ h (fun i r0 hi => hsub i r0 (gone rows r i r0 hi).1)
      have cross : ∀ (j : Nat) (h' : Hdr) (b : Nat), hs[j]? = some h' → hd.at b → ¬ h'.at b := fun j h' b hj hb hb' => by
        obtain ⟨k', r', q1, q2, q3, q4⟩ := h8 j h' b hj hb'
        obtain ⟨q5, q6⟩ := gone rows r k' r' q1
        exact hm.rr r k' row r' b (hsub _ _ hr) (hsub _ _ q5) (fun e => q6 e.symm) hown (hft b hb) q4
      refine ⟨rows2, ys :: zss, hd :: hs, h1, by simp [h2], by simp [h3], by simpa using h4, by simp [dens, hx, h5], fun i r0 hi => (gone rows r i r0 (h6 i r0 hi)).1, fun i h hi => ?_, fun i h b hi hb => ?_, fun i j h h' b hij hi hj hb => ?_⟩
      · cases i with
        | zero => simp at hi; subst hi; exact ho
        | succ i => simp at hi; simpa using h7 i h hi
      · cases i with
        | zero =>
          simp at hi; subst hi
          refine ⟨r, row, hr, hown, ?_, hft b hb⟩
          cases hq : nthj rows2 r with
          | none => rfl
          | some q => exact absurd rfl (gone rows r r q (h6 r q hq)).2
        | succ i =>
          simp at hi
          obtain ⟨k', r', q1, q2, q3, q4⟩ := h8 i h b hi hb
          exact ⟨k', r', (gone rows r k' r' q1).1, q2, q3, q4⟩
      · cases i with
        | zero => cases j with
          | zero => exact absurd rfl hij
          | succ j => simp at hi hj; subst hi; exact cross j h' b hj hb
        | succ i => cases j with
          | zero => simp at hi hj; subst hj; exact fun hb' => cross i h b hi hb' hb
          | succ j => simp at hi hj; exact h9 i j h h' b (fun e => hij (by rw [e])) hi hj hb
    cases x with
    | row r =>
      simp only [takeR] at h
      split at h
      · rename_i c' e2 ys hr
        split at h
        · rename_i he
          have he := Nat.eq_of_beq_eq_true he
          subst he
          split at h
          · rename_i hs
            have := TyC.same_eq hs
            subst this
            have h : setK rows r none (fun rows' => takeR c' e2 rows' l fun rows2 yss => k rows2 (ys :: yss)) := h
            rw [setK_eq] at h
            have ho := ((hm.row r _ (hsub _ _ hr)).2 rfl).1.flat hcl
            exact key r _ ys (A.rw r) hr rfl rfl ho (fun b ⟨a, ha, hb⟩ => Foot.feet ⟨.inl rfl, a, ha, hb⟩ hcl) h
          · exact h.elim
        · exact h.elim
      · exact h.elim
    | irow r i =>
      simp only [takeR] at h
      split at h
      · rename_i c' e2 e0 yss hr
        split at h
        · rename_i he
          have he := Nat.eq_of_beq_eq_true he
          subst he
          split at h
          · rename_i hs
            have := TyC.same_eq hs
            cases this
            obtain ⟨hi, h⟩ : i < @List.length (List c.α) yss ∧ setK rows r none (fun rows' => takeR c e2 rows' l fun rows2 zss => k rows2 (@List.getD (List c.α) yss i [] :: zss)) := h
            rw [setK_eq] at h
            have ho := ((hm.row r _ (hsub _ _ hr)).2 rfl).1
            exact key r _ _ (A.inn r i) hr rfl rfl (ho.inner hi) (fun b ⟨a, ha, hb⟩ => ⟨_, mem_inner hi, .inl rfl, a, ha, hb⟩) h
          · exact h.elim
        · exact h.elim
      · exact h.elim
    | raw v =>
      by_cases hv : v = .slice none 0 0
      · subst hv
        have h : takeR c e' rows l (fun rows2 yss => k rows2 ([] :: yss)) := h
        obtain ⟨rows2, zss, hs, h1, h2, h3, h4, h5, h6, h7, h8, h9⟩ := takeR_inv hcl hm l rows _ h hsub
        refine ⟨rows2, [] :: zss, ⟨none, 0, 0⟩ :: hs, h1, by simp [h2], by simp [h3], h4, by simp [dens, AVal.den, h5, Hdr.val], h6, fun i h hi => ?_, fun i h b hi hb => ?_, fun i j h h' b hij hi hj hb => ?_⟩
        · cases i with
          | zero => simp at hi; subst hi; exact own_nil _ _ _
          | succ i => simp at hi; simpa using h7 i h hi
        · cases i with
          | zero => simp at hi; subst hi; obtain ⟨a, ha, _⟩ := hb; cases ha
          | succ i => simp at hi; exact h8 i h b hi hb
        · cases i with
          | zero => simp at hi; subst hi; obtain ⟨a, ha, _⟩ := hb; cases ha
          | succ i => cases j with
            | zero => simp at hj; subst hj; rintro ⟨a, ha, _⟩; cases ha
            | succ j => simp at hi hj; exact h9 i j h h' b (fun e => hij (by rw [e])) hi hj hb
      · exfalso
        unfold takeR at h
        split at h
        · rename_i heq; cases heq
        · rename_i heq; cases heq
        · rename_i heq; cases heq
        · rename_i heq; cases heq; exact hv rfl
        · exact h
    | _ => exact h.elim

theorem Sat.scRw {fr : List AVal} {hp : List (Option (List AVal))} {rows : List (Option Row)} (hs : Sat E A ⟨fr, hp, rows⟩ a w) (hd : Hdr) (ih : Nat → Hdr) : ∀ i cs, nthj hp i = some cs → dens (A.setRw rows.length hd ih) cs = dens A cs := fun i cs hi =>
  (dens_congr (A := A) (B := A.setRw rows.length hd ih) (fun j hj => rfl) (fun j hj => by
    have hj : j < rows.length := by simpa using hj
    exact ⟨(upd_ne A.rw rows.length _ (by omega)).symm, (upd_ne A.inn rows.length _ (by omega)).symm⟩) cs (hs.hsc i cs hi)).symm

theorem reV_junk (r nr i : Nat) : reV r nr i .junk = .junk := rfl
theorem Sat.reF {fr : List AVal} {hp : List (Option (List AVal))} {rows : List (Option Row)} {B : Asg} (h : Sat E B ⟨fr, hp, rows⟩ a w) {r nr i : Nat} (hden : (B.rw r).val = (B.inn nr i).val) (hn : nr < rows.length) : Sat E B ⟨fr.map (reV r nr i), hp, rows⟩ a w := by
  have inv : ∀ (t : Nat) (x : AVal), (fr.map (reV r nr i))[t]? = some x → ∃ y, fr[t]? = some y ∧ reV r nr i y = x := fun t x hx => by
    rw [List.getElem?_map] at hx
    cases hy : fr[t]? with
    | none => rw [hy] at hx; cases hx
    | some y => rw [hy] at hx; exact ⟨y, rfl, Option.some.inj hx⟩
  have two : ∀ y : AVal, (reV r nr i y).den B = y.den B ∧ (y.sc hp.length [] rows.length [] = true → (reV r nr i y).sc hp.length [] rows.length [] = true) := fun y => by
    unfold reV
    split
    · rename_i q
      split
      · rename_i hq
        have := Nat.eq_of_beq_eq_true hq
        subst this
        exact ⟨by simp only [AVal.den]; exact hden.symm, fun _ => by simp [AVal.sc, lvl_eq, hn]⟩
      · exact ⟨rfl, fun h => h⟩
    · exact ⟨rfl, fun h => h⟩
  exact {
    defers := h.defers
    size := by rw [h.size]; simp
    fr := fun t x hx => by
      obtain ⟨y, hy, rfl⟩ := inv t x hx
      rcases h.fr t y hy with rfl | h1
      · exact .inl rfl
      · exact .inr (by rw [(two y).1]; exact h1)
    sc := fun t x hx => by
      obtain ⟨y, hy, rfl⟩ := inv t x hx
      exact (two y).2 (h.sc t y hy)
    hsc := h.hsc
    mem := h.mem
    klt := h.klt
    n0 := h.n0
    b0 := h.b0 }

/-- A literal of one slice. -/
theorem litA_sound (hT : TOk E.P T) {fr : List AVal} {hp : List (Option (List AVal))} {rows : List (Option Row)} {o : Op} {dst : Option Tmp} {k : St → Prop} (hs : Sat E A ⟨fr, hp, rows⟩ a w) (h : litA T ⟨fr, hp, rows⟩ o dst k) :
    ∃ σ' B u w', k σ' ∧ Sat E B σ' (a.put dst u) w' ∧ ∀ ty pos after guard, (execOp a.eval ⟨dst, o, ty, pos, after, guard⟩).run E.P w = .ok (.value u) w' := by
  simp only [litA] at h
  split at h
  case h_2 => exact h.elim
  rename_i t n ps d
  cases ht : T t with
  | none => simp [ht] at h
  | some ti =>
  simp only [ht] at h
  split at h
  case h_2 => exact h.elim
  rename_i e hd
  cases he : T e with
  | none => simp [he] at h
  | some ei =>
  simp only [he] at h
  split at h
  case h_2 => exact h.elim
  rename_i e' hds hs1
  cases he' : T e' with
  | none => simp [he'] at h
  | some ei' =>
  simp only [he'] at h
  split at h
  case h_2 => exact h.elim
  rename_i c hc'
  split at h
  case h_2 => exact h.elim
  rename_i x hcl hps
  obtain ⟨xv, hxv, h⟩ := with1_eq h
  split at h
  case h_2 => exact h.elim
  rename_i r
  have hsc := ev_sc hs (x := x) hxv
  simp only [AVal.sc, lvl_eq, List.not_mem_nil, or_false] at hsc
  obtain ⟨rows2, zss, hz, h, hz1, hz2, hl2, hz3, hsub2, hz4, hz5, hz6⟩ := takeR_inv hcl hs.mem [.row r] rows _ h (fun _ _ h => h)
  simp only [lenK_eq, pushK_eq, setK_eq, reK_eq] at h
  obtain ⟨ys, rfl⟩ := List.length_eq_one_iff.1 (show zss.length = 1 from hz2)
  obtain ⟨h0, rfl⟩ := List.length_eq_one_iff.1 (show hz.length = 1 from hz1)
  have hv0 : (A.rw r).val = h0.val := by
    have : [(A.rw r).val] = [h0.val] := by simpa [dens, AVal.den] using hz3
    simpa using this
  have hps' : ps = #[(0, x)] := by apply Array.ext'; simpa using hps
  subst hps'
  have hund := (hT _ _ ht).und
  rw [hd] at hund
  obtain ⟨z, hzz, hzc⟩ := run_zero (hT _ _ he) w
  obtain ⟨cs, rfl, _, hx⟩ := elemsB_sound (fr := fr) [(0, x)] 0 (fun cs => cs = [.row r]) (by simp [elemsB, with1, hxv])
  have hfill : ∀ cs0 : Array Value, cs0.size = 1 → Instr.fill (fun i => some (i * 1, 1)) cs0 (#[(0, x)].map fun x => (x.1, a.eval x.2)).toList = some #[h0.val] := fun cs0 hc0 => by
    have := hx A a.eval cs0 (fun p hp v hv => ev_sound hs hv) (by simpa using hc0)
    simp only [Nat.zero_add, List.take_zero, List.nil_append, dens, AVal.den, hv0] at this
    simpa using this
  have hrun : ∀ ty pos after guard, (execOp a.eval ⟨some d, .buildSlice t 1 #[(0, x)], ty, pos, after, guard⟩).run E.P w = .ok (.value (.slice (some ⟨w.heap.size, 0, none⟩) 1 1)) (w.alloc (.cells #[h0.val] e)) := fun ty pos after guard => by
    simp only [execOp]
    refine wrapF _ _ _ _ ?_
    have hlim : ¬ 1 * 1 > 2 ^ 24 := by omega
    have hne : ¬ (1 * 1 = 0) := by omega
    simp only [Instr.buildSlice, Sem.run_bind, run_underlying hund, Result.andThen_ok, run_size (hT _ _ he), hs1, hlim, if_false, hne]
    simp only [Sem.run_bind, hzz, Sem.run_pure, Result.andThen_ok]
    rw [hfill _ (by simp)]
    rfl
  let w' := w.alloc (.cells #[h0.val] e)
  let h' : Hdr := ⟨some ⟨w.heap.size, 0, none⟩, 1, 1⟩
  have hB : Blw w.heap.size w w' := (Blw.refl _ _).alloc (Nat.le_refl _) _
  have hown' : RowOwn w' h' ⟨.sl, e, true, [h0]⟩ := by
    refine ⟨rfl, .inr ⟨w.heap.size, 1, #[h0.val], rfl, Nat.zero_le _, ?_, Nat.le_refl _, by decide, rfl, rfl⟩⟩
    show (w.heap.push _)[w.heap.size]? = _
    simp
  have ho0 := hz4 0 h0 rfl
  have hin : RowOwn w' h0 ⟨c, e', true, ys⟩ := RowOwn.keep ho0 fun a0 ha0 => hB.block _ (RowOwn.foot_lt ho0 ⟨a0, ha0, rfl⟩)
  have hparts : (⟨.lst c e', e, true, [ys]⟩ : Row).parts h' (fun _ => h0) = [(h', ⟨.sl, e, true, [h0]⟩), (h0, ⟨c, e', true, ys⟩)] := rfl
  have hnew : RowsOwn w' h' (fun _ => h0) ⟨.lst c e', e, true, [ys]⟩ := by
    have far : ∀ x y : Addr, h'.a = some x → h0.a = some y → x.block ≠ y.block := fun x y hx hy e0 => by
      cases hx
      have := RowOwn.foot_lt ho0 ⟨y, hy, rfl⟩
      rw [← e0] at this
      exact Nat.lt_irrefl _ this
    refine ⟨fun p hp => ?_, fun i j p q hi hj hij x y hx hy => ?_⟩
    · rw [hparts] at hp
      simp only [List.mem_cons, List.not_mem_nil, or_false] at hp
      rcases hp with rfl | rfl
      · exact hown'
      · exact hin
    · rw [hparts] at hi hj
      match i, j, hij, hi, hj with
      | 0, 0, hij, _, _ => exact absurd rfl hij
      | 0, 1, _, hi, hj => cases hi; cases hj; exact far x y hx hy
      | 1, 0, _, hi, hj => cases hi; cases hj; exact fun e0 => far y x hy hx e0.symm
      | 1, 1, hij, _, _ => exact absurd rfl hij
      | i + 2, _, _, hi, _ => simp at hi
      | 0, j + 2, _, _, hj => simp at hj
      | 1, j + 2, _, _, hj => simp at hj
  have hm := hs.mem.remake (rw2 := nthj rows2) (w' := w') (tch := fun _ => False) hsub2 (fun b hb => hb.elim) (Kept.of_below hB fun k hk => hk.1) hs.klt rows.length h' (fun _ => h0) ⟨.lst c e', e, true, [ys]⟩ (nthj_none (by rw [hl2]; exact Nat.le_refl _)) hs.n0
    (hs.scRw _ _) hnew (fun b hb => by
      obtain ⟨p, hp, _, a0, ha0, hb0⟩ := hb
      rw [hparts] at hp
      simp only [List.mem_cons, List.not_mem_nil, or_false] at hp
      rcases hp with rfl | rfl
      · cases ha0; exact .inl (Nat.le_of_eq hb0)
      · exact .inr (hz5 0 h0 b rfl ⟨a0, ha0, hb0⟩))
  have hn3 : nthj (rows2 ++ [some (⟨.lst c e', e, true, [ys]⟩ : Row)]) = upd (nthj rows2) rows.length (some ⟨.lst c e', e, true, [ys]⟩) := by
    funext q
    rw [nthj_snoc, hl2]; rfl
  have hden : (AVal.row rows.length).den (A.setRw rows.length h' (fun _ => h0)) = h'.val := by simp [AVal.den, Asg.setRw, upd_same]
  have hsat := hs.turned (B := A.setRw rows.length h' (fun _ => h0)) (rows3 := rows2 ++ [some (⟨.lst c e', e, true, [ys]⟩ : Row)]) (w' := w') (fun _ _ => rfl) (fun q hq => ⟨upd_ne A.rw rows.length _ (by omega), upd_ne A.inn rows.length _ (by omega)⟩) (by simp [hl2]) (by rw [hn3]; exact hm) hB.size (.row rows.length) (some d) (by simp [AVal.sc, lvl_eq, hl2])
  rw [hden] at hsat
  refine ⟨_, A.setRw rows.length h' (fun _ => h0), h'.val, w', h, ?_, hrun⟩
  exact hsat.reF (by
    have e1 : (A.setRw rows.length h' (fun _ => h0)).rw r = A.rw r := upd_ne A.rw rows.length _ (by omega)
    have e2 : (A.setRw rows.length h' (fun _ => h0)).inn rows.length = fun _ => h0 := upd_same _ _ _
    rw [e1, e2]; exact hv0) (by simp [hl2])

/-- An append. -/
theorem appA_sound {fl : Bool} (hT : TOk E.P T) {fr : List AVal} {hp : List (Option (List AVal))} {rows : List (Option Row)} {t : TypeId} {s x : Operand} {d : Nat} {k : St → Prop} (hs : Sat E A ⟨fr, hp, rows⟩ a w) (h : appA fl T ⟨fr, hp, rows⟩ t s x d k) :
    ∃ σ' B u w', k σ' ∧ Sat E B σ' (a.put (some d) u) w' ∧ ∀ ty, (Builtin.append_ #[t, t] ty #[a.eval s, a.eval x]).run E.P w = .ok u w' := by
  simp only [appA] at h
  obtain ⟨sv, hsv, h⟩ := with1_eq h
  obtain ⟨xv, hxv, h⟩ := with1_eq h
  have es := ev_sound hs (x := s) hsv
  have ex := ev_sound hs (x := x) hxv
  cases ht : T t with
  | none => simp [ht] at h
  | some ti =>
    simp only [ht] at h
    split at h
    case h_2 => exact h.elim
    rename_i e hd
    cases he : T e with
    | none => simp [he] at h
    | some ei =>
      simp only [he] at h
      split at h
      · rename_i c hc
        have hsz := ((hT _ _ he).ty c hc).1
        split at h
        case h_2 => exact h.elim
        rename_i hcl
        obtain ⟨rows1, xs, hd1, ih1, h, e1, hl1, hsub, ho, hft⟩ := dstA_inv hs.mem h
        obtain ⟨ys, hx, e2, own2, h, e3, hr⟩ := srcA_inv hcl hs.mem h
        obtain ⟨⟨h63, hby⟩, h⟩ := h
        replace h := eqK_eq h
        simp only [lenK_eq, pushK_eq, setK_eq] at h
        obtain ⟨h', w', hrun, hown', hkept, hat⟩ := append_row hT (ty := t) ht hd he hsz.symm (ho.flat hcl) hr h63 hby
        have hat1 : ∀ b, hd1.at b → Feet ⟨c, e, true, xs⟩ hd1 ih1 b := fun b ⟨a0, ha0, hb0⟩ => Foot.feet ⟨.inl rfl, a0, ha0, hb0⟩ hcl
        have hm := hs.mem.remake (rw2 := nthj rows1) (tch := hd1.at) hsub (fun b hb => hft b (hat1 b hb)) hkept hs.klt rows.length h' (fun _ => ⟨none, 0, 0⟩) ⟨c, e, true, xs ++ ys⟩ (nthj_none (by rw [hl1]; exact Nat.le_refl _)) hs.n0
          (hs.scRw _ _) (hown'.rows hcl) (fun b hb => by
            obtain ⟨_, h2⟩ := Feet.flat hb hcl
            rcases hat b h2 with h3 | h3
            · exact .inr (hft b (hat1 b h3))
            · exact .inl h3)
        have hn3 : nthj (rows1 ++ [some (⟨c, e, true, xs ++ ys⟩ : Row)]) = upd (nthj rows1) rows.length (some ⟨c, e, true, xs ++ ys⟩) := by
          funext q
          rw [nthj_snoc, hl1]; rfl
        have hden : (AVal.row rows.length).den (A.setRw rows.length h' (fun _ => ⟨none, 0, 0⟩)) = h'.val := by simp [AVal.den, Asg.setRw, upd_same]
        refine ⟨_, A.setRw rows.length h' (fun _ => ⟨none, 0, 0⟩), h'.val, w', h, ?_, fun ty => ?_⟩
        · have := hs.turned (B := A.setRw rows.length h' (fun _ => ⟨none, 0, 0⟩)) (rows3 := rows1 ++ [some (⟨c, e, true, xs ++ ys⟩ : Row)]) (w' := w') (fun _ _ => rfl) (fun q hq => ⟨upd_ne A.rw rows.length _ (by omega), upd_ne A.inn rows.length _ (by omega)⟩) (by simp [hl1]) (by rw [hn3]; exact hm) hkept.size (.row rows.length) (some d) (by simp [AVal.sc, lvl_eq, hl1])
          rw [hden] at this
          exact this
        · rw [es, ex, e1, e3]
          rw [← hrun]
          rfl
      · rename_i hc
        split at h
        case h_2 => exact h.elim
        rename_i e' hds hs1
        cases he' : T e' with
        | none => simp [he'] at h
        | some ei' =>
          simp only [he'] at h
          split at h
          case h_2 => exact h.elim
          rename_i c hc'
          split at h
          case h_2 => exact h.elim
          rename_i hcl
          split at h
          case h_2 => exact h.elim
          rename_i b m
          split at h
          case h_2 => exact h.elim
          rename_i cs hb
          split at h
          case h_2 => exact h.elim
          rename_i hbm
          split at hbm
          case h_2 => cases hbm
          rename_i hmo
          have hbm := Nat.eq_of_beq_eq_true hbm
          rw [lenN_eq] at hbm
          obtain ⟨rows1, (yss : List (List c.α)), hd1, ih1, h, e1, hl1, hsub, ho, hft⟩ := dstA_inv (c := .lst c e') hs.mem h
          obtain ⟨rows2, zss, hz, h, hz1, hz2, hl2, hz3, hsub2, hz4, hz5, hz6⟩ := takeR_inv hcl hs.mem cs rows1 _ h hsub
          obtain ⟨⟨h63, hby⟩, h⟩ := h
          replace h := eqK_eq h
          simp only [lenK_eq, pushK_eq, setK_eq] at h
          have hra : RowAt w ⟨some ⟨A.bx b, 0, none⟩, m, m⟩ ⟨.sl, e, false, hz⟩ := by
            obtain ⟨t', hbx⟩ := (hs.mem.box b cs hb).1.cells hmo
            refine ⟨by show m = hz.length; omega, Nat.le_refl _, by simp only [maxLen]; show m ≤ _; omega, fun i y hi => ⟨_, rfl, fun j cv hj => ?_⟩⟩
            have hi : hz[i]? = some y := hi
            cases j with
            | zero =>
              simp [TyC.enc] at hj; subst hj
              have hadd : (⟨A.bx b, 0, none⟩ : Addr).add (i * TyC.sl.sz + 0) = ⟨A.bx b, i, none⟩ := by
                simp only [TyC.sz, Nat.mul_one, Nat.add_zero]
                unfold Addr.add; split <;> simp_all
              rw [hadd]
              have hq : (dens A cs)[i]? = some y.val := by rw [hz3, List.getElem?_map, hi]; rfl
              simp [World.cell?, hbx, hq, AVal.den]
            | succ j => simp [TyC.enc] at hj
          have hq1 : @List.length TyC.sl.α (List.map ih1 (List.range yss.length)) = yss.length := (List.length_map ..).trans List.length_range
          have hq2 : @List.length TyC.sl.α hz = zss.length := hz1
          obtain ⟨h', w', hrun, hown', hkept, hat⟩ := append_row hT (ty := t) (c := .sl) ht hd he (by rw [hs1]; rfl) ho.outer hra (by rw [hq1, hq2]; exact h63) (by rw [hq1, hq2]; exact hby)
          clear h63 hby
          let n := yss.length
          let ihN : Nat → Hdr := fun i => if i < n then ih1 i else hz.getD (i - n) ⟨none, 0, 0⟩
          have hlen3 : (yss ++ zss).length = n + zss.length := by simp [n]
          have hrange : (List.range (yss ++ zss).length).map ihN = (List.range n).map ih1 ++ hz := by
            rw [hlen3, List.range_add, List.map_append]
            congr 1
            · exact List.map_congr_left fun i hi => by simp only [ihN]; rw [if_pos (List.mem_range.1 hi)]
            · rw [List.map_map, ← hz1]
              apply List.ext_getElem?
              intro i
              rw [List.getElem?_map]
              by_cases hi : i < hz.length
              · rw [List.getElem?_range hi]
                simp [ihN, hi]
                try (intro h0; exact absurd h0 (by omega))
              · rw [List.getElem?_eq_none (by simpa using hi), List.getElem?_eq_none (by omega)]; rfl
          have hrows2 : ∀ b, (∃ k r, nthj rows k = some r ∧ r.own = true ∧ nthj rows1 k = none ∧ Feet r (A.rw k) (A.inn k) b) → (∃ k r, nthj rows k = some r ∧ r.own = true ∧ nthj rows2 k = none ∧ Feet r (A.rw k) (A.inn k) b) := by
            rintro b ⟨k, r, q1, q2, q3, q4⟩
            refine ⟨k, r, q1, q2, ?_, q4⟩
            cases hq : nthj rows2 k with
            | none => rfl
            | some q => have := hsub2 k q hq; rw [q3] at this; cases this
          have hdfeet : ∀ b, hd1.at b → Feet ⟨.lst c e', e, true, yss⟩ hd1 ih1 b := fun b ⟨a0, ha0, hb0⟩ => hb0 ▸ Feet.head rfl ha0
          -- blocks of the old rows in it, of the rows put in: not turned
          have hk1 : ∀ (hh : Hdr) (row : Row), RowOwn w hh row → (∀ b, hh.at b → ¬ hd1.at b) → RowOwn w' hh row := fun hh row hro hne => hro.keep fun a0 ha0 => hkept.block _ ⟨RowOwn.foot_lt hro ⟨a0, ha0, rfl⟩, hne _ ⟨a0, ha0, rfl⟩⟩
          have hinn : ∀ i, i < n → ∀ b, (ih1 i).at b → ¬ hd1.at b := fun i hi b ⟨a0, ha0, hb0⟩ ⟨a1, ha1, hb1⟩ => ho.dis (i + 1) 0 _ _ (parts_get i hi) rfl (by omega) a0 a1 ha0 ha1 (hb0.trans hb1.symm)
          have htk : ∀ (i : Nat) (hh : Hdr) (b : Nat), hz[i]? = some hh → hh.at b → ∀ b', Feet ⟨.lst c e', e, true, yss⟩ hd1 ih1 b' → b ≠ b' := fun i hh b hi hb b' hb' e0 => by
            subst e0
            obtain ⟨k1, r1, q1, q2, q3, q4⟩ := hz5 i hh b hi hb
            obtain ⟨k2, r2, p1, p2, p3, p4⟩ := hft b hb'
            exact hs.mem.rr k1 k2 r1 r2 b (hsub _ _ q1) p1 (fun e0 => by subst e0; rw [q1] at p3; cases p3) q2 q4 p4
          have hnew : RowsOwn w' h' ihN ⟨.lst c e', e, true, yss ++ zss⟩ := by
            have part : ∀ m p, ((⟨.lst c e', e, true, yss ++ zss⟩ : Row).parts h' ihN)[m]? = some p → (m = 0 ∧ p = (h', ⟨.sl, e, true, (List.range n).map ih1 ++ hz⟩)) ∨ (∃ i, i < n ∧ m = i + 1 ∧ p = (ih1 i, ⟨c, e', true, yss.getD i []⟩)) ∨
                (∃ i hh, hz[i]? = some hh ∧ m = n + i + 1 ∧ p = (hh, ⟨c, e', true, zss.getD i []⟩)) := fun m p hm => by
              cases m with
              | zero =>
                have hm : some (h', (⟨.sl, e, true, (List.range (yss ++ zss).length).map ihN⟩ : Row)) = some p := hm
                cases hm
                exact .inl ⟨rfl, congrArg (fun z : List Hdr => ((h', (⟨.sl, e, true, z⟩ : Row)) : Hdr × Row)) hrange⟩
              | succ m =>
                have hml : m < (yss ++ zss).length := by
                  rw [parts_lst, List.getElem?_cons_succ, List.getElem?_map] at hm
                  rcases Nat.lt_or_ge m (yss ++ zss).length with h0 | h0
                  · exact h0
                  · rw [List.getElem?_eq_none (by simpa using h0)] at hm; cases hm
                rw [parts_get m hml] at hm
                cases hm
                by_cases hmn : m < n
                · refine .inr (.inl ⟨m, hmn, rfl, ?_⟩)
                  simp only [ihN, if_pos hmn]
                  rw [List.getD_eq_getElem?_getD, List.getD_eq_getElem?_getD, List.getElem?_append_left hmn]
                · have hlt : m - n < hz.length := by rw [hz1]; omega
                  refine .inr (.inr ⟨m - n, hz[m - n], List.getElem?_eq_getElem hlt, by omega, ?_⟩)
                  simp only [ihN, if_neg hmn]
                  rw [List.getD_eq_getElem?_getD, List.getD_eq_getElem?_getD, List.getElem?_append_right (by show n ≤ m; omega)]
                  simp [hlt, n]
            have ihat : ∀ i, i < n → ∀ b, (ih1 i).at b → Feet ⟨.lst c e', e, true, yss⟩ hd1 ih1 b := fun i hi b ⟨a0, ha0, hb0⟩ => ⟨_, mem_inner hi, .inl rfl, a0, ha0, hb0⟩
            have h'not : ∀ (hh : Hdr) (row : Row) b, RowOwn w hh row → (∀ b, hh.at b → ¬ hd1.at b) → hh.at b → ¬ h'.at b := fun hh row b hro hne hb hb' => by
              rcases hat b hb' with h0 | h0
              · exact hne b hb h0
              · have := RowOwn.foot_lt hro hb; omega
            refine ⟨fun p hp => ?_, fun i j p q hi hj hij x y hx hy he0 => ?_⟩
            · obtain ⟨m, hm⟩ := List.mem_iff_getElem?.1 hp
              rcases part m p hm with ⟨_, rfl⟩ | ⟨i, hi, _, rfl⟩ | ⟨i, hh, hi, _, rfl⟩
              · exact hown'
              · exact hk1 _ _ (ho.inner hi) (hinn i hi)
              · exact hk1 _ _ (hz4 i hh hi) (fun b hb hb' => htk i hh b hi hb b (hdfeet b hb') rfl)
            · rcases part i p hi with ⟨rfl, rfl⟩ | ⟨i1, hi1, rfl, rfl⟩ | ⟨i1, hh, hi1, rfl, rfl⟩ <;> rcases part j q hj with ⟨rfl, rfl⟩ | ⟨j1, hj1, rfl, rfl⟩ | ⟨j1, hh2, hj1, rfl, rfl⟩
              · exact hij rfl
              · exact h'not _ _ _ (ho.inner hj1) (hinn j1 hj1) ⟨y, hy, he0.symm⟩ ⟨x, hx, rfl⟩
              · exact h'not _ _ _ (hz4 j1 hh2 hj1) (fun b hb hb' => htk j1 hh2 b hj1 hb b (hdfeet b hb') rfl) ⟨y, hy, he0.symm⟩ ⟨x, hx, rfl⟩
              · exact h'not _ _ _ (ho.inner hi1) (hinn i1 hi1) ⟨x, hx, rfl⟩ ⟨y, hy, he0.symm⟩
              · exact ho.dis (i1 + 1) (j1 + 1) _ _ (parts_get i1 hi1) (parts_get j1 hj1) hij x y hx hy he0
              · exact htk j1 hh2 _ hj1 ⟨y, hy, rfl⟩ _ (ihat i1 hi1 _ ⟨x, hx, rfl⟩) he0.symm
              · exact h'not _ _ _ (hz4 i1 hh hi1) (fun b hb hb' => htk i1 hh b hi1 hb b (hdfeet b hb') rfl) ⟨x, hx, rfl⟩ ⟨y, hy, he0.symm⟩
              · exact htk i1 hh _ hi1 ⟨x, hx, rfl⟩ _ (ihat j1 hj1 _ ⟨y, hy, rfl⟩) he0
              · exact hz6 i1 j1 hh hh2 _ (fun e0 => hij (by rw [e0])) hi1 hj1 ⟨x, hx, rfl⟩ ⟨y, hy, he0.symm⟩
          have hm := hs.mem.remake (rw2 := nthj rows2) (tch := hd1.at) (fun q r hq => hsub q r (hsub2 q r hq)) (fun b hb => hrows2 b (hft b (hdfeet b hb))) hkept hs.klt rows.length h' ihN ⟨.lst c e', e, true, yss ++ zss⟩ (nthj_none (by rw [hl2, hl1]; exact Nat.le_refl _)) hs.n0
            (hs.scRw _ _) hnew (fun b hb => by
              obtain ⟨p, hp, _, a0, ha0, hb0⟩ := hb
              rw [parts_lst] at hp
              simp only [List.mem_cons, List.mem_map, List.mem_range] at hp
              rcases hp with rfl | ⟨i, hi, rfl⟩
              · rcases hat b ⟨a0, ha0, hb0⟩ with h0 | h0
                · exact .inr (hrows2 b (hft b (hdfeet b h0)))
                · exact .inl h0
              · rw [hlen3] at hi
                by_cases hin : i < n
                · simp only [ihN, if_pos hin] at ha0
                  exact .inr (hrows2 b (hft b ⟨_, mem_inner hin, .inl rfl, a0, ha0, hb0⟩))
                · simp only [ihN, if_neg hin] at ha0
                  have hlt : i - n < hz.length := by rw [hz1]; omega
                  rw [List.getD_eq_getElem?_getD, List.getElem?_eq_getElem hlt] at ha0
                  obtain ⟨k1, r1, q1, q2, q3, q4⟩ := hz5 (i - n) _ b (List.getElem?_eq_getElem hlt) ⟨a0, ha0, hb0⟩
                  exact .inr ⟨k1, r1, hsub _ _ q1, q2, q3, q4⟩)
          have hn3 : nthj (rows2 ++ [some (⟨.lst c e', e, true, yss ++ zss⟩ : Row)]) = upd (nthj rows2) rows.length (some ⟨.lst c e', e, true, yss ++ zss⟩) := by
            funext q
            rw [nthj_snoc, hl2, hl1]; rfl
          have hden : (AVal.row rows.length).den (A.setRw rows.length h' ihN) = h'.val := by simp [AVal.den, Asg.setRw, upd_same]
          have hsat := hs.turned (B := A.setRw rows.length h' ihN) (rows3 := rows2 ++ [some (⟨.lst c e', e, true, yss ++ zss⟩ : Row)]) (w' := w') (fun _ _ => rfl) (fun q hq => ⟨upd_ne A.rw rows.length _ (by omega), upd_ne A.inn rows.length _ (by omega)⟩) (by simp [hl1, hl2]) (by rw [hn3]; exact hm) hkept.size (.row rows.length) (some d) (by simp [AVal.sc, lvl_eq, hl1, hl2])
          rw [hden] at hsat
          have hrun2 : ∀ ty, (Builtin.append_ #[t, t] ty #[a.eval s, a.eval x]).run E.P w = .ok h'.val w' := fun ty => by
            rw [es, ex, e1]
            rw [← hrun]
            rfl
          cases fl with
          | false => exact ⟨_, A.setRw rows.length h' ihN, h'.val, w', h, hsat, hrun2⟩
          | true =>
            obtain ⟨r, rfl⟩ : ∃ r, cs = [.row r] := by
              simp only [reS] at h
              split at h
              · exact ⟨_, rfl⟩
              · exact h.elim
            simp only [reS, reK_eq] at h
            have hrl : r < rows.length := by
              have := hs.hsc b _ hb
              simp only [scs, AVal.sc] at this
              split at this
              · rename_i hq; simpa [lvl_eq] using hq
              · cases this
            refine ⟨_, A.setRw rows.length h' ihN, h'.val, w', h, hsat.reF ?_ (by simp [hl1, hl2]), hrun2⟩
            have e1 : (A.setRw rows.length h' ihN).rw r = A.rw r := upd_ne A.rw rows.length _ (by omega)
            have e2 : (A.setRw rows.length h' ihN).inn rows.length = ihN := upd_same _ _ _
            rw [e1, e2]
            obtain ⟨h0, rfl⟩ := List.length_eq_one_iff.1 (show hz.length = 1 by rw [hz1]; exact hz2)
            have e3 : ihN (List.length (α := List c.α) yss) = h0 := by simp [ihN, n]
            rw [e3]
            have e4 : [(A.rw r).val] = [h0.val] := by simpa [dens, AVal.den] using hz3
            simpa using e4

end
end Go.Proofs.YtmbfflckgmdncaaDoor.Fw

/- Operations that turn rows: clear, rows put into rows, calls of functions that turn rows. -/
namespace Go.Proofs.YtmbfflckgmdncaaDoor.Fw
open Go Go.RowKit
set_option linter.unusedVariables false
set_option linter.unusedSimpArgs false

section
variable {E : Env} {A : Asg} {a : Act} {w w' : World} {T : TypeId → Option TInfo} {G : List (FuncId × Ctr)}
variable {hpf : Nat → Option (List AVal)} {rw_ rwD rwN : Nat → Option Row}

/-- Rows of the walk's own are told anew, each in its own blocks. -/
theorem Mem.redoAll (h : Mem E A hpf rw_ w) (hd : Mem E A hpf rwD w') (hsub : ∀ k r, rwD k = some r → rw_ k = some r)
    (hN : ∀ k r', rwN k = some r' → rwD k = some r' ∨ ∃ r, rw_ k = some r ∧ r.own = true ∧ r'.own = true ∧ RowsOwn w' (A.rw k) (A.inn k) r' ∧ ∀ b, Feet r' (A.rw k) (A.inn k) b → Feet r (A.rw k) (A.inn k) b) : Mem E A hpf rwN w' := by
  have old : ∀ k r' b, rwN k = some r' → Feet r' (A.rw k) (A.inn k) b → ∃ r, rw_ k = some r ∧ Feet r (A.rw k) (A.inn k) b ∧ (r'.own = true → r.own = true) := fun k r' b hk hf => by
    rcases hN k r' hk with h1 | ⟨r, h1, h2, h3, h4, h5⟩
    · exact ⟨r', hsub k r' h1, hf, id⟩
    · exact ⟨r, h1, h5 b hf, fun _ => h2⟩
  refine ⟨hd.kept, hd.box, fun k r' hk => ?_, hd.bb, fun i ci k r' b h0 hi hk hf => ?_, fun k k' r r' b hk hk' hkk hown hf hf' => ?_, hd.args⟩
  · rcases hN k r' hk with h1 | ⟨r, h1, h2, h3, h4, h5⟩
    · exact hd.row k r' h1
    · exact ⟨h4.at, fun _ => ⟨h4, fun b hb => ((h.row k r h1).2 h2).2 b (h5 b hb)⟩⟩
  · obtain ⟨r, h1, h2, _⟩ := old k r' b hk hf
    exact h.br i ci k r b h0 hi h1 h2
  · obtain ⟨q, h1, h2, h3⟩ := old k r b hk hf
    obtain ⟨q', h1', h2', _⟩ := old k' r' b hk' hf'
    exact h.rr k k' q q' b h1 h1' hkk (h3 hown) h2 h2'

/-! ### calls that turn rows -/
def setUps : List (Option Row) → List (Nat × Option Row) → List (Option Row)
  | rows, [] => rows
  | rows, (i, u) :: l => setUps (rows.set i u) l
theorem upsK_eq : ∀ (l : List (Nat × Option Row)) (rows : List (Option Row)) (k : List (Option Row) → Prop), upsK l rows k = k (setUps rows l)
  | [], _, _ => rfl
  | (i, u) :: l, rows, k => by simp only [upsK, setK_eq, upsK_eq l, setUps]
theorem setUps_len : ∀ (l : List (Nat × Option Row)) (rows : List (Option Row)), (setUps rows l).length = rows.length
  | [], _ => rfl
  | (i, u) :: l, rows => by rw [setUps, setUps_len l, List.length_set]
theorem nthj_setAny (l : List (Option Row)) (i : Nat) (x : Option Row) (k : Nat) (hk : k ≠ i) : nthj (l.set i x) k = nthj l k := by
  rw [nthj_eq, nthj_eq, List.getElem?_set_ne (fun e => hk e.symm)]
theorem setUps_out : ∀ (l : List (Nat × Option Row)) (rows : List (Option Row)) (j : Nat), j ∉ l.map Prod.fst → nthj (setUps rows l) j = nthj rows j
  | [], _, _, _ => rfl
  | (i, u) :: l, rows, j, hj => by
    simp only [List.map_cons, List.mem_cons, not_or] at hj
    rw [setUps, setUps_out l _ j hj.2, nthj_setAny _ _ _ _ hj.1]
theorem setUps_in : ∀ (l : List (Nat × Option Row)) (rows : List (Option Row)) (j : Nat) (u : Option Row), (l.map Prod.fst).Nodup → (j, u) ∈ l → j < rows.length → nthj (setUps rows l) j = u
  | (i, v) :: l, rows, j, u, hn, hm, hj => by
    simp only [List.map_cons, List.nodup_cons] at hn
    rw [setUps]
    simp only [List.mem_cons, Prod.mk.injEq] at hm
    rcases hm with ⟨rfl, rfl⟩ | hm
    · rw [setUps_out l _ j hn.1, nthj_eq, List.getElem?_set_self hj]; rfl
    · exact setUps_in l _ j u hn.2 hm (by simpa using hj)

/-! ### calls that hand back a new box -/
theorem nthj_lt0 {α : Type _} {l : List (Option α)} {i : Nat} {c : α} (h : nthj l i = some c) : i < l.length := by
  rcases Nat.lt_or_ge i l.length with h' | h'
  · exact h'
  · rw [nthj_none h'] at h; cases h
/-- The state behind a call that handed back a box and rows. -/
theorem Sat.turnedB {fr : List AVal} {hp hp3 : List (Option (List AVal))} {rows rows3 : List (Option Row)} (h : Sat E A ⟨fr, hp, rows⟩ a w) (B : Asg) (hbx : ∀ i, i < hp.length → B.bx i = A.bx i)
    (hrw : ∀ k, k < rows.length → B.rw k = A.rw k ∧ B.inn k = A.inn k) (hlb : hp.length ≤ hp3.length) (hlen : rows.length ≤ rows3.length) (hm : Mem E B (nthj hp3) (nthj rows3) w') (hsz : w.heap.size ≤ w'.heap.size) (v : AVal) (dst : Option Tmp)
    (hsc : v.sc hp3.length [] rows3.length [] = true) (hhsc : ∀ i cs, nthj hp3 i = some cs → scs hp3.length [] rows3.length [] cs = true) : Sat E B ⟨(match dst with | none => fr | some d => fr.set d v), hp3, rows3⟩ (a.put dst (v.den B)) w' := by
  have hden : ∀ x : AVal, x.sc hp.length [] rows.length [] = true → x.den A = x.den B := fun x hx =>
    AVal.den_congr (fun j hj => by
      have : j < hp.length := by simpa using hj
      exact (hbx j this).symm) (fun j hj => by
      have : j < rows.length := by simpa using hj
      obtain ⟨h1, h2⟩ := hrw j this
      exact ⟨h1.symm, h2.symm⟩) x hx
  have old : ∀ (t : Nat) (x : AVal), fr[t]? = some x → (x = .junk ∨ a.tmps.getD t undef = x.den B) ∧ x.sc hp3.length [] rows3.length [] = true := fun t x hx =>
    ⟨(h.fr t x hx).imp id (fun e => e.trans (hden x (h.sc t x hx))), AVal.sc_mono hlb hlen x (h.sc t x hx)⟩
  have base : ∀ fr' (a' : Act), a'.defers = [] → a'.tmps.size = fr'.length →
      (∀ (t : Nat) (x : AVal), fr'[t]? = some x → (x = .junk ∨ a'.tmps.getD t undef = x.den B) ∧ x.sc hp3.length [] rows3.length [] = true) → Sat E B ⟨fr', hp3, rows3⟩ a' w' := fun fr' a' hd hs hf =>
    { defers := hd
      size := hs
      fr := fun t x hx => (hf t x hx).1
      sc := fun t x hx => (hf t x hx).2
      hsc := hhsc
      mem := hm
      klt := fun b hb => Nat.lt_of_lt_of_le (h.klt b hb) hsz
      n0 := Nat.le_trans h.n0 hlen
      b0 := Nat.le_trans h.b0 hlb }
  cases dst with
  | none => exact base fr a h.defers h.size old
  | some d =>
    refine base _ _ h.defers (by simp [Act.put, h.size]) fun t x hx => ?_
    by_cases htd : t = d
    · subst htd
      rw [List.getElem?_set_self'] at hx
      cases hf : fr[t]? with
      | none => simp [hf] at hx
      | some y =>
        simp [hf] at hx
        subst hx
        have hlt : t < a.tmps.size := by rw [h.size]; exact (List.getElem?_eq_some_iff.1 hf).1
        exact ⟨.inr (by simp [Act.put, hlt]), hsc⟩
    · rw [List.getElem?_set_ne (fun e => htd e.symm)] at hx
      obtain ⟨h1, h2⟩ := old t x hx
      refine ⟨h1.imp id (fun e => ?_), h2⟩
      rw [← e]
      simp only [Act.put, Array.getD_eq_getD_getElem?]
      rw [Array.getElem?_setIfInBounds_ne (fun e => htd e.symm)]

def bcallK (fr : List AVal) (hp : List (Option (List AVal))) (rows : List (Option Row)) (dst : Option Tmp) (k : St → Prop) (box : Option (List AVal)) (new : List Row) (v : AVal) : Prop :=
  pushO hp box fun hp2 => pushR rows new fun rows2 =>
    match v.sc (lenN hp2) [] (lenN rows2) [] with
    | true => (match (match box with | some cs => scs (lenN hp) [] (lenN rows2) [] cs | none => true) with
      | true => (match dst with
        | none => k ⟨fr, hp2, rows2⟩
        | some d => setK fr d v fun fr' => k ⟨fr', hp2, rows2⟩)
      | false => False)
    | false => False
/-- Behind a call that handed back a box, perhaps, and new rows. -/
theorem bpost_sound {fr : List AVal} {hp : List (Option (List AVal))} {rows : List (Option Row)} {dst : Option Tmp} {k : St → Prop} {box : Option (List AVal)} {new : List Row} {v : AVal}
    (hs : Sat E A ⟨fr, hp, rows⟩ a w) (h : bcallK fr hp rows dst k box new v) {e : Ending} {w' : World} (hpost : BPost A hp.length rows.length box new v w e w') :
    ∃ u, e = .returned u ∧ ∃ σ' B, k σ' ∧ Sat E B σ' (a.put dst u) w' := by
  simp only [bcallK, pushO_eq, pushR_eq, lenN_eq] at h
  split at h
  case h_2 => exact h.elim
  rename_i hvsc
  split at h
  case h_2 => exact h.elim
  rename_i hbsc
  have hm := hs.mem
  obtain ⟨hh, bb, he, hB, hnew, _, hbox⟩ := hpost
  refine ⟨_, he, ?_⟩
  have hlen := hnew.len
  have hsc : ∀ i cs, nthj hp i = some cs → dens (A.setRws rows.length hh) cs = dens A cs := fun i cs hi => (dens_congr (A := A) (B := A.setRws rows.length hh) (fun j hj => rfl) (fun j hj => by
    have hj : j < rows.length := by simpa using hj
    obtain ⟨q1, q2⟩ := setRws_out A rows.length hh j (.inl hj)
    exact ⟨q1.symm, q2.symm⟩) cs (hs.hsc i cs hi)).symm
  have hM1 := (hm.grow hB hs.klt).addRows rows.length hh new hnew (fun b hb hk => by have := hs.klt b hk; omega) (fun i c b _ hi hb e => by have := hm.box_lt hi; omega)
    (fun q r b hq hf hb => by have := hm.foot_lt hq hf; omega) (fun i h1 h2 => nthj_none h1) hs.n0 hsc
  rw [← nthj_rows] at hM1
  have hsz : w.heap.size ≤ w'.heap.size := hB.size
  cases box with
  | none =>
    simp only [boxL, List.append_nil] at h hvsc
    have hv : v.den ((A.setRws rows.length hh).setBx hp.length bb) = v.den (A.setRws rows.length hh) := AVal.den_congr (A := (A.setRws rows.length hh).setBx hp.length bb) (B := A.setRws rows.length hh) (fun j hj => by
      have hj : j < hp.length := by simpa using hj
      exact upd_ne A.bx hp.length bb (i := j) (by omega)) (fun j _ => ⟨rfl, rfl⟩) v hvsc
    rw [hv]
    have hsat := hs.turnedB (B := A.setRws rows.length hh) (hp3 := hp) (rows3 := rows ++ new.map some) (w' := w') (fun _ _ => rfl) (fun q hq => setRws_out A rows.length hh q (.inl hq)) (Nat.le_refl _) (by simp) hM1 hsz v dst hvsc
      (fun i cs hi => scs_mono (Nat.le_refl _) (by simp) cs (hs.hsc i cs hi))
    cases dst with
    | none => exact ⟨_, _, h, hsat⟩
    | some d => simp only [setK_eq] at h; exact ⟨_, _, h, hsat⟩
  | some cs =>
    simp only [boxL] at h hvsc hbsc
    obtain ⟨hb1, hb2, hb3⟩ := hbox cs rfl
    have hM2 := hM1.boxNew hp.length bb cs hs.b0 (nthj_none (Nat.le_refl _)) (fun i c hi => (dens_congr (A := A.setRws rows.length hh) (B := (A.setRws rows.length hh).setBx hp.length bb) (fun j hj => by
        have hj : j < hp.length := by simpa using hj
        exact (upd_ne A.bx hp.length bb (i := j) (by omega)).symm) (fun j _ => ⟨rfl, rfl⟩) c (hs.hsc i c hi)).symm)
      hb2 (fun hk => by have := hs.klt _ hk; omega) (fun i c hi e => by
        have := hm.box_lt hi
        rw [setRws_bx] at e
        omega)
      (fun q r hq hf => by
        simp only at hq
        rw [nthj_rows] at hq
        unfold updL at hq
        split at hq
        · rename_i hr
          have hr : rows.length ≤ q ∧ q < rows.length + new.length := hr
          have hlt : q - rows.length < hh.length := by omega
          obtain ⟨q1, q2⟩ := setRws_in A rows.length hh (q - rows.length) hh[q - rows.length] (List.getElem?_eq_getElem hlt)
          have eq : rows.length + (q - rows.length) = q := by omega
          rw [eq] at q1 q2
          rw [q1, q2] at hf
          exact hb3 _ r _ hq (List.getElem?_eq_getElem hlt) hf
        · have hql := nthj_lt0 hq
          obtain ⟨q1, q2⟩ := setRws_out A rows.length hh q (.inl hql)
          rw [q1, q2] at hf
          have := hm.foot_lt hq hf
          omega)
    have hpe : upd (nthj hp) hp.length (some cs) = nthj (hp ++ [some cs]) := by
      funext i
      rw [nthj_snoc]
      rfl
    rw [hpe] at hM2
    have hsat := hs.turnedB (B := (A.setRws rows.length hh).setBx hp.length bb) (hp3 := hp ++ [some cs]) (rows3 := rows ++ new.map some) (w' := w') (fun i hi => upd_ne A.bx hp.length bb (i := i) (by omega)) (fun q hq => setRws_out A rows.length hh q (.inl hq)) (by simp) (by simp) hM2 hsz v dst hvsc
      (fun i c hi => by
        rw [nthj_snoc] at hi
        split at hi
        · cases hi
          exact scs_mono (by simp) (Nat.le_refl _) cs hbsc
        · exact scs_mono (by simp) (by simp) c (hs.hsc i c hi))
    cases dst with
    | none => exact ⟨_, _, h, hsat⟩
    | some d => simp only [setK_eq] at h; exact ⟨_, _, h, hsat⟩

theorem bcallA_sound {g : FuncId} {c : BCtr} (hc : BCtrOk E.P g c) {fr : List AVal} {hp : List (Option (List AVal))} {rows : List (Option Row)} {vs : List AVal} {dst : Option Tmp} {k : St → Prop}
    (hs : Sat E A ⟨fr, hp, rows⟩ a w) (h : bcallA c fr hp rows vs dst k) {o : Oper} (hrun : (execOp a.eval o).run E.P w = .ok (.enter g (dens A vs).toArray) w) :
    Runs E.P (fun u w' => ∃ σ' B, k σ' ∧ Sat E B σ' (a.put dst u) w') ((execOp a.eval o).run E.P w) := by
  simp only [bcallA, lenK_eq] at h
  obtain ⟨box, new, v, h, hcalls⟩ := hc.calls _ _ _ _ _ _ h
  rw [hrun]
  refine Calls.mono (hcalls A w (fun i cs hi => (hs.mem.box i cs hi).1) (fun i r hi => (hs.mem.row i r hi).1)) ?_
  intro e w' hpost
  exact bpost_sound hs h hpost
theorem rcallA_sound {g : FuncId} {c : BCtr} (hc : RCtrOk E.P g c) {fr : List AVal} {hp : List (Option (List AVal))} {rows : List (Option Row)} {vs : List AVal} {dst : Option Tmp} {k : St → Prop}
    (hs : Sat E A ⟨fr, hp, rows⟩ a w) (h : bcallA c fr hp rows vs dst k) {o : Oper} (hrun : (execOp a.eval o).run E.P w = .ok (.enter g (dens A vs).toArray) w) :
    Runs E.P (fun u w' => ∃ σ' B, k σ' ∧ Sat E B σ' (a.put dst u) w') ((execOp a.eval o).run E.P w) := by
  simp only [bcallA, lenK_eq] at h
  have hcalls := hc.calls _ _ _ _ _ _ h A w (fun i cs hi => (hs.mem.box i cs hi).1) (fun i r hi => (hs.mem.row i r hi).1)
  rw [hrun]
  refine Calls.mono hcalls ?_
  rintro e w' ⟨box, new, v, hk, hpost⟩
  exact bpost_sound hs hk hpost

theorem Sat.cmem {fr : List AVal} {hp : List (Option (List AVal))} {rows : List (Option Row)} (hs : Sat E A ⟨fr, hp, rows⟩ a w) : CMem A (nthj hp) (nthj rows) w :=
  have hm := hs.mem
  ⟨fun i cs hi => (hm.box i cs hi).1, fun i r hi => ⟨(hm.row i r hi).1, fun ho => ((hm.row i r hi).2 ho).1⟩, fun i ci q r b hi hq ho hf e => by
    rcases hm.kOr hi with hlt | hge
    · exact ((hm.row q r hq).2 ho).2 b hf (e ▸ hlt)
    · exact hm.br i ci q r b hge hi hq hf e, hm.rr⟩
theorem mcallM_sound {g : FuncId} {c : MCtr} (hc : MCtrOk E.P g c) {fr : List AVal} {hp : List (Option (List AVal))} {rows : List (Option Row)} {vs : List AVal} {dst : Option Tmp} {k : St → Prop}
    (hs : Sat E A ⟨fr, hp, rows⟩ a w) (h : mcallM c fr hp rows vs dst k) {o : Oper} (hrun : (execOp a.eval o).run E.P w = .ok (.enter g (dens A vs).toArray) w) :
    Runs E.P (fun u w' => ∃ σ' B, k σ' ∧ Sat E B σ' (a.put dst u) w') ((execOp a.eval o).run E.P w) := by
  simp only [mcallM, lenK_eq] at h
  obtain ⟨ups, new, v, h, hok, hcalls⟩ := hc.calls _ _ _ _ _ h
  simp only [upsK_eq, pushR_eq, lenN_eq] at h
  split at h
  case h_2 => exact h.elim
  rename_i hvsc
  rw [hrun]
  have hm := hs.mem
  have hcm : CMem A (nthj hp) (nthj rows) w := ⟨fun i cs hi => (hm.box i cs hi).1, fun i r hi => ⟨(hm.row i r hi).1, fun ho => ((hm.row i r hi).2 ho).1⟩, fun i ci q r b hi hq ho hf e => by
    rcases hm.kOr hi with hlt | hge
    · exact ((hm.row q r hq).2 ho).2 b hf (e ▸ hlt)
    · exact hm.br i ci q r b hge hi hq hf e, hm.rr⟩
  refine Calls.mono (hcalls A w hcm) ?_
  rintro e w' ⟨hh, he, hkept, hupd, hnew⟩
  refine ⟨_, he, ?_⟩
  have hlen := hnew.len
  have hlt : ∀ i r, nthj rows i = some r → i < rows.length := fun i r hi => by
    rcases Nat.lt_or_ge i rows.length with h' | h'
    · exact h'
    · rw [nthj_none h'] at hi; cases hi
  let rwD : Nat → Option Row := fun q => if q ∈ ups.map Prod.fst then none else nthj rows q
  have hsub : ∀ q r, rwD q = some r → nthj rows q = some r := fun q r hq => by
    simp only [rwD] at hq
    split at hq
    · cases hq
    · exact hq
  have hD : Mem E A (nthj hp) rwD w' := hm.drop (tch := touched A (nthj rows) ups) hsub (fun b ⟨i, u, r, h1, h2, h3⟩ => by
    obtain ⟨r', h4, h5, _⟩ := hok.own i u h1
    rw [h2] at h4; cases h4
    refine ⟨i, r, h2, h5, ?_, h3⟩
    simp only [rwD]
    rw [if_pos (List.mem_map.2 ⟨_, h1, rfl⟩)]) hkept hs.klt
  have hN : ∀ q r', nthj (setUps rows ups) q = some r' → rwD q = some r' ∨ ∃ r, nthj rows q = some r ∧ r.own = true ∧ r'.own = true ∧ RowsOwn w' (A.rw q) (A.inn q) r' ∧ ∀ b, Feet r' (A.rw q) (A.inn q) b → Feet r (A.rw q) (A.inn q) b := fun q r' hq => by
    by_cases hin : q ∈ ups.map Prod.fst
    · obtain ⟨⟨i, u⟩, hiu, rfl⟩ := List.mem_map.1 hin
      obtain ⟨r, h1, h2, h3⟩ := hok.own i u hiu
      rw [setUps_in ups rows i u hok.nodup hiu (hlt i r h1)] at hq
      subst hq
      obtain ⟨h4, h5, h6⟩ := h3 r' rfl
      have hro := hupd i r' hiu
      obtain ⟨c', e', o', xs'⟩ := r'
      simp only at h4 h5
      subst h4
      refine .inr ⟨r, h1, h2, rfl, hro.rows h5, fun b hb => ?_⟩
      obtain ⟨_, h7⟩ := Feet.flat hb h5
      exact Foot.feet ⟨.inl h2, h7⟩ h6
    · rw [setUps_out ups rows q hin] at hq
      refine .inl ?_
      simp only [rwD]
      rw [if_neg hin]; exact hq
  have hM := hm.redoAll hD hsub hN
  have hfrd : ∀ b, freed A (nthj rows) ups b → ∃ i r, (i, none) ∈ ups ∧ nthj rows i = some r ∧ r.own = true ∧ Feet r (A.rw i) (A.inn i) b := fun b ⟨i, r, h1, h2, h3⟩ => by
    obtain ⟨r', h4, h5, _⟩ := hok.own i none h1
    rw [h2] at h4; cases h4
    exact ⟨i, r, h1, h2, h5, h3⟩
  have hsc : ∀ i cs, nthj hp i = some cs → dens (A.setRws rows.length hh) cs = dens A cs := fun i cs hi => (dens_congr (A := A) (B := A.setRws rows.length hh) (fun j hj => rfl) (fun j hj => by
    have hj : j < rows.length := by simpa using hj
    obtain ⟨q1, q2⟩ := setRws_out A rows.length hh j (.inl hj)
    exact ⟨q1.symm, q2.symm⟩) cs (hs.hsc i cs hi)).symm
  have hM2 := hM.addRows rows.length hh new hnew (fun b hb hK => by
      rcases hb with hb | hb
      · have := hs.klt b hK; omega
      · obtain ⟨i, r, h1, h2, h3, h4⟩ := hfrd b hb
        exact ((hm.row i r h2).2 h3).2 b h4 hK)
    (fun i cs b h0 hi hb e => by
      rcases hb with hb | hb
      · have := hm.box_lt hi; omega
      · obtain ⟨q, r, h1, h2, h3, h4⟩ := hfrd b hb
        exact hm.br i cs q r b h0 hi h2 h4 e)
    (fun q r b hq hf hb => by
      have hold : ∃ r0, nthj rows q = some r0 ∧ Feet r0 (A.rw q) (A.inn q) b ∧ (q, none) ∉ ups := by
        rcases hN q r hq with h1 | ⟨r0, h1, h2, h3, h4, h5⟩
        · refine ⟨r, hsub q r h1, hf, fun hu => ?_⟩
          simp only [rwD] at h1
          rw [if_pos (List.mem_map.2 ⟨_, hu, rfl⟩)] at h1; cases h1
        · refine ⟨r0, h1, h5 b hf, fun hu => ?_⟩
          rw [setUps_in ups rows q none hok.nodup hu (hlt q r0 h1)] at hq; cases hq
      obtain ⟨r0, h1, h2, h3⟩ := hold
      rcases hb with hb | hb
      · have := hm.foot_lt h1 h2; omega
      · obtain ⟨i, r1, q1, q2, q3, q4⟩ := hfrd b hb
        exact hm.rr i q r1 r0 b q2 h1 (fun e => by subst e; exact h3 q1) q3 q4 h2)
    (fun i h1 h2 => nthj_none (by rw [setUps_len]; exact h1)) hs.n0 hsc
  have hrows : nthj (setUps rows ups ++ new.map some) = updL (nthj (setUps rows ups)) rows.length new := by
    rw [nthj_rows, setUps_len]
  have hsat := hs.turned (B := A.setRws rows.length hh) (rows3 := setUps rows ups ++ new.map some) (w' := w') (fun _ _ => rfl) (fun q hq => setRws_out A rows.length hh q (.inl hq)) (by rw [List.length_append, setUps_len]; omega) (by rw [hrows]; exact hM2) hkept.size v dst hvsc
  cases dst with
  | none => exact ⟨_, _, h, hsat⟩
  | some d => simp only [setK_eq] at h; exact ⟨_, _, h, hsat⟩

/-! ### clear -/
theorem clrA_sound (hT : TOk E.P T) {fr : List AVal} {hp : List (Option (List AVal))} {rows : List (Option Row)} {t : TypeId} {x : Operand} {dst : Option Tmp} {k : St → Prop} (hs : Sat E A ⟨fr, hp, rows⟩ a w) (h : clrA T ⟨fr, hp, rows⟩ t x dst k) :
    ∃ σ' w', k σ' ∧ Sat E A σ' (a.put dst (.tuple #[])) w' ∧ ∀ ty, (Builtin.clear_ #[t] ty #[a.eval x]).run E.P w = .ok (.tuple #[]) w' := by
  simp only [clrA] at h
  replace h := with1_eq h; obtain ⟨xv, hxv, h⟩ := h
  have ex := ev_sound hs (x := x) hxv
  cases ht : T t with
  | none => simp [ht] at h
  | some ti =>
    simp only [ht] at h
    split at h
    case h_2 => exact h.elim
    rename_i e hd
    have hund := (hT _ _ ht).und
    rw [hd] at hund
    cases he : T e with
    | none => simp [he] at h
    | some ei =>
      simp only [he] at h
      split at h
      case h_2 => exact h.elim
      rename_i r lo n sz
      split at h
      case h_2 => exact h.elim
      rename_i c e1 xs hr
      split at h
      case h_2 => exact h.elim
      rename_i c' hc'
      split at h
      case h_2 => exact h.elim
      rename_i hcl hsame hsz
      have := TyC.same_eq hsame
      subst this
      have hsz := Nat.eq_of_beq_eq_true hsz
      subst hsz
      obtain ⟨hn, h⟩ := h
      replace h := eqK_eq h
      rw [setK_eq] at h
      obtain ⟨hsize, henc, _⟩ := (hT _ _ he).ty _ hc'
      obtain ⟨hat, ho⟩ := hs.mem.row r _ hr
      obtain ⟨ho, hnk⟩ := ho rfl
      have hof := ho.flat hcl
      have hil : r < rows.length := by
        rcases Nat.lt_or_ge r rows.length with h' | h'
        · exact h'
        · rw [nthj_none h'] at hr; cases hr
      have fin : ∀ w', Kept (fun b => b < w.heap.size ∧ ¬ Feet ⟨c', e1, true, xs⟩ (A.rw r) (A.inn r) b) w w' → RowOwn w' (A.rw r) ⟨c', e1, true, xs.take lo ++ (List.replicate n c'.dflt ++ xs.drop (lo + n))⟩ →
          ∃ σ', k σ' ∧ Sat E A σ' (a.put dst (.tuple #[])) w' := fun w' hk hro => by
        have hm := hs.mem.redo hr rfl hk hs.klt (hro.rows hcl) (fun b hb => by
          obtain ⟨_, h2⟩ := Feet.flat hb hcl
          exact Foot.feet ⟨.inl rfl, h2⟩ hcl)
        have := hs.turned (B := A) (rows3 := rows.set r (some ⟨c', e1, true, xs.take lo ++ (List.replicate n c'.dflt ++ xs.drop (lo + n))⟩)) (w' := w') (fun _ _ => rfl) (fun _ _ => ⟨rfl, rfl⟩) (by simp) (by rw [nthj_set _ _ _ hil]; exact hm) hk.size (.raw (.tuple #[])) dst (by simp [AVal.sc])
        cases dst with
        | none => exact ⟨_, h, this⟩
        | some d => simp only [setK_eq] at h; exact ⟨_, h, this⟩
      by_cases h0 : n = 0
      · subst h0
        have hself : xs.take lo ++ (List.replicate 0 c'.dflt ++ xs.drop (lo + 0)) = xs := by simp
        obtain ⟨σ', q1, q2⟩ := fin w (Kept.refl _ _) (by rw [hself]; exact hof)
        refine ⟨σ', w, q1, q2, fun ty => ?_⟩
        rw [ex]
        simp only [AVal.den, Hdr.val, Hdr.view]
        generalize (if (A.rw r).cap = lo then (A.rw r).a else Option.map (fun x => x.add (lo * c'.sz)) (A.rw r).a) = ad
        cases ad <;> simp [Builtin.clear_, run_underlying hund]
      · rcases hof.2 with ⟨_, hx0⟩ | ⟨g, cap, cur, hv, _, hg, hle2, hm2, hcs, htk⟩
        · have : xs.length = 0 := hx0
          omega
        · have hv' := hv
          simp only [Hdr.val, Value.slice.injEq] at hv'
          obtain ⟨hva, hvl, hvc⟩ := hv'
          have hcs : cur.size = cap * c'.sz := hcs
          have hle2 : xs.length ≤ cap := hle2
          obtain ⟨z, hz, hzc⟩ := run_zero (hT _ _ he) w
          let zs : List Value := (List.replicate n c'.dflt).flatMap fun x => dens A0 (c'.enc x)
          have hzl : zs.length = n * c'.sz := by
            simp only [zs]
            rw [flatMap_length _ c'.sz (fun x => by rw [dens_eq]; simp [c'.enc_len]), List.length_replicate]
          have hzero : (Builtin.zeroCells z.cells n).toList = zs := by
            have hl : (dens A0 (c'.enc c'.dflt)).length = c'.sz := by rw [dens_eq, List.length_map, c'.enc_len]
            have h1 : Builtin.zeroCells z.cells n = madeCells z.cells (n * z.cells.size) := rfl
            rw [h1, hzc, ← henc]
            simp only [List.size_toArray]
            rw [madeCells_eq _ _ (by rw [hl]; exact c'.pos)]
            exact flatMap_rep (fun x => dens A0 (c'.enc x)) c'.dflt n
          have hone : ∀ v ∈ zs, v.oneCell' = true := fun v hv => by
            obtain ⟨y, hy, hv⟩ := List.mem_flatMap.1 hv
            rw [dens_eq] at hv
            obtain ⟨q, hq, rfl⟩ := List.mem_map.1 hv
            have := c'.flat y q hq
            cases q <;> simp_all [AVal.flat, AVal.den, Value.oneCell']
          have hb1 : (lo + n) * c'.sz ≤ cap * c'.sz := Nat.mul_le_mul_right _ (by omega)
          have hst := run_storeCells_at E.P g (lo * c'.sz) e1 zs 0 cur w hg (by rw [hzl, hcs]; rw [Nat.add_mul] at hb1; omega) hone
          simp only [Nat.add_zero] at hst
          let cur' : Array Value := (cur.toList.take (lo * c'.sz) ++ zs ++ cur.toList.drop (lo * c'.sz + zs.length)).toArray
          obtain ⟨σ', q1, q2⟩ := fin (w.setRow g cur') (kept_setRow w g cur' fun b hb2 e2 => hb2.2 (by subst e2; exact Foot.feet ⟨.inl rfl, _, hva, rfl⟩ hcl)) (by
            have hxl : (xs.take lo ++ (List.replicate n c'.dflt ++ xs.drop (lo + n))).length = xs.length := by simp; omega
            refine ⟨by rw [Row.cells_length], .inr ⟨g, cap, cur', by rw [hv]; simp only [hxl], Nat.zero_le _, setRow_heap _ _ _ _ _ _ hg, by rw [hxl]; exact hle2, hm2, ?_, ?_⟩⟩
            · show cur'.size = cap * c'.sz
              simp only [cur', List.size_toArray, List.length_append, List.length_take, List.length_drop, Array.length_toList, hzl]
              rw [hcs]; rw [Nat.add_mul] at hb1; omega
            · have htk : cur.toList.take (xs.length * c'.sz) = xs.flatMap fun x => dens A0 (c'.enc x) := htk
              have hfl : ∀ l : List c'.α, (l.flatMap fun x => dens A0 (c'.enc x)).length = l.length * c'.sz := flatMap_length _ c'.sz (fun x => by rw [dens_eq]; simp [c'.enc_len])
              show List.take ((xs.take lo ++ (List.replicate n c'.dflt ++ xs.drop (lo + n))).length * c'.sz) _ = (xs.take lo ++ (List.replicate n c'.dflt ++ xs.drop (lo + n))).flatMap fun x => dens A0 (c'.enc x)
              rw [hxl, flatMap_append_cells, flatMap_append_cells]
              have e0 : xs = xs.take lo ++ ((xs.drop lo).take n ++ xs.drop (lo + n)) := by
                rw [← List.drop_drop, List.take_append_drop, List.take_append_drop]
              have e1 : cur.toList = (xs.flatMap fun x => dens A0 (c'.enc x)) ++ cur.toList.drop (xs.length * c'.sz) := by rw [← htk, List.take_append_drop]
              have e2 : (xs.flatMap fun x => dens A0 (c'.enc x)) = ((xs.take lo).flatMap fun x => dens A0 (c'.enc x)) ++ ((((xs.drop lo).take n).flatMap fun x => dens A0 (c'.enc x)) ++ ((xs.drop (lo + n)).flatMap fun x => dens A0 (c'.enc x))) := by
                rw [← flatMap_append_cells, ← flatMap_append_cells, ← e0]
              have l1 : ((xs.take lo).flatMap fun x => dens A0 (c'.enc x)).length = lo * c'.sz := by rw [hfl]; congr 1; simp; omega
              have l2 : (((xs.drop lo).take n).flatMap fun x => dens A0 (c'.enc x)).length = n * c'.sz := by rw [hfl]; congr 1; simp; omega
              have l3 : ((xs.drop (lo + n)).flatMap fun x => dens A0 (c'.enc x)).length = (xs.length - (lo + n)) * c'.sz := by rw [hfl]; congr 1; simp
              have hmul : xs.length * c'.sz = lo * c'.sz + (n * c'.sz + (xs.length - (lo + n)) * c'.sz) := by rw [← Nat.add_mul, ← Nat.add_mul]; congr 1; omega
              show List.take _ (cur.toList.take (lo * c'.sz) ++ zs ++ cur.toList.drop (lo * c'.sz + zs.length)) = _
              rw [hzl, e1, e2]
              generalize ((xs.take lo).flatMap fun x => dens A0 (c'.enc x)) = X at *
              generalize (((xs.drop lo).take n).flatMap fun x => dens A0 (c'.enc x)) = Y at *
              generalize ((xs.drop (lo + n)).flatMap fun x => dens A0 (c'.enc x)) = Z at *
              generalize cur.toList.drop (xs.length * c'.sz) = R at *
              have d1 : (X ++ (Y ++ Z) ++ R).take (lo * c'.sz) = X := by rw [List.append_assoc, List.take_left' l1]
              have d2 : (X ++ (Y ++ Z) ++ R).drop (lo * c'.sz + n * c'.sz) = Z ++ R := by
                rw [show X ++ (Y ++ Z) ++ R = (X ++ Y) ++ (Z ++ R) by simp, List.drop_left' (by simp [l1, l2])]
              rw [d1, d2, show X ++ zs ++ (Z ++ R) = (X ++ (zs ++ Z)) ++ R by simp, List.take_left' (by simp [l1, l3, hzl, hmul])])
          refine ⟨σ', w.setRow g cur', q1, q2, fun ty => ?_⟩
          rw [ex]
          have hcap : (A.rw r).cap ≠ lo := by rw [hvc]; omega
          have haddr : (⟨g, 0, none⟩ : Addr).add (lo * c'.sz) = ⟨g, lo * c'.sz, none⟩ := by unfold Addr.add; split <;> simp_all
          have hval : (AVal.vw r lo n c'.sz).den A = .slice (some ⟨g, lo * c'.sz, none⟩) n ((A.rw r).cap - lo) := by
            simp only [AVal.den, Hdr.view, Hdr.val, if_neg hcap, hva, Option.map_some, haddr]
          rw [hval]
          obtain ⟨m, rfl⟩ : ∃ m, n = m + 1 := ⟨n - 1, by omega⟩
          simp only [Builtin.clear_]
          simp only [List.getElem?_toArray, List.getElem?_cons_zero, Sem.run_bind, run_underlying hund, Result.andThen_ok, hz, hzero, hst, Sem.run_pure]
          rfl

end
end Go.Proofs.YtmbfflckgmdncaaDoor.Fw

/- Operations that turn rows: a row put into a row of rows. -/
namespace Go.Proofs.YtmbfflckgmdncaaDoor.Fw
open Go Go.RowKit
set_option linter.unusedVariables false
set_option linter.unusedSimpArgs false

mutual
theorem AVal.noI_den {A B : Asg} {r : Nat} (hb : B.bx = A.bx) (hr : B.rw = A.rw) (hi : ∀ k, k ≠ r → B.inn k = A.inn k) : ∀ x : AVal, x.noI r = true → x.den B = x.den A
  | .irow k i, h => by
    have hk : k ≠ r := fun e => by subst e; simp [AVal.noI] at h
    simp only [AVal.den, hi k hk]
  | .iele k i j off sz, h => by
    have hk : k ≠ r := fun e => by subst e; simp [AVal.noI] at h
    simp only [AVal.den, hi k hk]
  | .agg cs, h => by simp only [AVal.noI] at h; simp only [AVal.den, noIs_den hb hr hi cs h]
  | .tup vs, h => by simp only [AVal.noI] at h; simp only [AVal.den, noIs_den hb hr hi vs h]
  | .fn _ fs cs, h => by
    simp only [AVal.noI] at h
    split at h
    · rename_i h1; simp only [AVal.den, noIs_den hb hr hi fs h1, noIs_den hb hr hi cs h]
    · cases h
  | .loc _ _, _ => by simp only [AVal.den, hb]
  | .bsl _ _, _ => by simp only [AVal.den, hb]
  | .mpr _, _ => by simp only [AVal.den, hb]
  | .mps _, _ => by simp only [AVal.den]
  | .ele _ _ _ _, _ => by simp only [AVal.den, hr]
  | .row _, _ => by simp only [AVal.den, hr]
  | .vw _ _ _ _, _ => by simp only [AVal.den, hr]
  | .int _ _, _ => by simp only [AVal.den]
  | .bool _, _ => by simp only [AVal.den]
  | .str _, _ => by simp only [AVal.den]
  | .raw _, _ => by simp only [AVal.den]
  | .junk, _ => by simp only [AVal.den]
theorem noIs_den {A B : Asg} {r : Nat} (hb : B.bx = A.bx) (hr : B.rw = A.rw) (hi : ∀ k, k ≠ r → B.inn k = A.inn k) : ∀ l : List AVal, noIs r l = true → dens B l = dens A l
  | [], _ => by simp only [dens]
  | x :: l, h => by
    simp only [noIs] at h
    split at h
    · rename_i h1; simp only [dens, AVal.noI_den hb hr hi x h1, noIs_den hb hr hi l h]
    · cases h
end
theorem noIb_get {r : Nat} : ∀ (l : List (Option (List AVal))), noIb r l = true → ∀ i c, nthj l i = some c → noIs r c = true
  | [], _, i, c, h => by simp [nthj] at h
  | none :: l, hl, i, c, h => by
    cases i with
    | zero => simp [nthj] at h
    | succ i => exact noIb_get l hl i c h
  | some d :: l, hl, i, c, h => by
    simp only [noIb] at hl
    split at hl
    · rename_i h1
      cases i with
      | zero => simp [nthj] at h; subst h; exact h1
      | succ i => exact noIb_get l hl i c h
    · cases hl
theorem cleanI_eq {r : Nat} : ∀ (l : List AVal) (k : List AVal → Prop), cleanI r l k = k (l.map fun x => if x.noI r = true then x else .junk)
  | [], _ => rfl
  | x :: l, k => by
    simp only [cleanI]
    cases h : x.noI r <;> simp [cleanI_eq l, h]

section
variable {E : Env} {A : Asg} {a : Act} {w w' : World} {T : TypeId → Option TInfo}

theorem sl_cells : ∀ (e : TypeId) (own : Bool) (l : List Hdr), (⟨.sl, e, own, l⟩ : Row).cells = l.map Hdr.val
  | _, _, [] => rfl
  | e, own, x :: l => by
    have ih := sl_cells e own l
    show (⟨.sl, e, own, [x]⟩ : Row).cells ++ (⟨.sl, e, own, l⟩ : Row).cells = _
    rw [ih]; rfl
/-- The header of a row in a row of rows is told anew. -/
theorem put_own {P : Program} (hT : TOk P T) {t : TypeId} {ti : TInfo} (ht : T t = some ti) (h1 : ti.size = 1) {hd hj : Hdr} {e : TypeId} {hs : List Hdr} (ho : RowOwn w hd ⟨.sl, e, true, hs⟩) {i : Nat} (hi : i < hs.length) :
    ∃ g cur', hd.a = some ⟨g, 0, none⟩ ∧ RowOwn (w.setRow g cur') hd ⟨.sl, e, true, hs.set i hj⟩ ∧ ∀ ρ : Operand → Value, ∀ x v ty pos after guard, ρ x = hd.ptr (i * 1 + 0) → ρ v = hj.val →
      (execOp ρ ⟨none, .store t x v, ty, pos, after, guard⟩).run P w = .ok .skip (w.setRow g cur') := by
  rcases ho.2 with ⟨_, hn⟩ | ⟨g, cap, cur, hv, _, hg, hle2, hm2, hcs, htk⟩
  · have : hs.length = 0 := hn
    omega
  · have hv' := hv
    simp only [Hdr.val, Value.slice.injEq] at hv'
    obtain ⟨hva, hvl, hvc⟩ := hv'
    have hcs : cur.size = cap * 1 := hcs
    have hle2 : hs.length ≤ cap := hle2
    have hst := run_storeCells_at P g i e [hj.val] 0 cur w hg (by simp; omega) (by simp [Hdr.val, Value.oneCell'])
    simp only [Nat.add_zero, List.length_singleton] at hst
    let cur' : Array Value := (cur.toList.take i ++ [hj.val] ++ cur.toList.drop (i + 1)).toArray
    have hll : @List.length TyC.sl.α (hs.set i hj) = hs.length := List.length_set ..
    refine ⟨g, cur', hva, ⟨by rw [Row.cells_length], .inr ⟨g, cap, cur', (by rw [hv]; simp only [hll]; try rfl), Nat.zero_le _, setRow_heap _ _ _ _ _ _ hg, by simp only [hll]; exact hle2, hm2, ?_, ?_⟩⟩, fun ρ x v ty pos after guard ex evv => ?_⟩
    · show cur'.size = cap * 1
      simp only [cur', List.size_toArray, List.length_append, List.length_take, List.length_drop, Array.length_toList, List.length_singleton]; omega
    · have htk : cur.toList.take (hs.length * 1) = (⟨.sl, e, true, hs⟩ : Row).cells := htk
      show List.take (@List.length TyC.sl.α (hs.set i hj) * 1) (cur.toList.take i ++ [hj.val] ++ cur.toList.drop (i + 1)) = (⟨.sl, e, true, hs.set i hj⟩ : Row).cells
      rw [sl_cells] at htk
      rw [sl_cells, List.map_set, ← htk, hll, Nat.mul_one, ← List.take_set]
      congr 1
      rw [List.set_eq_take_append_cons_drop, if_pos (by simp; omega)]
      simp
    · have hadd : (⟨g, 0, none⟩ : Addr).add (i * 1 + 0) = ⟨g, i, none⟩ := by
        rw [Nat.mul_one, Nat.add_zero]; unfold Addr.add
        split
        · rename_i h0; rw [h0]
        · simp
      have hptr : hd.ptr (i * 1 + 0) = .pointer (some ⟨g, i, none⟩) := by
        simp only [Hdr.ptr, hva, Option.getD_some, hadd]
      have hcells : hj.val.cells = #[hj.val] := rfl
      simp only [execOp, ex, evv, hptr]
      simp only [Instr.storeAt, Instr.sureAddr, Sem.run_bind, Sem.run_pure, Result.andThen_ok, storeVar, run_size (hT _ _ ht), hcells, h1]
      rw [if_neg (by simp)]
      simp only [Sem.run_bind, hst, Result.andThen_ok, Sem.run_pure]
      rfl

theorem putA_sound (hT : TOk E.P T) {fr : List AVal} {hp : List (Option (List AVal))} {rows : List (Option Row)} {t : TypeId} {x v : Operand} {k : St → Prop} (hs : Sat E A ⟨fr, hp, rows⟩ a w) (h : putA T E.n0 ⟨fr, hp, rows⟩ t x v k) :
    ∃ σ' B w', k σ' ∧ Sat E B σ' a w' ∧ ∀ ty pos after guard, (execOp a.eval ⟨none, .store t x v, ty, pos, after, guard⟩).run E.P w = .ok .skip w' := by
  simp only [putA] at h
  replace h := with1_eq h; obtain ⟨xv, hx, h⟩ := h
  replace h := with1_eq h; obtain ⟨vv, hv, h⟩ := h
  have ex := ev_sound hs (x := x) hx
  have evv := ev_sound hs (x := v) hv
  split at h
  case h_2 => exact h.elim
  rename_i r i j
  split at h
  case h_2 => exact h.elim
  rename_i hrj hn0
  have hn0 : E.n0 ≤ r := Nat.le_of_ble_eq_true hn0
  have hrj : r ≠ j := fun e => by subst e; simp at hrj
  split at h
  case h_2 => exact h.elim
  rename_i c e' e yss c2 e2 ys hr hj
  cases ht : T t with
  | none => simp [ht] at h
  | some ti =>
    simp only [ht] at h
    split at h
    case h_2 => exact h.elim
    rename_i hcl hsz he2
    have he2 := Nat.eq_of_beq_eq_true he2
    subst he2
    split at h
    case h_2 => exact h.elim
    rename_i hsame
    have := TyC.same_eq hsame
    subst this
    obtain ⟨hi, h⟩ : i < @List.length (List c2.α) yss ∧ EqK (@List.set (List c2.α) yss i ys) (fun zss => setK rows r (some ⟨.lst c2 e2, e, true, zss⟩) (fun rows' => setK rows' j none fun rows' => (match noIb r hp with | true => cleanI r fr fun fr' => k ⟨fr', hp, rows'⟩ | false => False))) := h
    replace h := eqK_eq h
    revert yss
    intro (yss : List (List c2.α)) hr hi h
    rw [setK_eq, setK_eq] at h
    split at h
    case h_2 => exact h.elim
    rename_i hnb
    rw [cleanI_eq] at h
    have hm := hs.mem
    obtain ⟨_, ho⟩ := hm.row r _ hr
    obtain ⟨ho, hnk⟩ := ho rfl
    obtain ⟨_, hoj⟩ := hm.row j _ hj
    obtain ⟨hoj, hnkj⟩ := hoj rfl
    have hojf := hoj.flat hcl
    have hlt : ∀ i r, nthj rows i = some r → i < rows.length := fun i r hi => by
      rcases Nat.lt_or_ge i rows.length with h' | h'
      · exact h'
      · rw [nthj_none h'] at hi; cases hi
    let n := yss.length
    obtain ⟨g, cur', hva, hown', hrun⟩ := put_own (hj := A.rw j) hT ht hsz ho.outer (i := i) (by show i < (List.map (A.inn r) (List.range yss.length)).length; simpa using hi)
    let ihN : Nat → Hdr := upd (A.inn r) i (A.rw j)
    have hlen : (yss.set i ys).length = n := by simp [n]
    have hrange : (List.range n).map ihN = ((List.range n).map (A.inn r)).set i (A.rw j) := by
      apply List.ext_getElem?
      intro q
      by_cases hq : q < n
      · rw [List.getElem?_map, List.getElem?_range hq]
        by_cases hqi : q = i
        · subst hqi
          rw [List.getElem?_set_self (by simpa using hq)]
          simp [ihN, upd_same]
        · rw [List.getElem?_set_ne (fun e => hqi e.symm), List.getElem?_map, List.getElem?_range hq]
          simp [ihN, upd_ne _ _ _ hqi]
      · rw [List.getElem?_eq_none (by simpa using hq), List.getElem?_eq_none (by simpa using hq)]
    have hcross : ∀ b, Feet ⟨.lst c2 e2, e, true, yss⟩ (A.rw r) (A.inn r) b → ¬ (A.rw j).at b := fun b hb hb' => by
      obtain ⟨a0, ha0, hb0⟩ := hb'
      exact hm.rr r j _ _ b hr hj hrj rfl hb (Foot.feet ⟨.inl rfl, a0, ha0, hb0⟩ hcl)
    have hg : Feet ⟨.lst c2 e2, e, true, yss⟩ (A.rw r) (A.inn r) g := Feet.head (r := ⟨.lst c2 e2, e, true, yss⟩) rfl hva
    have hk : Kept (fun b => b < w.heap.size ∧ ¬ (b = g)) w (w.setRow g cur') := kept_setRow w g cur' fun b hb => hb.2
    have hih : ∀ q, q < n → q ≠ i → ihN q = A.inn r q := fun q hq hqi => upd_ne _ _ _ hqi
    have hii : ihN i = A.rw j := upd_same _ _ _
    have inner_ne : ∀ q, q < n → ∀ a0, (A.inn r q).a = some a0 → a0.block ≠ g := fun q hq a0 ha0 => ho.dis (q + 1) 0 _ _ (parts_get q hq) rfl (by omega) a0 _ ha0 hva
    have hnew : RowsOwn (w.setRow g cur') (A.rw r) ihN ⟨.lst c2 e2, e, true, yss.set i ys⟩ := by
      have part : ∀ m p, ((⟨.lst c2 e2, e, true, yss.set i ys⟩ : Row).parts (A.rw r) ihN)[m]? = some p → (m = 0 ∧ p = (A.rw r, ⟨.sl, e, true, ((List.range n).map (A.inn r)).set i (A.rw j)⟩)) ∨ (m = i + 1 ∧ p = (A.rw j, ⟨c2, e2, true, ys⟩)) ∨
          (∃ q, q < n ∧ q ≠ i ∧ m = q + 1 ∧ p = (A.inn r q, ⟨c2, e2, true, yss.getD q []⟩)) := fun m p hm => by
        cases m with
        | zero =>
          have hm : some (A.rw r, (⟨.sl, e, true, (List.range (yss.set i ys).length).map ihN⟩ : Row)) = some p := hm
          rw [hlen] at hm
          cases hm
          exact .inl ⟨rfl, congrArg (fun z : List Hdr => ((A.rw r, (⟨.sl, e, true, z⟩ : Row)) : Hdr × Row)) hrange⟩
        | succ m =>
          have hml : m < (yss.set i ys).length := by
            rw [parts_lst, List.getElem?_cons_succ, List.getElem?_map] at hm
            rcases Nat.lt_or_ge m (yss.set i ys).length with h0 | h0
            · exact h0
            · rw [List.getElem?_eq_none (by simpa using h0)] at hm; cases hm
          rw [parts_get m hml] at hm
          cases hm
          by_cases hmi : m = i
          · subst hmi
            refine .inr (.inl ⟨rfl, ?_⟩)
            have : (yss.set m ys).getD m [] = ys := by simp [List.getD, hi]
            rw [this, hii]
          · refine .inr (.inr ⟨m, by omega, hmi, rfl, ?_⟩)
            have : (yss.set i ys).getD m [] = yss.getD m [] := by
              rw [List.getD_eq_getElem?_getD, List.getD_eq_getElem?_getD, List.getElem?_set_ne (fun e => hmi e.symm)]
            rw [this, hih m (by omega) hmi]
      refine ⟨fun p hp => ?_, fun i1 j1 p q hp hq hij y z hy hz he0 => ?_⟩
      · obtain ⟨m, hm'⟩ := List.mem_iff_getElem?.1 hp
        rcases part m p hm' with ⟨_, rfl⟩ | ⟨_, rfl⟩ | ⟨q, hq, hqi, _, rfl⟩
        · exact hown'
        · exact hojf.keep fun a0 ha0 => setRow_other _ _ _ _ (fun e0 => hcross _ hg ⟨a0, ha0, e0⟩)
        · exact (ho.inner hq).keep fun a0 ha0 => setRow_other _ _ _ _ (inner_ne q hq a0 ha0)
      · rcases part i1 p hp with ⟨rfl, rfl⟩ | ⟨rfl, rfl⟩ | ⟨q1, hq1, hqi1, rfl, rfl⟩ <;> rcases part j1 q hq with ⟨rfl, rfl⟩ | ⟨rfl, rfl⟩ | ⟨q2, hq2, hqi2, rfl, rfl⟩
        · exact hij rfl
        · rw [hva] at hy; cases hy
          exact hcross _ hg ⟨z, hz, he0.symm⟩
        · rw [hva] at hy; cases hy
          exact inner_ne q2 hq2 z hz he0.symm
        · rw [hva] at hz; cases hz
          exact hcross _ hg ⟨y, hy, he0⟩
        · exact hij rfl
        · exact hcross z.block ⟨_, mem_inner hq2, .inl rfl, z, hz, rfl⟩ ⟨y, hy, he0⟩
        · rw [hva] at hz; cases hz
          exact inner_ne q1 hq1 y hy he0
        · exact hcross y.block ⟨_, mem_inner hq1, .inl rfl, y, hy, rfl⟩ ⟨z, hz, he0.symm⟩
        · exact ho.dis (q1 + 1) (q2 + 1) _ _ (parts_get q1 hq1) (parts_get q2 hq2) hij y z hy hz he0
    let rw2 : Nat → Option Row := fun q => if q = r ∨ q = j then none else nthj rows q
    have hsub : ∀ q c, rw2 q = some c → nthj rows q = some c := fun q c hq => by
      simp only [rw2] at hq
      split at hq
      · cases hq
      · exact hq
    have hM := hm.remake (rw2 := rw2) (tch := fun b => b = g) hsub (fun b hb => by subst hb; exact ⟨r, _, hr, rfl, by simp [rw2], hg⟩) hk hs.klt r (A.rw r) ihN ⟨.lst c2 e2, e, true, yss.set i ys⟩ (by simp [rw2]) hn0
      (fun i0 cs hi0 => noIs_den (r := r) (A := A) (B := A.setRw r (A.rw r) ihN) rfl (by
        funext q
        show upd A.rw r (A.rw r) q = _
        by_cases hq : q = r
        · subst hq; rw [upd_same]
        · rw [upd_ne _ _ _ hq]) (fun q hq => upd_ne _ _ _ hq) cs (noIb_get hp hnb i0 cs hi0)) hnew (fun b hb => by
        obtain ⟨p, hp', _, a0, ha0, hb0⟩ := hb
        rw [parts_lst] at hp'
        simp only [List.mem_cons, List.mem_map, List.mem_range] at hp'
        rcases hp' with rfl | ⟨q, hq, rfl⟩
        · exact .inr ⟨r, _, hr, rfl, by simp [rw2], hb0 ▸ Feet.head (r := ⟨.lst c2 e2, e, true, yss⟩) rfl ha0⟩
        · rw [hlen] at hq
          by_cases hqi : q = i
          · subst hqi
            rw [hii] at ha0
            exact .inr ⟨j, _, hj, rfl, by simp [rw2], Foot.feet ⟨.inl rfl, a0, ha0, hb0⟩ hcl⟩
          · rw [hih q hq hqi] at ha0
            exact .inr ⟨r, _, hr, rfl, by simp [rw2], ⟨_, mem_inner hq, .inl rfl, a0, ha0, hb0⟩⟩)
    have hrw : (A.setRw r (A.rw r) ihN).rw = A.rw := by
      funext q
      show upd A.rw r (A.rw r) q = _
      by_cases hq : q = r
      · subst hq; rw [upd_same]
      · rw [upd_ne _ _ _ hq]
    have hrows : nthj ((rows.set r (some ⟨.lst c2 e2, e, true, yss.set i ys⟩)).set j none) = upd rw2 r (some ⟨.lst c2 e2, e, true, yss.set i ys⟩) := by
      funext q
      rw [nthj_setNone]
      by_cases hqj : q = j
      · subst hqj
        rw [if_pos rfl, upd_ne _ _ _ (fun e => hrj e.symm)]
        simp [rw2]
      · rw [if_neg hqj, nthj_set _ _ _ (hlt r _ hr)]
        by_cases hqr : q = r
        · subst hqr; rw [upd_same, upd_same]
        · rw [upd_ne _ _ _ hqr, upd_ne _ _ _ hqr]
          simp [rw2, hqr, hqj]
    refine ⟨_, A.setRw r (A.rw r) ihN, w.setRow g cur', h, ?_, fun ty pos after guard => hrun a.eval x v ty pos after guard (by rw [ex]; rfl) (by rw [evv]; rfl)⟩
    have hpres : ∀ y : AVal, y.noI r = true → y.den (A.setRw r (A.rw r) ihN) = y.den A := fun y hy => AVal.noI_den (A := A) (B := A.setRw r (A.rw r) ihN) rfl hrw (fun q hq => upd_ne _ _ _ hq) y hy
    exact {
      defers := hs.defers
      size := by simpa using hs.size
      fr := fun t0 y hy => by
        rw [List.getElem?_map] at hy
        cases hf : fr[t0]? with
        | none => rw [hf] at hy; cases hy
        | some y0 =>
          rw [hf] at hy
          simp only [Option.map_some, Option.some.injEq] at hy
          split at hy
          · rename_i hno
            subst hy
            exact (hs.fr t0 y0 hf).imp id (fun e0 => by rw [hpres y0 hno]; exact e0)
          · exact .inl hy.symm
      sc := fun t0 y hy => by
        rw [List.getElem?_map] at hy
        cases hf : fr[t0]? with
        | none => rw [hf] at hy; cases hy
        | some y0 =>
          rw [hf] at hy
          simp only [Option.map_some, Option.some.injEq] at hy
          split at hy
          · subst hy; simpa using hs.sc t0 y0 hf
          · subst hy; simp [AVal.sc]
      hsc := fun i0 cs hi0 => by simpa using hs.hsc i0 cs hi0
      mem := by
        show Mem E _ (nthj hp) (nthj _) _
        rw [hrows]; exact hM
      klt := fun b hb => by rw [setRow_size]; exact hs.klt b hb
      n0 := by simpa using hs.n0
      b0 := hs.b0 }

end
end Go.Proofs.YtmbfflckgmdncaaDoor.Fw

/- Operations that turn rows: an append that stays within a row; a slice expression with three bounds. -/
namespace Go.Proofs.YtmbfflckgmdncaaDoor.Fw
open Go Go.RowKit
set_option linter.unusedVariables false
set_option linter.unusedSimpArgs false

section
variable {E : Env} {A : Asg} {a : Act} {w w' : World} {T : TypeId → Option TInfo} {G : List (FuncId × Ctr)}
variable {hpf : Nat → Option (List AVal)} {rw_ rwD rwN : Nat → Option Row}

/-- Elements of a row of the walk's own, written over. -/
theorem own_over {P : Program} {h : Hdr} {c : TyC} {e : TypeId} {xs ys : List c.α} {lo : Nat} (hcl : c.isL = false) (hof : RowOwn w h ⟨c, e, true, xs⟩) (hn : lo + ys.length ≤ xs.length) (h0 : 0 < ys.length) :
    ∃ g cap cur', h.a = some ⟨g, 0, none⟩ ∧ h.cap = cap ∧ lo < cap ∧ RowOwn (w.setRow g cur') h ⟨c, e, true, xs.take lo ++ (ys ++ xs.drop (lo + ys.length))⟩ ∧
      (storeCells ⟨g, lo * c.sz, none⟩ (ys.flatMap fun x => dens A0 (c.enc x)) 0).run P w = .ok () (w.setRow g cur') := by
  rcases hof.2 with ⟨_, hx0⟩ | ⟨g, cap, cur, hv, _, hg, hle2, hm2, hcs, htk⟩
  · have : xs.length = 0 := hx0
    omega
  · have hv' := hv
    simp only [Hdr.val, Value.slice.injEq] at hv'
    obtain ⟨hva, hvl, hvc⟩ := hv'
    have hcs : cur.size = cap * c.sz := hcs
    have hle2 : xs.length ≤ cap := hle2
    generalize hzs : (ys.flatMap fun x => dens A0 (c.enc x)) = zs
    generalize hnn : ys.length = n at *
    have hzl : zs.length = n * c.sz := by
      rw [← hzs, flatMap_length _ c.sz (fun x => by rw [dens_eq]; simp [c.enc_len]), hnn]
    have hone : ∀ v ∈ zs, v.oneCell' = true := fun v hv => by
      rw [← hzs] at hv
      obtain ⟨y, hy, hv⟩ := List.mem_flatMap.1 hv
      rw [dens_eq] at hv
      obtain ⟨q, hq, rfl⟩ := List.mem_map.1 hv
      have := c.flat y q hq
      cases q <;> simp_all [AVal.flat, AVal.den, Value.oneCell']
    have hb1 : (lo + n) * c.sz ≤ cap * c.sz := Nat.mul_le_mul_right _ (by omega)
    have hst := run_storeCells_at P g (lo * c.sz) e zs 0 cur w hg (by rw [hzl, hcs]; rw [Nat.add_mul] at hb1; omega) hone
    simp only [Nat.add_zero] at hst
    let cur' : Array Value := (cur.toList.take (lo * c.sz) ++ zs ++ cur.toList.drop (lo * c.sz + zs.length)).toArray
    refine ⟨g, cap, cur', hva, hvc, by omega, ?_, hst⟩
    have hxl : (xs.take lo ++ (ys ++ xs.drop (lo + n))).length = xs.length := by simp; omega
    refine ⟨by rw [Row.cells_length], .inr ⟨g, cap, cur', by rw [hv]; simp only [hxl], Nat.zero_le _, setRow_heap _ _ _ _ _ _ hg, by rw [hxl]; exact hle2, hm2, ?_, ?_⟩⟩
    · show cur'.size = cap * c.sz
      simp only [cur', List.size_toArray, List.length_append, List.length_take, List.length_drop, Array.length_toList, hzl]
      rw [hcs]; rw [Nat.add_mul] at hb1; omega
    · have htk : cur.toList.take (xs.length * c.sz) = xs.flatMap fun x => dens A0 (c.enc x) := htk
      have hfl : ∀ l : List c.α, (l.flatMap fun x => dens A0 (c.enc x)).length = l.length * c.sz := flatMap_length _ c.sz (fun x => by rw [dens_eq]; simp [c.enc_len])
      show List.take ((xs.take lo ++ (ys ++ xs.drop (lo + n))).length * c.sz) _ = (xs.take lo ++ (ys ++ xs.drop (lo + n))).flatMap fun x => dens A0 (c.enc x)
      rw [hxl, flatMap_append_cells, flatMap_append_cells, hzs]
      have e0 : xs = xs.take lo ++ ((xs.drop lo).take n ++ xs.drop (lo + n)) := by
        rw [← List.drop_drop, List.take_append_drop, List.take_append_drop]
      have e1 : cur.toList = (xs.flatMap fun x => dens A0 (c.enc x)) ++ cur.toList.drop (xs.length * c.sz) := by rw [← htk, List.take_append_drop]
      have e2 : (xs.flatMap fun x => dens A0 (c.enc x)) = ((xs.take lo).flatMap fun x => dens A0 (c.enc x)) ++ ((((xs.drop lo).take n).flatMap fun x => dens A0 (c.enc x)) ++ ((xs.drop (lo + n)).flatMap fun x => dens A0 (c.enc x))) := by
        rw [← flatMap_append_cells, ← flatMap_append_cells, ← e0]
      have l1 : ((xs.take lo).flatMap fun x => dens A0 (c.enc x)).length = lo * c.sz := by rw [hfl]; congr 1; simp; omega
      have l2 : (((xs.drop lo).take n).flatMap fun x => dens A0 (c.enc x)).length = n * c.sz := by rw [hfl]; congr 1; simp; omega
      have l3 : ((xs.drop (lo + n)).flatMap fun x => dens A0 (c.enc x)).length = (xs.length - (lo + n)) * c.sz := by rw [hfl]; congr 1; simp
      have hmul : xs.length * c.sz = lo * c.sz + (n * c.sz + (xs.length - (lo + n)) * c.sz) := by rw [← Nat.add_mul, ← Nat.add_mul]; congr 1; omega
      show List.take _ (cur.toList.take (lo * c.sz) ++ zs ++ cur.toList.drop (lo * c.sz + zs.length)) = _
      rw [hzl, e1, e2]
      clear hst e1 e2 e0 htk
      generalize ((xs.take lo).flatMap fun x => dens A0 (c.enc x)) = X at *
      generalize (((xs.drop lo).take n).flatMap fun x => dens A0 (c.enc x)) = Y at *
      generalize ((xs.drop (lo + n)).flatMap fun x => dens A0 (c.enc x)) = Z at *
      generalize cur.toList.drop (xs.length * c.sz) = R at *
      have d1 : (X ++ (Y ++ Z) ++ R).take (lo * c.sz) = X := by rw [List.append_assoc, List.take_left' l1]
      have d2 : (X ++ (Y ++ Z) ++ R).drop (lo * c.sz + n * c.sz) = Z ++ R := by
        rw [show X ++ (Y ++ Z) ++ R = (X ++ Y) ++ (Z ++ R) by simp, List.drop_left' (by simp [l1, l2])]
      rw [d1, d2, show X ++ zs ++ (Z ++ R) = (X ++ (zs ++ Z)) ++ R by simp, List.take_left' (by simp [l1, l3, hzl, hmul])]

/-- The cells of a row. -/
theorem row_cells {P : Program} {h : Hdr} {c : TyC} {e : TypeId} {own : Bool} {ys : List c.α} (hr : RowAt w h ⟨c, e, own, ys⟩) (size : Nat) (hsz : size = c.sz) :
    (Builtin.firstCells size ys.length h.val).run P w = .ok (ys.flatMap fun x => dens A0 (c.enc x)).toArray w := by
  subst hsz
  have hxl : h.len = ys.length := hr.len
  cases hxa : h.a with
  | none =>
    have hys : ys = [] := by
      cases ys with
      | nil => rfl
      | cons y l =>
        obtain ⟨a, ha⟩ := hr.there (i := 0) (by show 0 < (y :: l).length; simp)
        rw [hxa] at ha; cases ha
    subst hys
    simp [Hdr.val, hxa, Builtin.firstCells]
  | some a =>
    have hnews : ∀ j u, (ys.flatMap fun x => dens A0 (c.enc x))[j]? = some u → w.cell? (a.add j) = some u := fun j u hj => by
      have hlt : j < ys.length * c.sz := by
        have := (List.getElem?_eq_some_iff.1 hj).1
        rwa [flatMap_length _ c.sz (fun x => by rw [dens_eq]; simp [c.enc_len])] at this
      have hp := c.pos
      have hq : j / c.sz < ys.length := by rw [Nat.div_lt_iff_lt_mul hp]; exact hlt
      have hm : j % c.sz < c.sz := Nat.mod_lt _ hp
      obtain ⟨a', ha', hc⟩ := hr.cell (j / c.sz) _ (List.getElem?_eq_getElem hq)
      rw [hxa] at ha'; cases ha'
      have hml : j % c.sz < (c.enc ys[j / c.sz]).length := by rw [c.enc_len]; exact hm
      have h1 := hc (j % c.sz) _ (List.getElem?_eq_getElem hml)
      have h2 := flatMap_get (fun x => dens A0 (c.enc x)) c.sz (fun x => by rw [dens_eq]; simp [c.enc_len]) ys (j / c.sz) (j % c.sz) _ _ (List.getElem?_eq_getElem hq) (by rw [dens_eq, List.getElem?_map, List.getElem?_eq_getElem hml]; rfl)
      have e1 : j / c.sz * c.sz + j % c.sz = j := by rw [Nat.mul_comm]; exact Nat.div_add_mod _ _
      rw [e1] at h1 h2
      rw [hj] at h2
      cases h2
      exact h1
    have := run_firstCells_some (P := P) w c.sz ys.length a ys.length h.cap _ (flatMap_length _ c.sz (fun x => by rw [dens_eq]; simp [c.enc_len]) ys) hnews
    simp only [Hdr.val, hxa, hxl]
    exact this

/-- An append in place. -/
theorem appI_sound (hT : TOk E.P T) {fr : List AVal} {hp : List (Option (List AVal))} {rows : List (Option Row)} {t : TypeId} {s x : Operand} {d : Nat} {k : St → Prop} (hs : Sat E A ⟨fr, hp, rows⟩ a w) (h : appI T ⟨fr, hp, rows⟩ t s x d k) :
    ∃ σ' B u w', k σ' ∧ Sat E B σ' (a.put (some d) u) w' ∧ ∀ ty, (Builtin.append_ #[t, t] ty #[a.eval s, a.eval x]).run E.P w = .ok u w' := by
  simp only [appI] at h
  replace h := with1_eq h; obtain ⟨sv, hsv, h⟩ := h
  replace h := with1_eq h; obtain ⟨xv, hxv, h⟩ := h
  have es := ev_sound hs (x := s) hsv
  have ex := ev_sound hs (x := x) hxv
  cases ht : T t with
  | none => simp [ht] at h
  | some ti =>
    simp only [ht] at h
    split at h
    case h_2 => exact h.elim
    rename_i e hd
    have hund := (hT _ _ ht).und
    rw [hd] at hund
    cases he : T e with
    | none => simp [he] at h
    | some ei =>
      simp only [he] at h
      split at h
      case h_2 => exact h.elim
      rename_i r lo n sz
      split at h
      case h_2 => exact h.elim
      rename_i c e1 xs hr
      split at h
      case h_2 => exact h.elim
      rename_i hcl hsz hsz2
      have hsz := Nat.eq_of_beq_eq_true hsz
      have hsz2 := Nat.eq_of_beq_eq_true hsz2
      subst hsz
      obtain ⟨ys, hx, e2, own2, h, e3, hrx⟩ := srcA_inv hcl hs.mem h
      obtain ⟨hn, h⟩ := h
      replace h := eqK_eq h
      simp only [setK_eq] at h
      obtain ⟨hat, ho⟩ := hs.mem.row r _ hr
      obtain ⟨ho, hnk⟩ := ho rfl
      have hof := ho.flat hcl
      have hil : r < rows.length := by
        rcases Nat.lt_or_ge r rows.length with h' | h'
        · exact h'
        · rw [nthj_none h'] at hr; cases hr
      have hsc : AVal.sc hp.length [] rows.length [] (.vw r lo (n + ys.length) c.sz) = true := by simp [AVal.sc, lvl_eq, hil]
      have hlen : (A.rw r).len = xs.length := hof.at.len
      have hcap : xs.length ≤ (A.rw r).cap := by rw [← hlen]; exact hof.at.cap
      have hxl : hx.len = ys.length := hrx.len
      obtain ⟨inf, z, hi, hsize, hbytes, hz, hzc⟩ := info_of (hT _ _ he)
      have hfc := row_cells (P := E.P) hrx ei.size hsz2
      have hval : (AVal.vw r lo n c.sz).den A = ((A.rw r).view lo n c.sz).val := rfl
      have fin : ∀ w', Kept (fun b => b < w.heap.size ∧ ¬ Feet ⟨c, e1, true, xs⟩ (A.rw r) (A.inn r) b) w w' → RowOwn w' (A.rw r) ⟨c, e1, true, xs.take (lo + n) ++ (ys ++ xs.drop (lo + n + ys.length))⟩ →
          Sat E A ⟨fr.set d (.vw r lo (n + ys.length) c.sz), hp, rows.set r (some ⟨c, e1, true, xs.take (lo + n) ++ (ys ++ xs.drop (lo + n + ys.length))⟩)⟩ (a.put (some d) ((AVal.vw r lo (n + ys.length) c.sz).den A)) w' := fun w' hk hro => by
        have hm := hs.mem.redo hr rfl hk hs.klt (hro.rows hcl) (fun b hb => by
          obtain ⟨_, h2⟩ := Feet.flat hb hcl
          exact Foot.feet ⟨.inl rfl, h2⟩ hcl)
        exact hs.turned (B := A) (rows3 := rows.set r (some ⟨c, e1, true, xs.take (lo + n) ++ (ys ++ xs.drop (lo + n + ys.length))⟩)) (w' := w') (fun _ _ => rfl) (fun _ _ => ⟨rfl, rfl⟩) (by simp) (by rw [nthj_set _ _ _ hil]; exact hm) hk.size (.vw r lo (n + ys.length) c.sz) (some d) (by simpa using hsc)
      rcases Nat.eq_zero_or_pos ys.length with h0 | h0
      · have hys : ys = [] := List.eq_nil_of_length_eq_zero h0
        subst hys
        have hself : xs.take (lo + n) ++ ([] ++ xs.drop (lo + n + ([] : List c.α).length)) = xs := by simp
        refine ⟨_, A, _, w, h, fin w (Kept.refl _ _) (by rw [hself]; exact hof), fun ty => ?_⟩
        rw [es, ex, e3, hval]
        have hfc' : (Builtin.firstCells ei.size 0 hx.val).run E.P w = .ok #[] w := hfc
        have hle : n ≤ (A.rw r).cap - lo := by simp at hn; omega
        simp only [AVal.den, Hdr.view, Hdr.val]
        have hl0 : hx.len = 0 := hxl
        have hv : hx.val = .slice hx.a hx.len hx.cap := rfl
        rw [hv, hl0] at hfc'
        generalize (if (A.rw r).cap = lo then (A.rw r).a else Option.map (fun x => x.add (lo * c.sz)) (A.rw r).a) = ad
        cases ad <;> simp [Builtin.append_, run_underlying hund, sizeOf, typeInfo, hi, Builtin.lenOf, hl0, hle, hfc', hsize, storeCells, List.length_nil]
        all_goals first | done | skip
      · obtain ⟨g, cap, cur', hga, hgc, hlt, hro, hst⟩ := own_over (P := E.P) (lo := lo + n) hcl hof hn h0
        refine ⟨_, A, _, w.setRow g cur', h, fin _ (kept_setRow w g cur' fun b hb2 e2 => hb2.2 (by subst e2; exact Foot.feet ⟨.inl rfl, _, hga, rfl⟩ hcl)) hro, fun ty => ?_⟩
        rw [es, ex, e3, hval]
        have hcne : ¬ (A.rw r).cap = lo := by omega
        have haddr : (⟨g, 0, none⟩ : Addr).add (lo * c.sz) = ⟨g, lo * c.sz, none⟩ := by unfold Addr.add; split <;> simp_all
        have hadd2 : (⟨g, lo * c.sz, none⟩ : Addr).add (n * ei.size) = ⟨g, (lo + n) * c.sz, none⟩ := by rw [hsz2, Nat.add_mul]; unfold Addr.add; split <;> simp_all
        have hle : n + ys.length ≤ (A.rw r).cap - lo := by omega
        have hv : hx.val = .slice hx.a hx.len hx.cap := rfl
        rw [hv, hxl] at hfc
        simp only [AVal.den, Hdr.view, Hdr.val, if_neg hcne, hga, Option.map_some, haddr]
        simp [Builtin.append_, run_underlying hund, sizeOf, typeInfo, hi, Builtin.lenOf, hxl, hle, hfc, hsize, hadd2, hst]

theorem Sat.putJ {σ : St} (h : Sat E A σ a w) (d : Nat) (u : Value) : Sat E A ⟨σ.fr.set d .junk, σ.hp, σ.rows⟩ (a.put (some d) u) w :=
  { h with
    size := by simp [Act.put, h.size]
    fr := fun t y hy => by
      by_cases htd : t = d
      · subst htd
        rw [List.getElem?_set_self'] at hy
        cases hf : σ.fr[t]? with
        | none => simp [hf] at hy
        | some z => simp [hf] at hy; subst hy; exact .inl rfl
      · rw [List.getElem?_set_ne (fun e => htd e.symm)] at hy
        refine (h.fr t y hy).imp id (fun e => ?_)
        rw [← e]
        simp only [Act.put, Array.getD_eq_getD_getElem?]
        rw [Array.getElem?_setIfInBounds_ne (fun e => htd e.symm)]
    sc := fun t y hy => by
      by_cases htd : t = d
      · subst htd
        rw [List.getElem?_set_self'] at hy
        cases hf : σ.fr[t]? with
        | none => simp [hf] at hy
        | some z => simp [hf] at hy; subst hy; simp [AVal.sc]
      · rw [List.getElem?_set_ne (fun e => htd e.symm)] at hy; exact h.sc t y hy }

/-- The machine's slice expression with three bounds. -/
theorem sl3_run {P : Program} (w : World) (hT : TOk P T) {t e : TypeId} {ti ei : TInfo} (ht : T t = some ti) (hd : ti.desc = .slice e) (he : T e = some ei) (h : Hdr) (kl kh km : IntKind) (l hi m : Int) (h1 : 0 ≤ l ∧ l ≤ hi ∧ hi ≤ m ∧ m ≤ (h.cap : Int)) :
    ∃ u, (Instr.sliceAt t h.val (some (.int kl l)) (some (.int kh hi)) (some (.int km m))).run P w = .ok u w := by
  have hund := (hT _ _ ht).und
  rw [hd] at hund
  obtain ⟨q1, q2, q3, q4⟩ := h1
  refine ⟨.slice (if m.toNat = l.toNat then h.a else h.a.map (·.add (l.toNat * ei.size))) (hi.toNat - l.toNat) (m.toNat - l.toNat), ?_⟩
  simp only [Hdr.val, Instr.sliceAt, Sem.run_bind, run_underlying hund, Result.andThen_ok, Instr.slice, Instr.sliceBounds, bound_ok P w km m h.cap _ ⟨by omega, q4⟩, bound_ok P w kh hi m.toNat _ ⟨by omega, by omega⟩,
    bound_ok P w kl l hi.toNat _ ⟨q1, by omega⟩, run_size (hT _ _ he), Sem.run_pure]

theorem sl3A_sound (hT : TOk E.P T) {fr : List AVal} {hp : List (Option (List AVal))} {rows : List (Option Row)} {t : TypeId} {x lo hi mx : Operand} {d : Nat} {k : St → Prop} (hs : Sat E A ⟨fr, hp, rows⟩ a w) (h : sl3A T ⟨fr, hp, rows⟩ t x lo hi mx d k) :
    ∃ σ' u, k σ' ∧ Sat E A σ' (a.put (some d) u) w ∧ (Instr.sliceAt t (a.eval x) (some (a.eval lo)) (some (a.eval hi)) (some (a.eval mx))).run E.P w = .ok u w := by
  simp only [sl3A] at h
  replace h := with1_eq h; obtain ⟨xv, hxv, h⟩ := h
  replace h := with1_eq h; obtain ⟨lv, hlv, h⟩ := h
  replace h := with1_eq h; obtain ⟨hv, hhv, h⟩ := h
  replace h := with1_eq h; obtain ⟨mv, hmv, h⟩ := h
  have e0 := ev_sound hs (x := x) hxv
  have e1 := ev_sound hs (x := lo) hlv
  have e2 := ev_sound hs (x := hi) hhv
  have e3 := ev_sound hs (x := mx) hmv
  split at h
  case h_2 => exact h.elim
  rename_i kl l kh h' km m
  cases ht : T t with
  | none => simp [ht] at h
  | some ti =>
    simp only [ht] at h
    split at h
    case h_2 => exact h.elim
    rename_i e hd
    cases he : T e with
    | none => simp [he] at h
    | some ei =>
      simp only [he] at h
      simp only [AVal.den] at e1 e2 e3
      rw [e0, e1, e2, e3]
      split at h
      · rename_i r
        split at h
        case h_2 => exact h.elim
        rename_i c e1 own xs hr
        obtain ⟨⟨q1, q2, q3, q4⟩, h⟩ := h
        rw [setK_eq] at h
        obtain ⟨hat, _⟩ := hs.mem.row r _ hr
        have hlen : (A.rw r).len = xs.length := hat.len
        have hcap := hat.cap
        obtain ⟨u, hu⟩ := sl3_run w hT ht hd he (A.rw r) kl kh km l h' m ⟨q1, q2, q3, by omega⟩
        exact ⟨_, u, h, hs.putJ d u, hu⟩
      · rename_i r lo' n sz
        split at h
        case h_2 => exact h.elim
        rename_i c e1 own xs hr
        obtain ⟨⟨q1, q2, q3, q4, q5⟩, h⟩ := h
        rw [setK_eq] at h
        obtain ⟨hat, _⟩ := hs.mem.row r _ hr
        have hlen : (A.rw r).len = xs.length := hat.len
        have hcap := hat.cap
        obtain ⟨u, hu⟩ := sl3_run w hT ht hd he ((A.rw r).view lo' n sz) kl kh km l h' m ⟨q1, q2, q3, by
          show m ≤ (((A.rw r).cap - lo' : Nat) : Int); omega⟩
        exact ⟨_, u, h, hs.putJ d u, hu⟩
      · exact h.elim

end
end Go.Proofs.YtmbfflckgmdncaaDoor.Fw

/- Calls under contracts that turn what is there. -/
namespace Go.Proofs.YtmbfflckgmdncaaDoor.Fw
open Go Go.RowKit
set_option linter.unusedVariables false
set_option linter.unusedSimpArgs false

section
variable {E : Env} {A : Asg} {a : Act} {w w' : World} {T : TypeId → Option TInfo} {G : List (FuncId × Ctr)}

theorem hasV_den {A B : Asg} (hb : B.bx = A.bx) {n : Nat} (hr : ∀ k, k < n → B.rw k = A.rw k ∧ B.inn k = A.inn k) {m : Nat} {vs : List AVal} (h : scs m [] n [] vs = true) : dens B vs = dens A vs :=
  dens_congr (fun j _ => by rw [hb]) (fun j hj => hr j (by simpa using hj)) vs h

/-- One of the rows in a row of rows is told anew, in its own blocks. -/
theorem RowsOwn.redoInner {c : TyC} {e' e : TypeId} {yss : List (List c.α)} {h : Hdr} {ih : Nat → Hdr} {i : Nat} {ys : List c.α} (ho : RowsOwn w h ih ⟨.lst c e', e, true, yss⟩) (hi : i < yss.length)
    (hk : ∀ b, b < w.heap.size → ¬ Foot ⟨c, e', true, yss.getD i []⟩ (ih i) b → w'.heap[b]? = w.heap[b]?) (hown : RowOwn w' (ih i) ⟨c, e', true, ys⟩) : RowsOwn w' h ih ⟨.lst c e', e, true, yss.set i ys⟩ := by
  have hpi := parts_get (e' := e') (e := e) (h := h) (ih := ih) (own := true) i hi
  have keep : ∀ (m : Nat) (p : Hdr × Row), ((⟨.lst c e', e, true, yss⟩ : Row).parts h ih)[m]? = some p → m ≠ i + 1 → ∀ a, p.1.a = some a → w'.heap[a.block]? = w.heap[a.block]? := fun m p hm hne a ha => by
    refine hk _ ?_ ?_
    · have := ho.all p (List.mem_of_getElem? hm)
      exact this.foot_lt ⟨a, ha, rfl⟩
    · rintro ⟨_, b, hb, he⟩
      exact ho.dis m (i + 1) p _ hm hpi hne a b ha hb he.symm
  refine ⟨fun p hp => ?_, fun i1 j1 p q hp hq hij a b ha hb => ?_⟩
  · rw [parts_lst, List.length_set] at hp
    simp only [List.mem_cons, List.mem_map, List.mem_range] at hp
    rcases hp with rfl | ⟨k, hk', rfl⟩
    · exact (ho.outer).keep fun a ha => keep 0 _ rfl (by omega) a ha
    · by_cases hki : k = i
      · subst hki
        have : (yss.set k ys).getD k [] = ys := by simp [List.getD, hi]
        rw [this]; exact hown
      · have : (yss.set i ys).getD k [] = yss.getD k [] := by
          rw [List.getD_eq_getElem?_getD, List.getD_eq_getElem?_getD, List.getElem?_set_ne (fun e => hki e.symm)]
        rw [this]
        exact (ho.inner hk').keep fun a ha => keep (k + 1) _ (parts_get k hk') (by omega) a ha
  · have same : ∀ (m : Nat) (p : Hdr × Row), ((⟨.lst c e', e, true, yss.set i ys⟩ : Row).parts h ih)[m]? = some p → ∃ q, ((⟨.lst c e', e, true, yss⟩ : Row).parts h ih)[m]? = some q ∧ q.1 = p.1 := fun m p hm => by
      rw [parts_lst, List.length_set] at hm
      rw [parts_lst]
      cases m with
      | zero => simp at hm; subst hm; exact ⟨_, rfl, rfl⟩
      | succ m =>
        rw [List.getElem?_cons_succ, List.getElem?_map] at hm ⊢
        cases hr : (List.range yss.length)[m]? with
        | none => rw [hr] at hm; cases hm
        | some y => rw [hr] at hm; cases hm; exact ⟨_, rfl, rfl⟩
    obtain ⟨p', hp', e1⟩ := same _ _ hp
    obtain ⟨q', hq', e2⟩ := same _ _ hq
    exact ho.dis i1 j1 p' q' hp' hq' hij a b (by rw [e1]; exact ha) (by rw [e2]; exact hb)

theorem mcallV_sound {g : FuncId} {c : MCtr} (hc : MCtrOk E.P g c) {fr : List AVal} {hp : List (Option (List AVal))} {rows : List (Option Row)} {vs : List AVal} {dst : Option Tmp} {k : St → Prop}
    (hs : Sat E A ⟨fr, hp, rows⟩ a w) (h : mcallV c fr hp rows vs dst k) {o : Oper} (hrun : (execOp a.eval o).run E.P w = .ok (.enter g (dens A vs).toArray) w) :
    Runs E.P (fun u w' => ∃ σ' B, k σ' ∧ Sat E B σ' (a.put dst u) w') ((execOp a.eval o).run E.P w) := by
  unfold mcallV at h
  split at h
  case h_2 => exact h.elim
  rename_i r i vs'
  split at h
  case h_2 => exact h.elim
  rename_i c0 e' e yss hv' hsc hr
  split at h
  case h_2 => exact h.elim
  rename_i hcl
  revert yss
  intro (yss : List (List c0.α)) hr h
  obtain ⟨hi, h⟩ := h
  rw [lenK_eq] at h
  generalize hMM : rows.length + 1000 = M at h
  obtain ⟨ups, new, v, h, hok, hcalls⟩ := hc.calls _ _ _ _ _ h
  split at h
  case h_2 => exact h.elim
  rename_i m c1 e1 ys hvf
  split at h
  case h_2 => exact h.elim
  rename_i hm1 he1
  have hm1 := Nat.eq_of_beq_eq_true hm1
  have he1 := Nat.eq_of_beq_eq_true he1
  subst he1
  rw [hm1] at hok hcalls
  clear hm1
  split at h
  case h_2 => exact h.elim
  rename_i hsame
  have := TyC.same_eq hsame
  subst this
  replace h : EqK (@List.set (List c1.α) yss i ys) fun zss => setK rows r (some ⟨.lst c1 e1, e, true, zss⟩) fun rows' => putD fr hp rows' dst v k := h
  replace h := eqK_eq h
  simp only [setK_eq] at h
  simp only [lenN_eq] at hsc
  rw [hrun]
  have hm := hs.mem
  have hlt : ∀ i r, nthj rows i = some r → i < rows.length := fun i r hi => nthj_lt0 hi
  have hrl := hlt r _ hr
  obtain ⟨_, ho⟩ := hm.row r _ hr
  obtain ⟨ho, hnk⟩ := ho rfl
  have hoi := ho.inner hi
  -- the callee's view
  let A' : Asg := A.setRw M (A.inn r i) (fun _ => ⟨none, 0, 0⟩)
  have hA'r : ∀ q, q ≠ M → A'.rw q = A.rw q ∧ A'.inn q = A.inn q := fun q hq => ⟨upd_ne _ _ _ hq, upd_ne _ _ _ hq⟩
  have hA'm : A'.rw M = A.inn r i := upd_same _ _ _
  have hrg : ∀ q x, rgI (nthj rows) r M ⟨c1, e1, true, yss.getD i []⟩ q = some x → (q = M ∧ x = ⟨c1, e1, true, yss.getD i []⟩) ∨ (q ≠ M ∧ q ≠ r ∧ nthj rows q = some x) := fun q x hq => by
    unfold rgI at hq
    split at hq
    · rename_i hb
      exact .inl ⟨Nat.eq_of_beq_eq_true hb, (Option.some.inj hq).symm⟩
    · rename_i hb
      split at hq
      · cases hq
      · rename_i hb2
        exact .inr ⟨fun e => by subst e; simp at hb, fun e => by subst e; simp at hb2, hq⟩
  have hfoot : ∀ b, Foot ⟨c1, e1, true, yss.getD i []⟩ (A.inn r i) b → Feet ⟨.lst c1 e1, e, true, yss⟩ (A.rw r) (A.inn r) b := fun b hb => ⟨_, mem_inner hi, hb⟩
  have hc0 := hs.cmem
  have hcm : CMem A' (nthj hp) (rgI (nthj rows) r M ⟨c1, e1, true, yss.getD i []⟩) w := by
    refine ⟨fun j cs hj => ?_, fun q x hq => ?_, fun j ci q x b hj hq hox hf => ?_, fun q q' x x' b hq hq' hqq hox hf hf' => ?_⟩
    · obtain ⟨t, ht⟩ := hc0.box j cs hj
      exact ⟨t, by rw [hasV_den (A := A) (B := A') rfl (n := rows.length) (m := hp.length) (fun k hk => hA'r k (by omega)) (hs.hsc j cs hj)]; exact ht⟩
    · rcases hrg q x hq with ⟨rfl, rfl⟩ | ⟨h1, _, h2⟩
      · rw [hA'm]
        exact ⟨(hoi.at).rows hcl, fun _ => hoi.rows hcl⟩
      · rw [(hA'r q h1).1, (hA'r q h1).2]; exact hc0.row q x h2
    · rcases hrg q x hq with ⟨rfl, rfl⟩ | ⟨h1, _, h2⟩
      · rw [hA'm] at hf
        exact hc0.br j ci r _ b hj hr rfl (hfoot b (Feet.flat hf hcl))
      · rw [(hA'r q h1).1, (hA'r q h1).2] at hf
        exact hc0.br j ci q x b hj h2 hox hf
    · rcases hrg q x hq with ⟨rfl, rfl⟩ | ⟨h1, h1', h2⟩ <;> rcases hrg q' x' hq' with ⟨rfl, rfl⟩ | ⟨h3, h3', h4⟩
      · exact hqq rfl
      · rw [hA'm] at hf
        rw [(hA'r q' h3).1, (hA'r q' h3).2] at hf'
        exact hc0.rr r q' _ x' b hr h4 (fun e => h3' e.symm) rfl (hfoot b (Feet.flat hf hcl)) hf'
      · rw [hA'm] at hf'
        rw [(hA'r q h1).1, (hA'r q h1).2] at hf
        exact hc0.rr q r x _ b h2 hr h1' hox hf (hfoot b (Feet.flat hf' hcl))
      · rw [(hA'r q h1).1, (hA'r q h1).2] at hf
        rw [(hA'r q' h3).1, (hA'r q' h3).2] at hf'
        exact hc0.rr q q' x x' b h2 h4 hqq hox hf hf'
  have hargs : (dens A (.irow r i :: vs')).toArray = (dens A' (.row M :: vs')).toArray := by
    simp only [dens, AVal.den, hA'm]
    rw [hasV_den (A := A) (B := A') rfl (fun k hk => hA'r k (by omega)) hsc]
  rw [hargs]
  refine Calls.mono (hcalls A' w hcm) ?_
  rintro en w' ⟨hh, he, hkept, hupd, hnew⟩
  have hh0 : hh = [] := List.eq_nil_of_length_eq_zero hnew.len
  subst hh0
  have hv0 : v.den (A'.setRws rows.length []) = v.den A := AVal.flat_den hvf _ _
  rw [hv0] at he
  refine ⟨_, he, ?_⟩
  have htch : ∀ b, touched A' (rgI (nthj rows) r M ⟨c1, e1, true, yss.getD i []⟩) [(M, some ⟨c1, e1, true, ys⟩)] b → Foot ⟨c1, e1, true, yss.getD i []⟩ (A.inn r i) b := fun b ⟨q, u, x, h1, h2, h3⟩ => by
    simp only [List.mem_singleton, Prod.mk.injEq] at h1
    obtain ⟨rfl, _⟩ := h1
    rcases hrg _ x h2 with ⟨_, rfl⟩ | ⟨h4, _⟩
    · rw [hA'm] at h3; exact Feet.flat h3 hcl
    · exact absurd rfl h4
  have hro := hupd _ _ (List.mem_singleton.2 rfl)
  rw [hA'm] at hro
  have hrow : RowsOwn w' (A.rw r) (A.inn r) ⟨.lst c1 e1, e, true, yss.set i ys⟩ := ho.redoInner hi (fun b hb hnf => hkept.block b ⟨hb, fun ht => hnf (htch b ht)⟩) hro
  have hM := hm.redo hr rfl (w' := w') ⟨hkept.os, hkept.tape, hkept.output, hkept.size, fun b hb => hkept.block b ⟨hb.1, fun ht => hb.2 (hfoot b (htch b ht))⟩, hkept.drawn⟩ hs.klt hrow (fun b hb => feet_setInner rfl hb)
  rw [← nthj_set _ _ _ hrl] at hM
  have hsat := hs.turned (B := A) (rows3 := rows.set r (some ⟨.lst c1 e1, e, true, yss.set i ys⟩)) (w' := w') (fun _ _ => rfl) (fun _ _ => ⟨rfl, rfl⟩) (by simp) hM hkept.size v dst (AVal.flat_sc hvf _ _ _ _)
  cases dst with
  | none => exact ⟨_, _, h, hsat⟩
  | some d => simp only [putD, setK_eq] at h; exact ⟨_, _, h, hsat⟩

theorem lcallA_sound {g : FuncId} {c : LCtr} (hc : LCtrOk E.P g c) {fr : List AVal} {hp : List (Option (List AVal))} {rows : List (Option Row)} {vs : List AVal} {dst : Option Tmp} {k : St → Prop}
    (hs : Sat E A ⟨fr, hp, rows⟩ a w) (h : lcallA E.n0 c fr hp rows vs dst k) {o : Oper} (hrun : (execOp a.eval o).run E.P w = .ok (.enter g (dens A vs).toArray) w) :
    Runs E.P (fun u w' => ∃ σ' B, k σ' ∧ Sat E B σ' (a.put dst u) w') ((execOp a.eval o).run E.P w) := by
  unfold lcallA at h
  obtain ⟨i, r, r', v, h, hi, hown, hown', hcalls⟩ := hc.calls _ _ _ _ h
  split at h
  case h_2 => exact h.elim
  rename_i hn0 hvf hnb
  have hn0 : E.n0 ≤ i := Nat.le_of_ble_eq_true hn0
  rw [setK_eq, cleanI_eq] at h
  rw [hrun]
  have hm := hs.mem
  have hil := nthj_lt0 hi
  refine Calls.mono (hcalls A w hs.cmem) ?_
  rintro en w' ⟨ih', he, hk, hro, hft⟩
  have hrw : (A.setRw i (A.rw i) ih').rw = A.rw := by
    funext q
    show upd A.rw i (A.rw i) q = _
    by_cases hq : q = i
    · subst hq; rw [upd_same]
    · rw [upd_ne _ _ _ hq]
  have hv0 : v.den A = v.den (A.setRw i (A.rw i) ih') := AVal.flat_den hvf _ _
  rw [hv0] at he
  refine ⟨_, he, ?_⟩
  let rw2 : Nat → Option Row := fun q => if q = i then none else nthj rows q
  have hsub : ∀ q c, rw2 q = some c → nthj rows q = some c := fun q c hq => by
    simp only [rw2] at hq
    split at hq
    · cases hq
    · exact hq
  have hM := hm.remake (rw2 := rw2) (tch := Feet r (A.rw i) (A.inn i)) hsub (fun b hb => ⟨i, r, hi, hown, by simp [rw2], hb⟩) hk hs.klt i (A.rw i) ih' r' (by simp [rw2]) hn0
    (fun i0 cs hi0 => noIs_den (r := i) (A := A) (B := A.setRw i (A.rw i) ih') rfl hrw (fun q hq => upd_ne _ _ _ hq) cs (noIb_get hp hnb i0 cs hi0)) hro (fun b hb => by
      rcases hft b hb with h1 | h1
      · exact .inl h1
      · exact .inr ⟨i, r, hi, hown, by simp [rw2], h1⟩)
  have hrows : nthj (rows.set i (some r')) = upd rw2 i (some r') := by
    funext q
    rw [nthj_set _ _ _ hil]
    by_cases hqr : q = i
    · subst hqr; rw [upd_same, upd_same]
    · rw [upd_ne _ _ _ hqr, upd_ne _ _ _ hqr]
      simp [rw2, hqr]
  have hpres : ∀ y : AVal, y.noI i = true → y.den (A.setRw i (A.rw i) ih') = y.den A := fun y hy => AVal.noI_den (A := A) (B := A.setRw i (A.rw i) ih') rfl hrw (fun q hq => upd_ne _ _ _ hq) y hy
  have hbase : Sat E (A.setRw i (A.rw i) ih') ⟨fr.map fun x => if x.noI i = true then x else .junk, hp, rows.set i (some r')⟩ a w' := {
      defers := hs.defers
      size := by simpa using hs.size
      fr := fun t0 y hy => by
        rw [List.getElem?_map] at hy
        cases hf : fr[t0]? with
        | none => rw [hf] at hy; cases hy
        | some y0 =>
          rw [hf] at hy
          simp only [Option.map_some, Option.some.injEq] at hy
          split at hy
          · rename_i hno
            subst hy
            exact (hs.fr t0 y0 hf).imp id (fun e0 => by rw [hpres y0 hno]; exact e0)
          · exact .inl hy.symm
      sc := fun t0 y hy => by
        rw [List.getElem?_map] at hy
        cases hf : fr[t0]? with
        | none => rw [hf] at hy; cases hy
        | some y0 =>
          rw [hf] at hy
          simp only [Option.map_some, Option.some.injEq] at hy
          split at hy
          · subst hy; simpa using hs.sc t0 y0 hf
          · subst hy; simp [AVal.sc]
      hsc := fun i0 cs hi0 => by simpa using hs.hsc i0 cs hi0
      mem := by
        show Mem E _ (nthj hp) (nthj _) _
        rw [hrows]; exact hM
      klt := fun b hb => Nat.lt_of_lt_of_le (hs.klt b hb) hk.size
      n0 := by simpa using hs.n0
      b0 := hs.b0 }
  have hsat := hbase.turned (B := A.setRw i (A.rw i) ih') (rows3 := rows.set i (some r')) (w' := w') (fun _ _ => rfl) (fun _ _ => ⟨rfl, rfl⟩) (Nat.le_refl _) hbase.mem (Nat.le_refl _) v dst (AVal.flat_sc hvf _ _ _ _)
  cases dst with
  | none => exact ⟨_, _, h, hsat⟩
  | some d => simp only [putD, setK_eq] at h; exact ⟨_, _, h, hsat⟩

/-- The state behind a box that was told anew. -/
theorem Sat.boxed {fr : List AVal} {hp : List (Option (List AVal))} {rows : List (Option Row)} (hs : Sat E A ⟨fr, hp, rows⟩ a w) {i : Nat} {cs cs' : List AVal} (hi : nthj hp i = some cs) (ho : E.ow i)
    (hk : Kept (fun b => b < w.heap.size ∧ b ≠ A.bx i) w w') (hb : BoxAt A w' (A.bx i) cs') (hsc : scs hp.length [] rows.length [] cs' = true) : Sat E A ⟨fr, hp.set i (some cs'), rows⟩ a w' := by
  have hil := nthj_lt0 hi
  refine {
    defers := hs.defers
    size := hs.size
    fr := hs.fr
    sc := fun t y hy => by simpa using hs.sc t y hy
    hsc := fun j c hj => ?_
    mem := ?_
    klt := fun b hb => Nat.lt_of_lt_of_le (hs.klt b hb) hk.size
    n0 := hs.n0
    b0 := by simpa using hs.b0 }
  · simp only [List.length_set]
    simp only [nthj_set _ _ _ hil] at hj
    by_cases hji : j = i
    · subst hji
      rw [upd_same] at hj
      cases hj
      exact hsc
    · rw [upd_ne _ _ _ hji] at hj; exact hs.hsc j c hj
  · simp only [nthj_set _ _ _ hil]
    exact hs.mem.turnBox ho hi hk hs.klt hb
theorem Sat.xmem {σ : St} (hs : Sat E A σ a w) {i : Nat} {cs : List AVal} (hi : nthj σ.hp i = some cs) (ho : E.ow i) : XMem A (nthj σ.hp) (nthj σ.rows) i w :=
  ⟨fun j cs hj => (hs.mem.box j cs hj).1, fun k r hk => (hs.mem.row k r hk).1, fun j cj hj hne e => hs.mem.bb i j cs cj ho hi hj (fun e => hne e.symm) e.symm, fun k r b hk hf => hs.mem.br i cs k r b ho hi hk hf⟩
theorem xcallA_sound {g : FuncId} {c : XCtr} (hc : XCtrOk E.P g c) {fr : List AVal} {hp : List (Option (List AVal))} {rows : List (Option Row)} {vs : List AVal} {dst : Option Tmp} {k : St → Prop}
    (hs : Sat E A ⟨fr, hp, rows⟩ a w) (h : xcallA E.owB c fr hp rows vs dst k) {o : Oper} (hrun : (execOp a.eval o).run E.P w = .ok (.enter g (dens A vs).toArray) w) :
    Runs E.P (fun u w' => ∃ σ' B, k σ' ∧ Sat E B σ' (a.put dst u) w') ((execOp a.eval o).run E.P w) := by
  unfold xcallA at h
  obtain ⟨i, cs0, ⟨csw, vw, hwit⟩, hi, hcalls⟩ := hc.calls _ _ _ _ h
  have ho : E.owB i = true := by
    cases hb : E.owB i with
    | true => rfl
    | false => simp [hb] at hwit
  rw [hrun]
  refine Calls.mono (hcalls A w (hs.xmem hi ho)) ?_
  rintro en w' ⟨cs, v, h, he, hk, hb⟩
  split at h
  case h_2 => exact h.elim
  rename_i _ hsc hvs
  rw [lenN_eq, lenN_eq] at hsc hvs
  rw [setK_eq] at h
  refine ⟨_, he, ?_⟩
  have hsat := hs.boxed hi ho hk hb hsc
  have hsat := hsat.turned (B := A) (rows3 := rows) (w' := w') (fun _ _ => rfl) (fun _ _ => ⟨rfl, rfl⟩) (Nat.le_refl _) hsat.mem (Nat.le_refl _) v dst (by simpa using hvs)
  cases dst with
  | none => exact ⟨_, _, h, hsat⟩
  | some d => simp only [putD, setK_eq] at h; exact ⟨_, _, h, hsat⟩

theorem pushOs_eq : ∀ (cs : List (List AVal)) (l : List (Option (List AVal))) (k : List (Option (List AVal)) → Prop), pushOs l cs k = k (l ++ cs.map some)
  | [], l, k => by simp [pushOs]
  | c :: cs, l, k => by simp [pushOs, pushK_eq, pushOs_eq cs]
theorem flatB_spec : ∀ {l : List (List AVal)}, flatB l = true → ∀ c ∈ l, ∀ v ∈ c, v.flat = true
  | [], _, c, h => by simp at h
  | d :: l, h, c, hc => by
    unfold flatB at h
    split at h
    · rename_i hd
      rcases List.mem_cons.1 hc with rfl | hc
      · exact List.all_eq_true.1 hd
      · exact flatB_spec h c hc
    · cases h
theorem setBxs_bx (A : Asg) : ∀ (bs : List Nat) (l i : Nat), i < l → (A.setBxs l bs).bx i = A.bx i
  | [], _, _, _ => rfl
  | b :: bs, l, i, h => by
    rw [Asg.setBxs, setBxs_bx _ bs (l + 1) i (by omega)]
    show (if i = l then b else A.bx i) = _
    rw [if_neg (by omega)]
theorem setBxs_rw : ∀ (bs : List Nat) (A : Asg) (l : Nat), (A.setBxs l bs).rw = A.rw ∧ (A.setBxs l bs).inn = A.inn
  | [], _, _ => ⟨rfl, rfl⟩
  | b :: bs, A, l => by rw [Asg.setBxs]; exact setBxs_rw bs _ (l + 1)
theorem setBx_mk (A : Asg) (l b : Nat) : (Asg.mk (fun i => if i = l then b else A.bx i) A.rw A.inn) = A.setBx l b := rfl
/-- New boxes at new levels. -/
theorem Mem.boxNews {rw_ : Nat → Option Row} {nr : Nat} : ∀ (boxes : List (List AVal)) (bbs : List Nat) (A : Asg) (hpx : List (Option (List AVal))), Mem E A (nthj hpx) rw_ w → bbs.length = boxes.length → E.b0 ≤ hpx.length → flatB boxes = true → (∀ i c, nthj hpx i = some c → scs hpx.length [] nr [] c = true) →
    (∀ (i : Nat) (cs : List AVal) (b : Nat), boxes[i]? = some cs → bbs[i]? = some b → BoxAt A w b cs ∧ ¬ E.K b ∧ (∀ j c, nthj hpx j = some c → A.bx j ≠ b) ∧ ∀ k r, rw_ k = some r → ¬ Feet r (A.rw k) (A.inn k) b) → bbs.Nodup →
    Mem E (A.setBxs hpx.length bbs) (nthj (hpx ++ boxes.map some)) rw_ w
  | [], [], A, hpx, hm, _, _, _, _, _, _ => by simpa [Asg.setBxs] using hm
  | [], _ :: _, A, hpx, hm, hl, _, _, _, _, _ => by simp at hl
  | _ :: _, [], A, hpx, hm, hl, _, _, _, _, _ => by simp at hl
  | cs :: boxes, b :: bbs, A, hpx, hm, hl, hb0, hf, hsc, hall, hnd => by
    obtain ⟨h1, h2, h3, h4⟩ := hall 0 cs b rfl rfl
    have hfc : ∀ v ∈ cs, v.flat = true := flatB_spec hf cs (by simp)
    have hbx : BoxAt (A.setBx hpx.length b) w b cs := by
      obtain ⟨t, ht⟩ := h1
      exact ⟨t, by rw [dens_flat hfc (A.setBx hpx.length b) A]; exact ht⟩
    have hM := hm.boxNew hpx.length b cs hb0 (nthj_none (Nat.le_refl _)) (fun i c hi => (dens_congr (A := A) (B := A.setBx hpx.length b) (fun j hj => by
      have : j < hpx.length := by simpa using hj
      exact (upd_ne _ _ _ (by omega)).symm) (fun _ _ => ⟨rfl, rfl⟩) c (hsc i c hi)).symm) hbx h2 h3 h4
    have hset : nthj (hpx ++ [some cs]) = upd (nthj hpx) hpx.length (some cs) := by
      funext i
      rw [nthj_snoc]
      rfl
    rw [← hset] at hM
    rw [List.nodup_cons] at hnd
    have ih := boxNews (nr := nr) boxes bbs (A.setBx hpx.length b) (hpx ++ [some cs]) hM (by simpa using hl) (by simp; omega) (by
        unfold flatB at hf
        split at hf
        · exact hf
        · cases hf) (fun i c hi => by
        rw [nthj_snoc] at hi
        split at hi
        · cases hi; exact scs_flat hfc _ _ _ _
        · exact scs_mono (by simp) (Nat.le_refl _) c (hsc i c hi)) (fun i cs' b' hi hb' => by
        obtain ⟨q1, q2, q3, q4⟩ := hall (i + 1) cs' b' (by simpa using hi) (by simpa using hb')
        have hfc' : ∀ v ∈ cs', v.flat = true := flatB_spec hf cs' (List.mem_cons_of_mem _ (List.mem_of_getElem? hi))
        refine ⟨?_, q2, fun j c hj => ?_, q4⟩
        · obtain ⟨t, ht⟩ := q1
          exact ⟨t, by rw [dens_flat hfc' (A.setBx hpx.length b) A]; exact ht⟩
        · rw [nthj_snoc] at hj
          split at hj
          · rename_i e
            subst e
            show upd A.bx hpx.length b hpx.length ≠ b'
            rw [upd_same]
            intro e
            subst e
            exact hnd.1 (List.mem_of_getElem? hb')
          · rename_i e
            show upd A.bx hpx.length b j ≠ b'
            rw [upd_ne _ _ _ e]
            exact q3 j c hj) hnd.2
    rw [Asg.setBxs, setBx_mk]
    simpa using ih
theorem kcallA_sound {g : FuncId} {c : KCtr} (hc : KCtrOk E.P g c) {fr : List AVal} {hp : List (Option (List AVal))} {rows : List (Option Row)} {vs : List AVal} {dst : Option Tmp} {k : St → Prop}
    (hs : Sat E A ⟨fr, hp, rows⟩ a w) (h : kcallA c fr hp rows vs dst k) {o : Oper} (hrun : (execOp a.eval o).run E.P w = .ok (.enter g (dens A vs).toArray) w) :
    Runs E.P (fun u w' => ∃ σ' B, k σ' ∧ Sat E B σ' (a.put dst u) w') ((execOp a.eval o).run E.P w) := by
  unfold kcallA at h
  rw [lenK_eq] at h
  obtain ⟨boxes, v, h, hcalls⟩ := hc.calls _ _ _ _ _ h
  rw [pushOs_eq] at h
  split at h
  case h_2 => exact h.elim
  rename_i hfl hvs
  rw [lenN_eq, lenN_eq] at hvs
  rw [hrun]
  have hm := hs.mem
  refine Calls.mono (hcalls A w (fun i cs hi => (hm.box i cs hi).1) (fun i r hi => (hm.row i r hi).1)) ?_
  rintro en w' ⟨bbs, hl, he, hB, hall, hnd⟩
  refine ⟨_, he, ?_⟩
  have hM0 := hm.grow hB hs.klt
  have hM := Mem.boxNews (nr := rows.length) boxes bbs A hp hM0 hl hs.b0 hfl hs.hsc (fun i cs b hi hb => by
    obtain ⟨h1, h2⟩ := hall i cs b hi hb
    refine ⟨h2, fun hk => by have := hs.klt b hk; omega, fun j c hj e => by have := hm.box_lt hj; omega, fun q r hq hf => by have := hm.foot_lt hq hf; omega⟩) hnd
  have hsat := hs.turnedB (B := A.setBxs hp.length bbs) (hp3 := hp ++ boxes.map some) (rows3 := rows) (w' := w') (fun i hi => setBxs_bx A bbs hp.length i hi) (fun i hi => by
      have := setBxs_rw bbs A hp.length
      exact ⟨by rw [this.1], by rw [this.2]⟩) (by simp) (Nat.le_refl _) hM hB.size v dst (by simpa using hvs) (fun i c hi => by
      rcases Nat.lt_or_ge i hp.length with hlt | hge
      · have : nthj (hp ++ boxes.map some) i = nthj hp i := by rw [nthj_eq, nthj_eq, List.getElem?_append_left hlt]
        rw [this] at hi
        exact scs_mono (by simp) (Nat.le_refl _) c (hs.hsc i c hi)
      · rw [nthj_eq, List.getElem?_append_right hge, List.getElem?_map] at hi
        cases hq : boxes[i - hp.length]? with
        | none => rw [hq] at hi; simp at hi
        | some c' =>
          rw [hq] at hi
          simp at hi
          subst hi
          exact scs_flat (flatB_spec hfl c' (List.mem_of_getElem? hq)) _ _ _ _)
  cases dst with
  | none => exact ⟨_, _, h, hsat⟩
  | some d => simp only [putD, setK_eq] at h; exact ⟨_, _, h, hsat⟩

theorem mcallA_sound (hG : GOk E.P G) {fr : List AVal} {hp : List (Option (List AVal))} {rows : List (Option Row)} {f : Operand} {args : Array Operand} {argTypes : Array TypeId} {dst : Option Tmp} {k : St → Prop}
    (hs : Sat E A ⟨fr, hp, rows⟩ a w) (h : mcallA E G ⟨fr, hp, rows⟩ f args dst k) (ty : TypeId) (pos : String) (after : Array Edge) (guard : Option (Nat × Bool)) :
    Runs E.P (fun u w' => ∃ σ' B, k σ' ∧ Sat E B σ' (a.put dst u) w') ((execOp a.eval ⟨dst, .call { callee := .value f, args, argTypes }, ty, pos, after, guard⟩).run E.P w) := by
  simp only [mcallA] at h
  replace h := with1_eq h; obtain ⟨gv, hf, h⟩ := h
  replace h := withs_eq fr _ _ h; obtain ⟨vs, h, hvl, hvs⟩ := h
  split at h
  case h_2 => exact h.elim
  rename_i g fs cs
  have hmap : args.map a.eval = (dens A vs).toArray := by
    apply Array.ext'
    rw [Array.toList_map, hvs A a.eval (fun x hx v hxv => ev_sound hs hxv)]
  have hfv : a.eval f = .func (.func g) (dens A fs).toArray (dens A cs).toArray := by
    rw [ev_sound hs (x := f) hf]; simp [AVal.den]
  have hrun : (∀ args w, (callFunc g args).run E.P w = .ok (.enter g args) w) → (execOp a.eval ⟨dst, .call { callee := .value f, args, argTypes }, ty, pos, after, guard⟩).run E.P w = .ok (.enter g (dens A (fs ++ (vs ++ cs))).toArray) w := fun hen => by
    simp only [execOp, resolve, Deferred.ofValue, hfv, Sem.run_bind, Sem.run_pure, Result.andThen_ok, invoke, hen, hmap]
    simp [dens_eq]
  split at h
  · rename_i c hl
    have hc : MCtrOk E.P g c := hG g _ hl
    split at h
    · exact mcallM_sound hc hs h (hrun hc.enter)
    · exact mcallV_sound hc hs h (hrun hc.enter)
  · rename_i c hl
    have hc : BCtrOk E.P g c := hG g _ hl
    exact bcallA_sound hc hs h (hrun hc.enter)
  · rename_i c hl
    have hc : RCtrOk E.P g c := hG g _ hl
    exact rcallA_sound hc hs h (hrun hc.enter)
  · rename_i c hl
    have hc : LCtrOk E.P g c := hG g _ hl
    exact lcallA_sound hc hs h (hrun hc.enter)
  · rename_i c hl
    have hc : XCtrOk E.P g c := hG g _ hl
    exact xcallA_sound hc hs h (hrun hc.enter)
  · rename_i c hl
    have hc : KCtrOk E.P g c := hG g _ hl
    exact kcallA_sound hc hs h (hrun hc.enter)
  · exact h.elim

theorem entsOf_snoc (x : (ByteArray × ByteArray) × Int) : ∀ (l : List ((ByteArray × ByteArray) × Int)) (n : Nat), entsOf n (l ++ [x]) = entsOf n l ++ [⟨.agg #[.string x.1.1, .string x.1.2], .int .i64 x.2, n + l.length⟩]
  | [], n => rfl
  | y :: l, n => by
    rw [List.cons_append, entsOf, entsOf, entsOf_snoc x l (n + 1)]
    simp only [List.length_cons, List.cons_append]
    rw [show n + 1 + l.length = n + (l.length + 1) by omega]
theorem mapA_sound (hT : TOk E.P T) {fr : List AVal} {hp : List (Option (List AVal))} {rows : List (Option Row)} {t : TypeId} {m key v : Operand} {k : St → Prop} (hs : Sat E A ⟨fr, hp, rows⟩ a w) (h : mapA T E.owB ⟨fr, hp, rows⟩ t m key v k) {ty : TypeId} {pos : String} {after : Array Edge} {guard : Option (Nat × Bool)} :
    ∃ σ' w', k σ' ∧ Sat E A σ' a w' ∧ (execOp a.eval ⟨none, .mapUpdate t m key v, ty, pos, after, guard⟩).run E.P w = .ok .skip w' := by
  simp only [mapA] at h
  replace h := with1_eq h; obtain ⟨mv, hm, h⟩ := h
  replace h := with1_eq h; obtain ⟨kv, hk, h⟩ := h
  replace h := with1_eq h; obtain ⟨vv, hv, h⟩ := h
  have em := ev_sound hs (x := m) hm
  have ek := ev_sound hs (x := key) hk
  have ev' := ev_sound hs (x := v) hv
  split at h
  case h_2 => exact h.elim
  rename_i b p q n
  cases ho : E.owB b with
  | false => simp [ho] at h
  | true =>
  simp only [ho] at h
  cases hb : nthj hp b with
  | none => simp [hb] at h
  | some cs =>
  simp only [hb] at h
  cases hmo : mapOf cs with
  | none => simp [hmo] at h
  | some es =>
  simp only [hmo] at h
  obtain ⟨ti, kt, et, ei, hti, hd, he, hz, ha, hko, hq, hno, h⟩ := mapT_inv h
  rw [setK_eq] at h
  obtain ⟨t', ht'⟩ := (hs.mem.box b cs hb).1
  have hob : objOf cs (dens A cs) t' = .map (entsOf 0 es).toArray es.length := by unfold objOf; rw [hmo]
  rw [hob] at ht'
  have hlt := lt_of_heap ht'
  have hu := (hT _ _ hti).und
  rw [hd] at hu
  simp only [AVal.den, dens] at em ek ev'
  have hget : (getObj (A.bx b)).run E.P w = .ok (.map (entsOf 0 es).toArray es.length) w := by simp [getObj, Sem.run, ht']
  have hidx := idxM_eq p q es 0
  have hnone : es.find? (entB p q) = none := by
    unfold hasM at hno
    simpa using hno
  rw [hnone] at hidx
  have hin : idxM p q 0 es = none := by simpa using hidx
  let w' : World := { w with heap := w.heap.setIfInBounds (A.bx b) (.map (entsOf 0 (es ++ [((p, q), n)])).toArray (es ++ [((p, q), n)]).length) }
  have hw : w'.heap[A.bx b]? = some (.map (entsOf 0 (es ++ [((p, q), n)])).toArray (es ++ [((p, q), n)]).length) := by
    simp [w', Array.getElem?_setIfInBounds, hlt]
  have hoth : ∀ j, j ≠ A.bx b → w'.heap[j]? = w.heap[j]? := fun j hj => by
    simp only [w', Array.getElem?_setIfInBounds]
    rw [if_neg (fun e => hj e.symm)]
  refine ⟨_, w', h, hs.boxed hb ho ⟨rfl, rfl, rfl, by simp [w'], fun j hj => hoth j hj.2, Dr.of (Nat.le_refl w.drawn)⟩ ⟨0, hw⟩ (by simp [scs, AVal.sc]), ?_⟩
  simp only [execOp, em, ek, ev']
  unfold Instr.mapUpdate
  simp only [Sem.run_bind, run_underlying hu, Result.andThen_ok, hget, run_check hT hko, run_find hT hko hq, hin]
  have hset : ∀ o, (setObj (A.bx b) o).run E.P w = .ok () { w with heap := w.heap.setIfInBounds (A.bx b) o } := fun o => by
    simp only [setObj, Sem.run]
    rw [ht']
  simp only [hset]
  have : (entsOf 0 es).toArray.push ⟨.agg #[.string p, .string q], .int .i64 n, es.length⟩ = (entsOf 0 (es ++ [((p, q), n)])).toArray := by
    rw [entsOf_snoc]; simp
  simp [this, w']

end
end Go.Proofs.YtmbfflckgmdncaaDoor.Fw

/- The walk by reckoning is sound: operations one behind the other, and code. -/
namespace Go.Proofs.YtmbfflckgmdncaaDoor.Fw
open Go Go.RowKit
set_option linter.unusedVariables false
set_option linter.unusedSimpArgs false

section
variable {E : Env} {T : TypeId → Option TInfo} {G : List (FuncId × Ctr)} {all : List Oper}

theorem vcOne_sound (hT : TOk E.P T) (hG : GOk E.P G) {rest : List Oper} {o : Oper} {fr : List AVal} {hp : List (Option (List AVal))} {rows : List (Option Row)} {kN k : St → Prop}
    (h : vcOne E T G all rest o fr hp rows kN k) {Q : Exit → Act → World → Prop} (hN : ∀ σ', kN σ' → At E Q .normal σ')
    (hk : ∀ σ', k σ' → ∀ A a w, Sat E A σ' a w → wpList E.P all.toArray Q rest a w) {A : Asg} {a : Act} {w : World} (hs : Sat E A ⟨fr, hp, rows⟩ a w)
    (hw : Region.wanted o (yielded all.toArray a.tmps) = true) : wpList E.P all.toArray Q (o :: rest) a w := by
  unfold vcOne at h
  split at h
  case h_1 =>
    obtain ⟨σ', B, u, w', h1, h2, h3⟩ := litA_sound hT hs h
    obtain ⟨dst, op, ty, pos, after, guard⟩ := o
    unfold wpList
    rw [if_pos hw]
    refine .inl ?_
    unfold Oper.wp
    rw [h3 ty pos after guard]
    exact hk σ' h1 B _ _ h2
  rename_i hfl
  clear hfl
  split at h
  · simp only [lenK_eq] at h
    obtain ⟨eff, he, hrun⟩ := opEff_sound hT hG h
    unfold wpList
    rw [if_pos hw]
    refine .inl (wp_of_runs (hrun A _ _ w a.eval (hs.ctx _ _) (fun _ _ h => h) (fun _ _ h => h) (hs.match o) ?_ ?_) ?_)
    · intro hrs B hB cs hcs
      have hput := he
      obtain ⟨box, rs, v⟩ := eff
      simp only at hcs hrs
      subst hcs hrs
      simp only [putE, pushO_eq, pushR_eq, lenN_eq, List.map_nil, List.append_nil] at hput
      split at hput
      · split at hput
        · rename_i hb
          exact (dens_congr (fun j hj => by
            have : j < hp.length := by simpa using hj
            exact hB.bx j (fun _ => by omega)) (fun j hj => by
            have : j < rows.length := by simpa using hj
            exact hB.rw j (.inl this)) cs hb).symm
        · exact hput.elim
      · exact hput.elim
    · intro i cs hi B hbx hB
      exact dens_congr (fun j hj => by rw [hbx]) (fun j hj => hB j (by
        have hj : j < rows.length := by simpa using hj
        omega)) cs (hs.hsc i cs hi)
    · intro u w' hpost
      obtain ⟨σ', hk', B, hs'⟩ := putE_sound (σ := ⟨fr, hp, rows⟩) hs hpost he
      exact hk σ' hk' B _ _ hs'
  · rename_i hauto
    clear hauto
    unfold heavy at h
    have one : ∀ u w', (∃ σ' B, k σ' ∧ Sat E B σ' (a.put o.dst u) w') → wpList E.P all.toArray Q rest (a.put o.dst u) w' := fun u w' ⟨σ', B, h1, h2⟩ => hk σ' h1 B _ _ h2
    obtain ⟨dst, op, ty, pos, after, guard⟩ := o
    simp only at h one
    split at h
    · rename_i t x v
      have put : (∃ σ' B w', k σ' ∧ Sat E B σ' a w' ∧ ∀ ty pos after guard, (execOp a.eval ⟨none, .store t x v, ty, pos, after, guard⟩).run E.P w = .ok .skip w') → wpList E.P all.toArray Q (⟨none, .store t x v, ty, pos, after, guard⟩ :: rest) a w := fun ⟨σ', B, w', h1, h2, h3⟩ => by
        unfold wpList
        rw [if_pos hw]
        refine .inl ?_
        unfold Oper.wp
        rw [h3]
        exact hk σ' h1 B _ _ h2
      have st : stA T E.owB ⟨fr, hp, rows⟩ t x v k → wpList E.P all.toArray Q (⟨none, .store t x v, ty, pos, after, guard⟩ :: rest) a w := fun h => by
        obtain ⟨σ', w', h1, h2, h3⟩ := stA_sound hT hs h
        exact put ⟨σ', A, w', h1, h2, h3⟩
      split at h
      · exact st h
      · exact st h
      · exact put (putA_sound hT hs h)
      · exact st h
      · exact h.out Q hN A a w hs
    · rename_i args argTypes d
      split at h
      · rename_i s x t t' ha hat
        split at h
        · rename_i htt
          have htt := Nat.eq_of_beq_eq_true htt
          subst htt
          have h : appI T ⟨fr, hp, rows⟩ t s x d k ∨ appA (E.tn (1000000 + d)) T ⟨fr, hp, rows⟩ t s x d k := by
            split at h
            · exact h
            · exact .inr h
          obtain ⟨σ', B, u, w', h1, h2, h3⟩ : ∃ σ' B u w', k σ' ∧ Sat E B σ' (a.put (some d) u) w' ∧ ∀ ty, (Builtin.append_ #[t, t] ty #[a.eval s, a.eval x]).run E.P w = .ok u w' :=
            h.elim (appI_sound hT hs) (appA_sound hT hs)
          have e1 : args = #[s, x] := by apply Array.ext'; simpa using ha
          have e2 : argTypes = #[t, t] := by apply Array.ext'; simpa using hat
          subst e1; subst e2
          unfold wpList
          rw [if_pos hw]
          refine .inl ?_
          unfold Oper.wp
          have hrun : (execOp a.eval ⟨some d, .call { callee := .builtin .append, args := #[s, x], argTypes := #[t, t] }, ty, pos, after, guard⟩).run E.P w = .ok (.value u) w' := by
            simp only [execOp, resolve, Sem.run_bind, Sem.run_pure, Result.andThen_ok, invoke, builtin]
            simp only [List.map_toArray, List.map_cons, List.map_nil, h3, Result.andThen_ok]
          rw [hrun]
          exact hk σ' h1 B _ _ h2
        · exact h.out Q hN A a w hs
      · exact h.out Q hN A a w hs
    · rename_i args argTypes
      split at h
      · rename_i x t ha hat
        obtain ⟨σ', w', h1, h2, h3⟩ := clrA_sound hT hs h
        have e1 : args = #[x] := by apply Array.ext'; simpa using ha
        have e2 : argTypes = #[t] := by apply Array.ext'; simpa using hat
        subst e1; subst e2
        unfold wpList
        rw [if_pos hw]
        refine .inl ?_
        unfold Oper.wp
        have hrun : (execOp a.eval ⟨dst, .call { callee := .builtin .clear, args := #[x], argTypes := #[t] }, ty, pos, after, guard⟩).run E.P w = .ok (.value (.tuple #[])) w' := by
          simp only [execOp, resolve, Sem.run_bind, Sem.run_pure, Result.andThen_ok, invoke, builtin]
          simp only [List.map_toArray, List.map_cons, List.map_nil, h3, Result.andThen_ok]
        rw [hrun]
        exact hk σ' h1 A _ _ h2
      · exact h.out Q hN A a w hs
    · rename_i f args argTypes
      unfold wpList
      rw [if_pos hw]
      exact .inl (wp_of_runs (mcallA_sound hG hs h ty pos after guard) one)
    · rename_i t x lo hi mx d
      obtain ⟨σ', u, h1, h2, h3⟩ := sl3A_sound hT hs h
      unfold wpList
      rw [if_pos hw]
      refine .inl ?_
      unfold Oper.wp
      have hrun : (execOp a.eval ⟨some d, .slice t x (some lo) (some hi) (some mx), ty, pos, after, guard⟩).run E.P w = .ok (.value u) w := by
        simp only [execOp]
        refine wrapF _ _ _ _ ?_
        exact h3
      rw [hrun]
      exact hk σ' h1 A _ _ h2
    · rename_i t m key v
      obtain ⟨σ', w', h1, h2, h3⟩ := mapA_sound hT hs h
      unfold wpList
      rw [if_pos hw]
      refine .inl ?_
      unfold Oper.wp
      rw [h3]
      exact hk σ' h1 A _ _ h2
    · exact h.out Q hN A a w hs

theorem vcOps_sound (hT : TOk E.P T) (hG : GOk E.P G) : ∀ (rest : List Oper) (σ : St) (kN : St → Prop), vcOps E T G all rest σ kN → VO E all rest σ kN
  | [], σ, kN, h => ⟨fun Q hN A a w hs => hN σ (by simpa [vcOps] using h) A a w hs⟩
  | o :: rest, ⟨fr, hp, rows⟩, kN, h => ⟨fun Q hN A a w hs => by
    have ih : ∀ σ', vcOps E T G all rest σ' kN → ∀ A a w, Sat E A σ' a w → wpList E.P all.toArray Q rest a w := fun σ' h' A a w hs' => (vcOps_sound hT hG rest σ' kN h').out Q hN A a w hs'
    simp only [vcOps] at h
    split at h
    · rename_i hg
      exact vcOne_sound hT hG h hN ih hs (by simp [Region.wanted, hg])
    · rename_i j want hg
      split at h
      · rename_i oj hj
        split at h
        · rename_i d d' hd hd'
          split at h
          · rename_i b hb
            rw [nth_eq] at hj hb
            have hyb : a.tmps.getD d undef = .bool b := by
              rcases hs.fr d _ hb with h' | h'
              · cases h'
              · simpa [AVal.den] using h'
            have hy : yielded all.toArray a.tmps j = some b := by
              have hlt : d < a.tmps.size := by rw [hs.size]; exact (List.getElem?_eq_some_iff.1 hb).1
              have hq : a.tmps[d]? = some (.bool b) := by
                rw [Array.getD_eq_getD_getElem?, Array.getElem?_eq_getElem hlt] at hyb
                rw [Array.getElem?_eq_getElem hlt]
                exact congrArg some hyb
              simp [yielded, hj, hd, hq]
            have hwant : Region.wanted o (yielded all.toArray a.tmps) = (b == want) := by
              simp only [Region.wanted, hg, hy]
              cases b <;> cases want <;> rfl
            have hset : Sat E A ⟨fr.set d (.bool b), hp, rows⟩ a w := hs.setFr d (.bool b) (fun y _ => ⟨.inr (by rw [hyb]; simp [AVal.den]), by simp [AVal.sc]⟩)
            have skip : ∀ σ', σ' = (⟨(fr.set d (.bool b)).set d' uV, hp, rows⟩ : St) → (b == want) = false → vcOps E T G all rest σ' kN → wpList E.P all.toArray Q (o :: rest) a w := fun σ' he hbw h' => by
              subst he
              unfold wpList
              rw [if_neg (by rw [hwant, hbw]; simp), hd']
              exact ih _ h' A _ _ (hset.skip d')
            cases want <;> simp only [setK_eq] at h
            · cases b
              · exact vcOne_sound hT hG (show vcOne _ _ _ _ _ _ _ _ _ _ _ from h) hN ih hset (by rw [hwant]; rfl)
              · exact skip _ rfl rfl h
            · cases b
              · exact skip _ rfl rfl h
              · exact vcOne_sound hT hG (show vcOne _ _ _ _ _ _ _ _ _ _ _ from h) hN ih hset (by rw [hwant]; rfl)
          · rename_i v hb
            rw [nth_eq] at hj hb
            have hv : a.tmps.getD d undef = v := by
              rcases hs.fr d _ hb with h' | h'
              · cases h'
              · simpa [AVal.den] using h'
            split at h
            · exact h.elim
            · rename_i hnb
              have hlt : d < a.tmps.size := by rw [hs.size]; exact (List.getElem?_eq_some_iff.1 hb).1
              have hq : a.tmps[d]? = some ((AVal.raw v).den A) := by
                rw [Array.getD_eq_getD_getElem?, Array.getElem?_eq_getElem hlt] at hv
                rw [Array.getElem?_eq_getElem hlt]
                exact congrArg some hv
              have hy : yielded all.toArray a.tmps j = none := gk_yield (gk_raw fun b e => hnb b e) (by simpa using hj) hd hq
              have hwant : Region.wanted o (yielded all.toArray a.tmps) = false := by
                simp only [Region.wanted, hg, hy]; cases want <;> rfl
              unfold wpList
              rw [if_neg (by rw [hwant]; simp), hd']
              simp only [setK_eq] at h
              exact ih _ h A _ _ (hs.skip d')
          · exact h.elim
        · exact h.elim
      · exact h.elim⟩

theorem vcCode_sound (hT : TOk E.P T) (hG : GOk E.P G) : ∀ (c : Code) (kN : St → Prop) (kE : Nat → St → Prop) (kR : St → Prop) (σ : St), vcCode E T G c kN kE kR σ → V E c kN kE kR σ
  | .skip, kN, kE, kR, σ, h => ⟨fun Q h1 h2 h3 A a w hs => wp_skip (h1 σ h A a w hs)⟩
  | .ret, kN, kE, kR, σ, h => ⟨fun Q h1 h2 h3 A a w hs => wp_ret (h3 σ h A a w hs)⟩
  | .exit id, kN, kE, kR, σ, h => ⟨fun Q h1 h2 h3 A a w hs => wp_exit (h2 id σ h A a w hs)⟩
  | .seq x y, kN, kE, kR, σ, h => ⟨fun Q h1 h2 h3 A a w hs => by
    simp only [vcCode] at h
    refine wp_seq ((vcCode_sound hT hG x _ _ _ _ h).out _ ?_ ?_ ?_ A a w hs)
    · intro σ' h' A a w hs'
      exact h'.out Q h1 h2 h3 A a w hs'
    · intro i σ' h' A a w hs'; exact h2 i σ' h' A a w hs'
    · intro σ' h' A a w hs'; exact h3 σ' h' A a w hs'⟩
  | .block id c, kN, kE, kR, σ, h => ⟨fun Q h1 h2 h3 A a w hs => by
    simp only [vcCode] at h
    refine wp_block ((vcCode_sound hT hG c _ _ _ _ h).out _ ?_ ?_ ?_ A a w hs)
    · intro σ' h' A a w hs'; exact h1 σ' h' A a w hs'
    · intro i σ' h' A a w hs'
      simp only [Exit.inBlock]
      split at h'
      · rename_i he
        rw [if_pos (Nat.eq_of_beq_eq_true he)]; exact h1 σ' h' A a w hs'
      · rename_i he
        rw [if_neg (fun e => by subst e; simp at he)]; exact h2 i σ' h' A a w hs'
    · intro σ' h' A a w hs'; exact h3 σ' h' A a w hs'⟩
  | .cond c x y, kN, kE, kR, ⟨fr, hp, rows⟩, h => ⟨fun Q h1 h2 h3 A a w hs => by
    simp only [vcCode] at h
    split at h
    · rename_i t
      split at h
      · rename_i b hb
        rw [nth_eq] at hb
        have hyb : a.tmps.getD t undef = .bool b := by
          rcases hs.fr t _ hb with h' | h'
          · cases h'
          · simpa [AVal.den] using h'
        have hset : Sat E A ⟨fr.set t (.bool b), hp, rows⟩ a w := hs.setFr t (.bool b) (fun y _ => ⟨.inr (by rw [hyb]; simp [AVal.den]), by simp [AVal.sc]⟩)
        simp only [setK_eq] at h
        cases b
        · exact wp_cond_false (by simp only [Act.eval]; exact hyb) ((vcCode_sound hT hG y _ _ _ _ h).out Q h1 h2 h3 A a w hset)
        · exact wp_cond_true (by simp only [Act.eval]; exact hyb) ((vcCode_sound hT hG x _ _ _ _ h).out Q h1 h2 h3 A a w hset)
      · exact h.elim
    · rename_i b
      cases b
      · exact wp_cond_false rfl ((vcCode_sound hT hG y _ _ _ _ h).out Q h1 h2 h3 A a w hs)
      · exact wp_cond_true rfl ((vcCode_sound hT hG x _ _ _ _ h).out Q h1 h2 h3 A a w hs)
    · exact h.elim⟩
  | .region id ops draw, kN, kE, kR, σ, h => ⟨fun Q h1 h2 h3 A a w hs => by
    simp only [vcCode] at h
    cases draw
    · exact wp_region_list (by
        have := (vcOps_sound hT hG ops.toList σ kN h).out Q h1 A a w hs
        simpa using this)
    · exact h.out Q h1 h2 h3 A a w hs⟩
  | .loop c, kN, kE, kR, σ, h => h
  | .rangeFunc _ _ _ _, kN, kE, kR, σ, h => h
  | .scope _, kN, kE, kR, σ, h => h
  | .label _, kN, kE, kR, σ, h => h
  | .goto _, kN, kE, kR, σ, h => h
  | .refuse _, kN, kE, kR, σ, h => h

theorem V_step (hT : TOk E.P T) (hG : GOk E.P G) {c : Code} (hc : canStep c = true) {kN : St → Prop} {kE : Nat → St → Prop} {kR : St → Prop} {σ : St} (h : vcCode E T G c kN kE kR σ) : V E c kN kE kR σ := vcCode_sound hT hG c _ _ _ _ h

end
end Go.Proofs.YtmbfflckgmdncaaDoor.Fw
