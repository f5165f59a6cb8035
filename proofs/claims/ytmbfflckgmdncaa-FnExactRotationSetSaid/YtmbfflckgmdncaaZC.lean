/- impl.sorted: the angles of a list in order, each once. -/
import Derived.Test.YtmbfflckgmdncaaZB
namespace Go.Proofs.Ytmbfflckgmdncaa.Fw
open Go Go.RowKit
set_option linter.unusedVariables false
set_option linter.unusedSimpArgs false
set_option maxRecDepth 100000
set_option maxHeartbeats 2000000

theorem sfQ_in (Bs : Nat) (sv : Value) (xs ys : List Ang) (hx : ∀ x ∈ xs, IsA x) (hlen : xs.length ≤ 1000000) (hperm : xs.Perm ys) (hys : ys.Pairwise fun x y => ¬ lessA y x) (w : World) (hBs : Bs < w.heap.size) (hc : w.cell? ⟨Bs, 0, none⟩ = some sv) (hI : AngsIn w.heap.size w sv xs) :
    Calls Try.prog 20 #[.func (.func 26) #[] #[.pointer (some ⟨Bs, 0, none⟩)], .func (.func 22) #[] #[]] w fun e w' =>
      ∃ v, e = .returned v ∧ w'.ownsRow w.heap.size 32 2 v ys.length (ys.flatMap cQ) ∧ Below w.heap.size w w' := by
  have h1 := callsIn_wide.1 (collQ_in Fence.wide 10 trivial trivial trivial rfl (by decide) Bs sv xs hlen w hBs hc hI)
  go_enter Try.func20, Try.ntmps20
  go_wp2_with (go_at_call 24; refine h1.mono ?_; clear h1; rintro e w1 ⟨v, rfl, hr1, hb1⟩)
  have h2 := sortQ_in w.heap.size v xs ys w1 hx hlen hperm hys hr1
  go_wp2_with (go_at_call 25; refine h2.mono ?_; clear h2; rintro e w2 ⟨rfl, hr2, hb2⟩)
  go_ret
  exact ⟨v, rfl, hr2, hb1.trans hb2⟩

/-- What sorting gives. -/
def soC : MCtr := fun _ rg lr vals k => match vals with
  | [.row i] => rowO aT (rg i) fun e xs => ((∀ x ∈ (xs : List Ang), IsA x) ∧ List.length (α := Ang) xs ≤ 1000) ∧ ∀ ys : List Ang, ys = srtA xs → k [] [⟨aT, 32, true, ys⟩] (.row lr)
  | _ => False

theorem add_flat (b n : Nat) : (⟨b, 0, none⟩ : Addr).add n = ⟨b, n, none⟩ := by
  unfold Addr.add
  split
  · rename_i h; rw [h]
  · simp
theorem angsIn_own {w : World} {h : Hdr} {e : TypeId} {xs : List Ang} (ho : RowOwn w h ⟨aT, e, true, xs⟩) : AngsIn w.heap.size w h.val xs := by
  have hat := ho.at
  rcases ho.2 with ⟨hv, hn⟩ | ⟨g, cap, cur, hv, _, hg, _⟩
  · exact .inl ⟨hv, List.eq_nil_of_length_eq_zero hn⟩
  · refine .inr ⟨g, cap, hv, (Array.getElem?_eq_some_iff.1 hg).1, fun j hj => ?_⟩
    have hv' := hv
    simp only [Hdr.val, Value.slice.injEq] at hv'
    have hj' : xs[j]? = some (xs.getD j (0, 0)) := by rw [List.getD_eq_getElem?_getD, List.getElem?_eq_getElem hj]; rfl
    obtain ⟨a, ha, hc⟩ := hat.cell j (xs.getD j (0, 0)) hj'
    rw [hv'.1] at ha
    obtain rfl := Option.some.inj ha
    have c0 := hc 0 (.int .i64 (xs.getD j (0, 0)).1) rfl
    have c1 := hc 1 (.int .i64 (xs.getD j (0, 0)).2) rfl
    rw [add_flat] at c0 c1
    exact ⟨c0, c1⟩

theorem ownQ {w : World} {B : Nat} {hd : Hdr} {ys : List Ang} (h : w.ownsRow B 32 2 hd.val ys.length (ys.flatMap cQ)) : RowOwn w hd ⟨aT, 32, true, ys⟩ := by
  refine ⟨h.1, ?_⟩
  rcases h.2 with h | ⟨g, cap, cur, h1, _, h2⟩
  · exact .inl h
  · exact .inr ⟨g, cap, cur, h1, Nat.zero_le _, h2⟩
theorem hdr_of {w : World} {B : Nat} {v : Value} {e : TypeId} {k n : Nat} {vs : List Value} (h : w.ownsRow B e k v n vs) : ∃ hd : Hdr, v = hd.val ∧ ∀ a, hd.a = some a → B ≤ a.block := by
  rcases h.2 with ⟨rfl, _⟩ | ⟨g, cap, cur, rfl, hb, _⟩
  · exact ⟨⟨none, 0, 0⟩, rfl, fun a h => by cases h⟩
  · exact ⟨⟨some ⟨g, 0, none⟩, n, cap⟩, rfl, fun a h => by cases h; exact hb⟩
theorem cptQ_in (hd : Hdr) (ys : List Ang) (hyl : ys.length ≤ 1000) (w : World) (ho : RowOwn w hd ⟨aT, 32, true, ys⟩) :
    Calls Try.prog 19 #[hd.val] w fun e w' => ∃ h : HdrN, e = .returned h.h.val ∧ Kept (fun b => b < w.heap.size ∧ ¬ ∃ a, hd.a = some a ∧ a.block = b) w w' ∧ RowsOwn w' h.h h.ih ⟨aT, 32, true, ddA ys ys.length⟩ ∧
      ∀ b, Feet ⟨aT, 32, true, ddA ys ys.length⟩ h.h h.ih b → w.heap.size ≤ b ∨ ∃ a, hd.a = some a ∧ a.block = b := by
  obtain ⟨ups, rows, v, ⟨rfl, rfl, rfl⟩, _, hc⟩ := cpt_ok.calls (fun _ => none) (nthj [some ⟨aT, 32, true, ys⟩]) 1 [.row 0] (fun ups rows v => ups = [(0, none)] ∧ rows = [⟨aT, 32, true, ddA ys ys.length⟩] ∧ v = .row 1) ⟨hyl, rfl, rfl, rfl⟩
  have hft : ∀ (w9 : World) (own : Bool) (h9 : Hdr) (ih : Nat → Hdr) (b : Nat), Feet ⟨aT, 32, own, ys⟩ h9 ih b → ∃ a, h9.a = some a ∧ a.block = b := fun w9 own h9 ih b h => (Feet.flat h rfl).2
  let A : Asg := ⟨fun _ => 0, fun _ => hd, fun _ _ => ⟨none, 0, 0⟩⟩
  have hm : CMem A (fun _ => none) (nthj [some ⟨aT, 32, true, ys⟩]) w := by
    refine ⟨fun i cs h => (by cases h), fun k r h => ?_, fun i ci k r b h => (by cases h), fun k k' r r' b h h' hk => ?_⟩
    · match k, h with
      | 0, h => cases h; exact ⟨ho.at.rows rfl, fun _ => ho.rows rfl⟩
      | k + 1, h => simp [nthj] at h
    · match k, k', h, h' with
      | 0, 0, _, _ => exact absurd rfl hk
      | 0, k' + 1, _, h' => simp [nthj] at h'
      | k + 1, _, h, _ => simp [nthj] at h
  refine (hc A w hm).mono ?_
  rintro e w' ⟨hs, he, hk, _, hn⟩
  obtain ⟨h, rfl⟩ : ∃ h, hs = [h] := by
    have := hn.len
    match hs, this with
    | [h], _ => exact ⟨h, rfl⟩
  obtain ⟨_, h1, h2⟩ := hn.new 0 _ h rfl rfl
  refine ⟨h, ?_, ⟨hk.os, hk.tape, hk.output, hk.size, fun b hb => hk.block b ⟨hb.1, fun ⟨i, u, r, hi, hr, hf⟩ => hb.2 ?_⟩, hk.drawn⟩, h1, fun b hb => (h2 b hb).imp id fun ⟨i, r, hi, hr, hf⟩ => ?_⟩
  · rw [he]
    have := (setRws_in A 1 [h] 0 h rfl).1
    simp only [AVal.den]
    rw [show (1 : Nat) = 1 + 0 from rfl, this]
  · simp only [List.mem_singleton, Prod.mk.injEq] at hi
    obtain ⟨rfl, rfl⟩ := hi
    cases hr
    exact hft w _ _ _ _ hf
  · simp only [List.mem_singleton, Prod.mk.injEq] at hi
    obtain ⟨rfl, _⟩ := hi
    cases hr
    exact hft w _ _ _ _ hf

theorem soQ_in (v0 : Value) (a0 : Option Addr) (n0 c0 : Nat) (hv0 : v0 = .slice a0 n0 c0) (xs : List Ang) (lr : Nat) (hx : ∀ x ∈ xs, IsA x) (hlen : xs.length ≤ 1000) (w : World) (hI : AngsIn w.heap.size w v0 xs) :
    Calls Try.prog 15 #[v0] w fun e w' => ∃ h : HdrN, e = .returned h.h.val ∧ Below w.heap.size w w' ∧ RowsOwn w' h.h h.ih ⟨aT, 32, true, srtA xs⟩ ∧ ∀ b, Feet ⟨aT, 32, true, srtA xs⟩ h.h h.ih b → w.heap.size ≤ b := by
  obtain ⟨ys, hperm, hys⟩ := wk_exists fun x h => (hx x h).f
  have hyA : ∀ y ∈ ys, IsA y := fun y h => hx y (hperm.mem_iff.2 h)
  have hsr : ddA ys ys.length = srtA xs := by
    rw [ddA_srt (fun y h => (hyA y h).f) (wk_WkA hys)]
    exact srtA_perm (fun x h => (hx x h).f) fun z => hperm.mem_iff.symm
  have hyl : ys.length ≤ 1000 := by rw [← hperm.length_eq]; exact hlen
  subst hv0
  have hb0 : Below w.heap.size w (w.alloc (.cells #[.slice a0 n0 c0] 22)) := (Below.refl _ w).alloc (Nat.le_refl _) _
  have hv1 := callsIn_wide.1 (valsQ_in Fence.wide 10 trivial rfl a0 n0 c0 w)
  have hb := Boxed.new w 22 (.slice a0 n0 c0)
  have hsz : (w.alloc (.cells #[.slice a0 n0 c0] 22)).heap.size = w.heap.size + 1 := by simp
  have hI1 : AngsIn (w.alloc (.cells #[.slice a0 n0 c0] 22)).heap.size (w.alloc (.cells #[.slice a0 n0 c0] 22)) (.slice a0 n0 c0) xs := by
    rcases hI.below hb0 with ⟨h1, h2⟩ | ⟨b, cap, h1, h2, h3⟩
    · exact .inl ⟨h1, h2⟩
    · exact .inr ⟨b, cap, h1, by omega, h3⟩
  have hs := sfQ_in w.heap.size (.slice a0 n0 c0) xs ys hx (by omega) hperm hys _ (by omega) hb.cell hI1
  obtain ⟨W1, hW1⟩ : ∃ W1, w.alloc (.cells #[.slice a0 n0 c0] 22) = W1 := ⟨_, rfl⟩
  rw [hW1] at hb0 hv1 hsz hs
  clear hI1 hb hI
  go_enter Try.func15, Try.ntmps15
  go_wp2_with (go_at_call 21; refine hv1.mono ?_; clear hv1; rintro e w1 ⟨rfl, hw1⟩; rw [hw1])
  refine hs.mono ?_
  clear hs
  rintro e w2 ⟨v, rfl, hr2, hb2⟩
  obtain ⟨hd, rfl, hdB⟩ := hdr_of hr2
  have hcp := cptQ_in hd ys hyl w2 (ownQ hr2)
  rw [hsr] at hcp
  go_wp2_with (go_at_call 19; refine hcp.mono ?_; clear hcp; rintro e w3 ⟨h, rfl, hk3, hr3, hf3⟩)
  go_ret
  have hB2 : Below w.heap.size w w2 := hb0.trans (hb2.mono (by omega))
  refine ⟨h, rfl, hB2.trans ⟨hk3.os, hk3.tape, hk3.output, hk3.size, fun k hk => hk3.block k ⟨Nat.lt_of_lt_of_le hk hB2.size, fun ⟨a, ha, hb⟩ => by have := hdB a ha; omega⟩⟩, hr3, fun b hb => ?_⟩
  rcases hf3 b hb with h | ⟨a, ha, rfl⟩
  · exact Nat.le_trans hB2.size h
  · have := hdB a ha; omega

theorem so_ok : MCtrOk Try.prog 15 soC where
  enter := enter_ok Try.func15 (by kernel_rfl) rfl
  calls := by
    intro hg rg lr vals k h
    unfold soC at h
    split at h
    case h_2 => exact h.elim
    rename_i i
    obtain ⟨e, xs, hi, ⟨⟨hx, hlen⟩, hk⟩⟩ : ∃ e, ∃ (xs : List Ang), _ := rowO_inv h
    refine ⟨_, _, _, hk _ rfl, ⟨fun i u h => by simp at h, List.nodup_nil⟩, fun A w hM => ?_⟩
    have ho := ((hM.row i _ hi).2 rfl).flat rfl
    refine (soQ_in (A.rw i).val (A.rw i).a (A.rw i).len (A.rw i).cap rfl xs lr hx hlen w (angsIn_own ho)).mono ?_
    rintro e w' ⟨h, rfl, hb, h1, h2⟩
    refine ⟨[h], ?_, ⟨hb.os, hb.tape, hb.output, hb.size, fun b hb9 => hb.block b hb9.1, trivial⟩, fun i r' h => by simp at h, newRows_one rfl h1 fun b hb => .inl (h2 b hb)⟩
    have := (setRws_in A lr [h] 0 h rfl).1
    rw [Nat.add_zero] at this
    simp only [AVal.den]
    rw [this]
end Go.Proofs.Ytmbfflckgmdncaa.Fw
