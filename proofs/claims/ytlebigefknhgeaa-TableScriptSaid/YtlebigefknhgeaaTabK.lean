/- The walk of praxinoscopelaw26's alike: a table beside the reference's; no conditions. -/
import Derived.Test.YtlebigefknhgeaaTabJ
import Derived.Test.YtlebigefknhgeaaKfOverInts
import Derived.Deep.RegionHeld3
set_option linter.unusedVariables false
set_option linter.unusedSimpArgs false
namespace Go.Proofs.Ytlebigefknhgeaa
open Go.RowKit Go.Maps

theorem Fresh.blk {w : World} {base : Nat} {A : Option Addr} {vs : List Value} (h : Fresh w base A vs) (a : Addr) (ha : A = some a) : base ≤ a.block ∧ a.block < w.heap.size := by
  rcases h with ⟨h, _⟩ | ⟨b, h, h1, h2⟩
  · rw [h] at ha; cases ha
  · rw [h] at ha; cases ha; exact ⟨h1, h2.lt⟩

set_option maxHeartbeats 8000000 in
set_option maxRecDepth 100000 in
theorem alikeF (w : World) (b m r : Nat) (s : Ts) (h : Tab w b m s) (hr : RTab w r s) (id : Int) (hid : (Lit.int .i64 id).wf = true) :
    Calls Try.prog 21 #[.pointer (some ⟨b, 0, none⟩), .pointer (some ⟨r, 0, none⟩), .int .i64 id] w fun e w' => e = .returned (.bool true) ∧ Below w.heap.size w w' := by
  have H := Lib.hid h
  have HR := Lib.hid hr
  have hm64 := h.2.2.2.1.2
  have hl1000 := h.2.2.2.2
  have HID := Lib.hid (i64_of_wf hid)
  have HC := Lib.hid (causeF w b m s h id hid)
  obtain ⟨ca, hca⟩ : ∃ ca, ca = causeAt s.causes id := ⟨_, rfl⟩
  obtain ⟨er, her⟩ : ∃ er : Int, er = (if 1 ≤ id ∧ id ≤ s.causes.length then 0 else 18) := ⟨_, rfl⟩
  rw [← hca, ← her] at HC
  have HCA := Lib.hid hca
  have HER := Lib.hid her
  obtain ⟨N, hN⟩ : ∃ N, N = (liveL s.causes).length := ⟨_, rfl⟩
  have HN := Lib.hid hN
  have hN1000 : N ≤ 1000 := by rw [hN]; exact Nat.le_trans (liveK_len _ _) hl1000
  obtain ⟨n, hn⟩ : ∃ n, n = s.causes.length := ⟨_, rfl⟩
  have HNN := Lib.hid hn
  obtain ⟨M, hM⟩ : ∃ M, M = s.most := ⟨_, rfl⟩
  have HM := Lib.hid hM
  rw [← hM] at hm64
  rw [← hn] at hl1000
  have e1 : IntKind.i64.wrap ((M : Int) - N) = (M : Int) - N := IntWalk.i64_in _ (by omega)
  clear h hr hca her hN hn hM
  go_enter Try.func21, Try.ntmps21
  go_wp2_with fail
  refine HC.out.mono ?_
  rintro e w1 ⟨rfl, hb1⟩
  have H1 := Lib.hid (H.out.below hb1)
  have HR1 := Lib.hid (HR.out.below hb1)
  have HB1 := Lib.hid hb1
  have HC1 := Lib.hid (refCauseF w1 r s HR1.out id HID.out)
  rw [← HCA.out, ← HER.out] at HC1
  clear hb1 H HR HC
  go_wp2_with fail
  refine HC1.out.mono ?_
  rintro e w2 ⟨rfl, rfl⟩
  clear HC1
  go_wp2_with fail
  refine (liveF _ b m s H1.out).mono ?_
  rintro e w3 ⟨v, rfl, hv, hb3⟩
  obtain ⟨A3, c3, rfl, _, _, hf3⟩ := own_nums hv
  rw [← HN.out]
  have H3 := Lib.hid (H1.out.below hb3)
  have HR3 := Lib.hid (HR1.out.below hb3)
  have HB3 := Lib.hid (below_then HB1.out hb3)
  have HF3 := Lib.hid hf3
  have HSZ := Lib.hid HB1.out.size
  clear hv hb3 hf3 H1 HR1 HB1
  go_wp2_with fail
  refine (refLiveF _ r s HR3.out).mono ?_
  rintro e w4 ⟨⟨v, rfl, hv⟩, hb4⟩
  obtain ⟨A4, c4, rfl, _, _, hf4⟩ := own_nums hv
  rw [← HN.out]
  have H4 := Lib.hid (H3.out.below hb4)
  have HR4 := Lib.hid (HR3.out.below hb4)
  have HB4 := Lib.hid (below_then HB3.out hb4)
  have HF4 := Lib.hid (HF3.out.below hb4)
  have HG4 := Lib.hid hf4.rd
  clear hv hb4 hf4 H3 HR3 HB3 HF3
  obtain ⟨AR, cR, q0, q1, _, _, _⟩ := HR4.out.cells
  rw [← HM.out] at q0
  rw [← HNN.out] at q1
  have HSH : Hid (∀ W, Below w4.heap.size w4 W → W.cell? ⟨r, 0, none⟩ = some (.int .i64 M) ∧ W.cell? ⟨r, 1, none⟩ = some (.slice AR n cR) ∧ Below w4.heap.size w4 W) := Lib.hid fun W hW => ⟨(hW.cell (p := ⟨r, 0, none⟩) HR4.out.lt).trans q0, (hW.cell (p := ⟨r, 1, none⟩) HR4.out.lt).trans q1, hW⟩
  have HD : Hid (Below w4.heap.size w4 w4.drew) := Lib.hid (below_drewN (Below.refl _ _) 1)
  have C1 : Hid (∀ W, Below w4.heap.size w4 W → Calls Try.prog 24 #[.slice A3 N c3, .slice A4 N c4] W fun e w' => e = .returned (.bool true) ∧ Below w4.heap.size w4 w') := Lib.hid fun W hW =>
    (sameInts W A3 A4 N N c3 c4 (liveL s.causes) (liveL s.causes) HN.out.symm HN.out.symm (by omega) (HF4.out.rd.below hW) (HG4.out.below hW)).mono fun e w' ⟨h1, q, h2⟩ => ⟨by rw [h1, decide_eq_true rfl], by rw [h2]; exact below_drewN hW q⟩
  have C2 : Hid (∀ W, Below w4.heap.size w4 W → Calls Try.prog 12 #[.pointer (some ⟨b, 0, none⟩)] W fun e w' => e = .returned (.int .i64 ((M : Int) - N)) ∧ Below w4.heap.size w4 w') := Lib.hid fun W hW =>
    (roomF W b m s (H4.out.below hW)).mono fun e w' ⟨h1, h2⟩ => ⟨by rw [h1, HM.out, HN.out], below_then hW h2⟩
  have C3 : Hid (∀ W, Below w4.heap.size w4 W → Calls Try.prog 13 #[.pointer (some ⟨b, 0, none⟩)] W fun e w' => e = .returned (.int .i64 n) ∧ Below w4.heap.size w4 w') := Lib.hid fun W hW =>
    (lastF W b m s (H4.out.below hW)).mono fun e w' ⟨h1, h2⟩ => ⟨by rw [h1, HNN.out], by rw [h2]; exact hW⟩
  go_wp2
  go_region_held3 (fun W => W.cell? ⟨r, 0, none⟩ = some (.int .i64 M) ∧ W.cell? ⟨r, 1, none⟩ = some (.slice AR n cR) ∧ Below w4.heap.size w4 W)
    (first | exact HSH.out _ (below_drewN (Below.refl _ _) 1) | exact HSH.out _ HB7.out | exact HSH.out _ HB6.out | exact HSH.out _ HB5.out)
    (first | (go_at_call 24; refine (C1.out _ HD.out).mono ?_; rintro e w5 ⟨rfl, hb5⟩; have HB5 := Lib.hid hb5; clear hb5) | (go_at_call 12; refine (C2.out _ HB5.out).mono ?_; rintro e w6 ⟨rfl, hb6⟩; have HB6 := Lib.hid hb6; clear hb6) | (go_at_call 13; refine (C3.out _ HB6.out).mono ?_; rintro e w7 ⟨rfl, hb7⟩; have HB7 := Lib.hid hb7; clear hb7))
  go_wp2_with fail
  refine (overInts _ w2.heap.size A3 c3 N (liveL s.causes) HN.out.symm (by omega) (HF4.out.below HB7.out)).mono ?_
  rintro e w8 ⟨rfl, hm8⟩
  have HB8 := Lib.hid (below_mod (below_then HB4.out HB7.out) hm8 (fun i ⟨a, ha, hi⟩ => by have := (HF4.out.blk a ha).1; have := HSZ.out; omega))
  go_wp2
  go_ret
  exact ⟨rfl, HB8.out⟩
end Go.Proofs.Ytlebigefknhgeaa
