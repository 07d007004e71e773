/- The walk of praxinoscopelaw02's alike: a queue beside the reference's; no conditions. Printed by genX.py. -/
import Derived.Test.YtnnchmlkgofhpaaQueW
import Derived.Test.YtnnchmlkgofhpaaKfOverBytes
set_option linter.unusedVariables false
set_option linter.unusedSimpArgs false
namespace Go.Proofs.Ytnnchmlkgofhpaa
open Go.RowKit

theorem own_fresh {w : World} {B : Nat} {e : TypeId} {v : Value} {k : IntKind} {xs : List Int} (h : Own w B e v (nums k xs)) : ∃ A c, v = .slice A xs.length c ∧ xs.length ≤ c ∧ c ≤ maxLen ∧ Fresh w B A (nums k xs) := by
  obtain ⟨A, c, h1, h2, h3, h4⟩ := h.fresh
  rw [nums_length] at h1 h2
  exact ⟨A, c, h1, h2, h3, h4⟩
theorem Fresh.blk {w : World} {base : Nat} {A : Option Addr} {vs : List Value} (h : Fresh w base A vs) (a : Addr) (ha : A = some a) : base ≤ a.block ∧ a.block < w.heap.size := by
  rcases h with ⟨h, _⟩ | ⟨b, h, h1, h2⟩
  · rw [h] at ha; cases ha
  · rw [h] at ha; cases ha; exact ⟨h1, h2.lt⟩

set_option maxHeartbeats 16000000 in
set_option maxRecDepth 100000 in
theorem alikeF (w : World) (b g r M : Nat) (s : Qs) (all : List Int) (rd : Nat) (EV : Bool) (h : Que w b g s) (hr : RQue w r ⟨M, all, rd, EV⟩) (hbe : Beside s all rd) (hM : s.most = M) (he : s.ended = EV) :
    Calls Try.prog 31 #[.pointer (some ⟨b, 0, none⟩), .pointer (some ⟨r, 0, none⟩)] w fun e w' => e = .returned (.bool true) ∧ Below w.heap.size w w' := by
  have H := Lib.hid h
  have HR := Lib.hid hr
  have hl5 := hr.2.len
  have hl5 : all.length ≤ 100000 := hl5
  have HBY := Lib.hid h.ok.bytes
  obtain ⟨N, hN⟩ : ∃ N, N = s.data.length := ⟨_, rfl⟩
  have hN5 : N ≤ 100000 := by rw [hN, hbe.len]; omega
  have HN := Lib.hid hN
  have HDA := Lib.hid hbe.data
  obtain ⟨P, hP⟩ : ∃ P, P = s.place := ⟨_, rfl⟩
  have HP := Lib.hid hP
  have HP2 : Hid (rd % 8 = P) := Lib.hid (by rw [hP, hbe.place])
  obtain ⟨L, hL⟩ : ∃ L, L = all.length := ⟨_, rfl⟩
  obtain ⟨LV, hLV⟩ : ∃ LV : Int, LV = (lefts s : Nat) := ⟨_, rfl⟩
  have HLV : Hid (((lefts s : Nat) : Int) = LV) := Lib.hid hLV.symm
  have HLW : Hid (8 * (all.length : Int) - (rd : Int) = LV) := Lib.hid (by rw [hLV, hbe.left]; have := hbe.le; omega)
  obtain ⟨FV, hFV⟩ : ∃ FV : Int, FV = ((s.most - s.data.length : Nat) : Int) := ⟨_, rfl⟩
  have HFV : Hid (((s.most - s.data.length : Nat) : Int) = FV) := Lib.hid hFV.symm
  have HFW : Hid (((M - (all.length - rd / 8) : Nat) : Int) = FV) := Lib.hid (by rw [hFV, hM, hbe.len])
  have HEV := Lib.hid he
  have HCA : Hid (s.came = L) := Lib.hid (by rw [hL]; exact hbe.came)
  have HGO := Lib.hid hbe.gone
  have HL := Lib.hid hL
  clear h hr hbe hM he hN hP hL hLV hFV hl5
  go_enter Try.func31, Try.ntmps31
  go_wp2_with fail
  refine (bitsF _ b g s H.out).mono ?_
  rintro e w3 ⟨v, rfl, hv, hb3⟩
  obtain ⟨A3, c3, rfl, _, _, hf3⟩ := own_fresh hv
  rw [← HN.out, ← HP.out]
  have H3 := Lib.hid (H.out.below hb3)
  have HR3 := Lib.hid (HR.out.below hb3)
  have HB3 := Lib.hid hb3
  have HF3 := Lib.hid hf3
  clear hv hb3 hf3 H HR
  go_wp2_with fail
  refine (refBitsF _ r _ HR3.out).mono ?_
  rintro e w4 ⟨⟨v, rfl, hv⟩, hb4⟩
  have hv : Own w4 w3.heap.size 5 v (nums .u8 s.data) := by rw [HDA.out]; exact hv
  obtain ⟨A4, c4, rfl, _, _, hf4⟩ := own_fresh hv
  rw [← HN.out, show ((⟨M, all, rd, EV⟩ : Rs).rd % 8) = P from HP2.out]
  have H4 := Lib.hid (H3.out.below hb4)
  have HR4 := Lib.hid (HR3.out.below hb4)
  have HB4 := Lib.hid (below_then HB3.out hb4)
  have HF4 := Lib.hid (HF3.out.below hb4)
  have HG4 := Lib.hid hf4.rd
  clear hv hb4 hf4 H3 HR3 HB3 HF3
  obtain ⟨AR, cR, q0, q1, q2, q3, _, _, _, _⟩ := HR4.out.cells
  have q1 : w4.cell? ⟨r, 1, none⟩ = some (.slice AR all.length cR) := q1
  have q2 : w4.cell? ⟨r, 2, none⟩ = some (.int .i64 rd) := q2
  have q3 : w4.cell? ⟨r, 3, none⟩ = some (.bool EV) := q3
  rw [← HL.out] at q1
  have HSH : Hid (∀ W, Below w4.heap.size w4 W → W.cell? ⟨r, 1, none⟩ = some (.slice AR L cR) ∧ W.cell? ⟨r, 2, none⟩ = some (.int .i64 rd) ∧ W.cell? ⟨r, 3, none⟩ = some (.bool EV) ∧ Below w4.heap.size w4 W) := Lib.hid fun W hW => ⟨(hW.cell (p := ⟨r, 1, none⟩) HR4.out.lt).trans q1, (hW.cell (p := ⟨r, 2, none⟩) HR4.out.lt).trans q2, (hW.cell (p := ⟨r, 3, none⟩) HR4.out.lt).trans q3, hW⟩
  have HD : Hid (Below w4.heap.size w4 w4.drew) := Lib.hid (below_drewN (Below.refl _ _) 1)
  have C1 : Hid (∀ W, Below w4.heap.size w4 W → Calls Try.prog 35 #[.slice A3 N c3, .slice A4 N c4] W fun e w' => e = .returned (.bool true) ∧ Below w4.heap.size w4 w') := Lib.hid fun W hW =>
    (sameBytes W A3 A4 N N c3 c4 s.data s.data HN.out.symm HN.out.symm (HF4.out.rd.below hW) (HG4.out.below hW) HBY.out HBY.out).mono fun e w' ⟨h1, h2⟩ => ⟨by rw [h1, decide_eq_true rfl], by rw [← h2]; exact hW⟩
  have C2 : Hid (∀ W, Below w4.heap.size w4 W → Calls Try.prog 12 #[.pointer (some ⟨b, 0, none⟩)] W fun e w' => e = .returned (.int .i64 LV) ∧ Below w4.heap.size w4 w') := Lib.hid fun W hW =>
    (leftN W b g s (H4.out.below hW)).mono fun e w' ⟨h1, h2⟩ => ⟨by rw [h1, HLV.out], below_then hW h2⟩
  have C3 : Hid (∀ W, Below w4.heap.size w4 W → Calls Try.prog 38 #[.pointer (some ⟨r, 0, none⟩)] W fun e w' => e = .returned (.int .i64 LV) ∧ Below w4.heap.size w4 w') := Lib.hid fun W hW =>
    (refLeftF W r _ (HR4.out.below hW)).mono fun e w' ⟨h1, h2⟩ => ⟨by rw [h1, HLW.out], below_then hW h2⟩
  have C4 : Hid (∀ W, Below w4.heap.size w4 W → Calls Try.prog 14 #[.pointer (some ⟨b, 0, none⟩)] W fun e w' => e = .returned (.int .i64 FV) ∧ Below w4.heap.size w4 w') := Lib.hid fun W hW =>
    (freeF W b g s (H4.out.below hW)).mono fun e w' ⟨h1, h2⟩ => ⟨by rw [h1, HFV.out], below_then hW h2⟩
  have C5 : Hid (∀ W, Below w4.heap.size w4 W → Calls Try.prog 37 #[.pointer (some ⟨r, 0, none⟩)] W fun e w' => e = .returned (.int .i64 FV) ∧ Below w4.heap.size w4 w') := Lib.hid fun W hW =>
    (refFreeF W r _ (HR4.out.below hW)).mono fun e w' ⟨h1, h2⟩ => ⟨by rw [h1, HFW.out], below_then hW h2⟩
  have C6 : Hid (∀ W, Below w4.heap.size w4 W → Calls Try.prog 32 #[.pointer (some ⟨b, 0, none⟩)] W fun e w' => e = .returned (.bool EV) ∧ Below w4.heap.size w4 w') := Lib.hid fun W hW =>
    (endedF W b g s (H4.out.below hW)).mono fun e w' ⟨h1, h2⟩ => ⟨by rw [h1, HEV.out], by rw [h2]; exact hW⟩
  have C7 : Hid (∀ W, Below w4.heap.size w4 W → Calls Try.prog 19 #[.pointer (some ⟨b, 0, none⟩)] W fun e w' => e = .returned (.int .i64 L) ∧ Below w4.heap.size w4 w') := Lib.hid fun W hW =>
    (cameF W b g s (H4.out.below hW)).mono fun e w' ⟨h1, h2⟩ => ⟨by rw [h1, HCA.out], by rw [h2]; exact hW⟩
  have C8 : Hid (∀ W, Below w4.heap.size w4 W → Calls Try.prog 18 #[.pointer (some ⟨b, 0, none⟩)] W fun e w' => e = .returned (.int .i64 rd) ∧ Below w4.heap.size w4 w') := Lib.hid fun W hW =>
    (goneF W b g s (H4.out.below hW)).mono fun e w' ⟨h1, h2⟩ => ⟨by rw [h1, HGO.out], by rw [h2]; exact hW⟩
  clear q0 q1 q2 q3
  go_wp2
  go_region_held3 (fun W => W.cell? ⟨r, 1, none⟩ = some (.slice AR L cR) ∧ W.cell? ⟨r, 2, none⟩ = some (.int .i64 rd) ∧ W.cell? ⟨r, 3, none⟩ = some (.bool EV) ∧ Below w4.heap.size w4 W)
    (first | exact HSH.out _ HB12.out | exact HSH.out _ HB11.out | exact HSH.out _ HB10.out | exact HSH.out _ HB9.out | exact HSH.out _ HB8.out | exact HSH.out _ HB7.out | exact HSH.out _ HB6.out | exact HSH.out _ HB5.out | exact HSH.out _ (below_drewN (Below.refl _ _) 1))
    (first | (go_at_call 35; refine (C1.out _ HD.out).mono ?_; rintro e w5 ⟨rfl, hb5⟩; have HB5 := Lib.hid hb5; clear hb5) | (go_at_call 12; refine (C2.out _ HB5.out).mono ?_; rintro e w6 ⟨rfl, hb6⟩; have HB6 := Lib.hid hb6; clear hb6) | (go_at_call 38; refine (C3.out _ HB6.out).mono ?_; rintro e w7 ⟨rfl, hb7⟩; have HB7 := Lib.hid hb7; clear hb7) | (go_at_call 14; refine (C4.out _ HB7.out).mono ?_; rintro e w8 ⟨rfl, hb8⟩; have HB8 := Lib.hid hb8; clear hb8) | (go_at_call 37; refine (C5.out _ HB8.out).mono ?_; rintro e w9 ⟨rfl, hb9⟩; have HB9 := Lib.hid hb9; clear hb9) | (go_at_call 32; refine (C6.out _ HB9.out).mono ?_; rintro e w10 ⟨rfl, hb10⟩; have HB10 := Lib.hid hb10; clear hb10) | (go_at_call 19; refine (C7.out _ HB10.out).mono ?_; rintro e w11 ⟨rfl, hb11⟩; have HB11 := Lib.hid hb11; clear hb11) | (go_at_call 18; refine (C8.out _ HB11.out).mono ?_; rintro e w12 ⟨rfl, hb12⟩; have HB12 := Lib.hid hb12; clear hb12))
  go_wp2_with fail
  refine (overBytes _ w.heap.size A3 c3 N s.data HN.out.symm (by omega) (HF4.out.below HB12.out)).mono ?_
  rintro e wz ⟨rfl, hmz⟩
  have HBZ := Lib.hid (below_mod (below_then HB4.out HB12.out) hmz (fun i ⟨a, ha, hi⟩ => by have := (HF4.out.blk a ha).1; omega))
  go_wp2
  go_ret
  exact ⟨rfl, HBZ.out⟩
end Go.Proofs.Ytnnchmlkgofhpaa
