/- The walk of QueueNew: a queue whose bits were all read is as new; for every input. -/
import Derived.Test.YtnnchmlkgofhpaaQueE
import Derived.Test.YtnnchmlkgofhpaaKfPick
set_option linter.unusedVariables false
set_option linter.unusedSimpArgs false
namespace Go.Proofs.Ytnnchmlkgofhpaa
open Go.RowKit

/-- How many bits are left. -/
def lefts (s : Qs) : Nat := 8 * s.data.length - s.place
theorem leftN (w : World) (b r : Nat) (s : Qs) (h : Que w b r s) :
    Calls Try.prog 12 #[.pointer (some ⟨b, 0, none⟩)] w fun e w' => e = .returned (.int .i64 (lefts s : Nat)) ∧ Below w.heap.size w w' := by
  have e : ((lefts s : Nat) : Int) = 8 * s.data.length - s.place := by have := h.ok.left; unfold lefts; omega
  rw [e]
  exact (leftF w b r s h).mono fun e w' ⟨h1, m, h2⟩ => ⟨h1, by rw [h2]; exact below_drewN (Below.refl _ _) m⟩
theorem lefts_skip {s : Qs} (h : Qok s) (n : Nat) (hn : n ≤ lefts s) : lefts (skipQ s n) = lefts s - n := by
  have h1 := h.left
  unfold lefts at *
  show 8 * (s.data.drop ((s.place + n) / 8)).length - (s.place + n) % 8 = _
  rw [List.length_drop]
  omega
theorem Rd.base {w : World} {A : Option Addr} {vs : List Value} (h : Rd w A vs) {w1 : World} (hb : Below w.heap.size w w1) {b r : Nat} (h1 : w.heap.size ≤ b) (h2 : w.heap.size ≤ r) : ∀ W, Mod (fun i => i = b ∨ i = r) w1 W → Rd W A vs := fun W hW =>
  h.below (below_mod hb hW (fun i hi => by omega))
theorem Rd.upto {w : World} {A : Option Addr} {l l' : List Int} {k : IntKind} (h : Rd w A (nums k l)) (hp : l' <+: l) : Rd w A (nums k l') := by
  obtain ⟨t, rfl⟩ := hp
  rcases h with h | ⟨b, o, h1, h2, h3⟩
  · left
    have := congrArg List.length h
    rw [nums_length, List.length_append] at this
    have : l' = [] := by simp at this; exact this.1
    rw [this]; rfl
  · exact .inr ⟨b, o, h1, h2, fun j v hj => h3 j v (by rw [nums_append, List.getElem?_append_left (List.getElem?_eq_some_iff.1 hj).1]; exact hj)⟩
theorem all_data {s : Qs} (h : Qok s) (hz : lefts s = 0) : s.data = [] ∧ s.place = 0 := by
  have h1 := h.place
  have h2 := h.left
  unfold lefts at hz
  have : s.data.length = 0 := by omega
  exact ⟨List.eq_nil_of_length_eq_zero this, by omega⟩
/-- How far the reading has come. -/
def Going (M : Nat) (s : Qs) (k : Nat) : Prop := s.ended = false ∧ s.most = M ∧ s.came ≤ 100 ∧ s.gone + lefts s ≤ 320 ∧ lefts s + k ≤ 320
attribute [local go_sem] min_nat

set_option maxHeartbeats 4000000 in
set_option maxRecDepth 100000 in
theorem queueNew_walk (a0 : Int) (a1 : Option Addr) (len1 cap1 : Nat) (z1 : List Int) (a2 : Option Addr) (len2 cap2 : Nat) (z2 : List Int) (a3 : Int) (w : World) (w0 : (Lit.int .i64 a0).wf = true) (w1 : IsRow .u8 w a1 len1 cap1 z1) (w2 : IsRow .u8 w a2 len2 cap2 z2) (w3 : (Lit.int .i64 a3).wf = true) :
    Calls Try.prog 3 #[.int .i64 a0, .slice a1 len1 cap1, .slice a2 len2 cap2, .int .i64 a3] w fun e w' => e = .returned (.bool true) ∧ Below w.heap.size w w' := by
  obtain ⟨h1, h2, h3, h4, h5⟩ := w1.rd
  obtain ⟨k1, k2, k3, k4, k5⟩ := w2.rd
  obtain ⟨M0, hM0⟩ : ∃ M0 : Nat, (M0 : Int) = pick a0 40 := ⟨(pick a0 40).toNat, by have := pick_bd a0 40 (by omega); omega⟩
  obtain ⟨S0, hS0⟩ : ∃ S0 : Nat, (S0 : Int) = pick a3 20 := ⟨(pick a3 20).toNat, by have := pick_bd a3 20 (by omega); omega⟩
  have hMb : M0 < 40 := by have := pick_bd a0 40 (by omega); omega
  have hSb : S0 < 20 := by have := pick_bd a3 20 (by omega); omega
  have eM : IntKind.i64.wrap (1 + (M0 : Int)) = ((1 + M0 : Nat) : Int) := by rw [IntWalk.i64_in _ (by omega)]; omega
  have eS : IntKind.i64.wrap (1 + (S0 : Int)) = ((1 + S0 : Nat) : Int) := by rw [IntWalk.i64_in _ (by omega)]; omega
  have HR1 := Lib.hid h4
  have HR2 := Lib.hid k4
  have HL1 := Lib.hid h1
  have HL2 := Lib.hid k1
  have HB1 := Lib.hid (bytes_of_wf h5)
  have HB2 := Lib.hid (bytes_of_wf k5)
  have HM0 := Lib.hid hM0
  have HS0 := Lib.hid hS0
  have hm1 : len1 ≤ 9223372036854775807 := by unfold maxLen at h3; omega
  have hm2 : len2 ≤ 9223372036854775807 := by unfold maxLen at k3; omega
  clear h1 h3 h4 h5 k1 k3 k4 k5 w0 w1 w2 w3 hM0 hS0
  go_enter Try.func3, Try.ntmps3
  go_wp2_with fail
  refine (awakeF _).mono ?_
  rintro e w1 ⟨rfl, hb1⟩
  go_wp2_with fail
  refine (pickF _ a0 40 (by omega) (by omega)).mono ?_
  rintro e w2 ⟨rfl, rfl⟩
  rw [← HM0.out]
  go_wp2_with fail
  refine (pickF _ a3 20 (by omega) (by omega)).mono ?_
  rintro e w2 ⟨rfl, rfl⟩
  rw [← HS0.out]
  go_wp2_with fail
  obtain ⟨M, hM⟩ : ∃ M : Nat, 1 + (M0 : Int) = (M : Int) := ⟨1 + M0, by omega⟩
  obtain ⟨S, hS⟩ : ∃ S : Nat, 1 + (S0 : Int) = (S : Int) := ⟨1 + S0, by omega⟩
  rw [hM, hS]
  have hMb1 : 1 ≤ M := by omega
  have hMb2 : M ≤ 40 := by omega
  have hSb1 : 1 ≤ S := by omega
  have hSb2 : S ≤ 20 := by omega
  clear hM hS eM eS hMb hSb HM0 HS0
  refine (new_ok _ M (by omega) (by omega)).mono ?_
  rintro e w2 ⟨⟨b, r, rfl, hb, hr, hq⟩, hb2⟩
  have hsz := hb1.size
  have hbel := below_then hb1 hb2
  clear hb1 hb2
  by_cases hlong : 40 < len1 ∨ 80 < len2
  · by_cases hlong1 : 40 < len1
    · have hd : decide ((40 : Int) < len1) = true := by simp; omega
      clear hlong
      go_wp2
      go_ret
      exact ⟨rfl, hbel⟩
    · have hd : decide ((40 : Int) < len1) = false := by simp; omega
      have hd2 : decide ((80 : Int) < len2) = true := by simp; omega
      clear hlong
      go_wp2
      go_ret
      exact ⟨rfl, hbel⟩
  · have hd : decide ((40 : Int) < len1) = false := by simp; omega
    have hd2 : decide ((80 : Int) < len2) = false := by simp; omega
    have hle1 : len1 ≤ 40 := by omega
    have hle2 : len2 ≤ 80 := by omega
    clear hlong
    go_wp2_with fail
    refine (feed_ok _ b r (newQ M) hq rfl a1 len1 cap1 _ HL1.out (by simp [maxLen]; omega) (HR1.out.base hbel (by omega) (by omega)) HB1.out (by simp [newQ]; omega)).mono ?_
    rintro e w3 ⟨rfl, hq3, hm3⟩
    have hbel3 := below_mod hbel hm3 (fun i hi => by omega)
    obtain ⟨K, hK⟩ : ∃ K : Nat, K = min len1 ((newQ M).most - (newQ M).data.length) := ⟨_, rfl⟩
    rw [← hK] at hq3 ⊢
    have hfed : ((fedQ (newQ M) (z1.take len1) K).data).length ≤ 40 := by
      show ([] ++ (z1.take len1).take K).length ≤ 40
      rw [List.nil_append, List.length_take, HL1.out]; omega
    have hstart : ∃ s : Qs, Que w3 b r s ∧ Going M s 0 := ⟨_, hq3, rfl, rfl, by show 0 + K ≤ 100; omega, by unfold lefts; show 0 + (8 * _ - 0) ≤ 320; omega, by unfold lefts; show (8 * _ - 0) + 0 ≤ 320; omega⟩
    have HST := Lib.hid hstart
    clear hstart hfed hK hq hq3 hm3 hbel hd hd2
    go_wp2
    go_loopw [12] (fun i wr => ∃ (k : Nat), k ≤ 400 ∧ i = .int .i64 k ∧ Hid (∃ s : Qs, Que wr b r s ∧ Going M s k) ∧ Below w.heap.size w wr) (fun i _ => 400 - (intOf i).toNat)
    case atStart => exact ⟨0, by omega, rfl, HST, hbel3⟩
    case round =>
      clear HST hbel3
      obtain ⟨k, hk, rfl, hst, hbel⟩ := hrel
      obtain ⟨s, hq, he, hmo, hca, hgo, hle⟩ := hst.out
      have hd : decide ((k : Int) < 400) = true := by simp; omega
      clear hst
      go_wp2_with fail
      refine (leftN _ b r s hq).mono ?_
      rintro e w4 ⟨rfl, hb4⟩
      have hq4 := hq.below hb4
      have hbel4 := below_then hbel hb4
      clear hq hbel
      by_cases hz : lefts s = 0
      · have hz2 : decide ((0 : Int) < (lefts s : Nat)) = false := by simp; omega
        go_wp2_with fail
        obtain ⟨N, hN⟩ : ∃ N : Nat, N = min len2 M := ⟨_, rfl⟩
        rw [← hN]
        have hN1 : N ≤ len2 := by omega
        have hN2 : N ≤ M := by omega
        have hNc : (N : Int) ≤ cap2 := by omega
        have HNN := Lib.hid hN
        clear hN
        have eN : IntKind.i64.wrap (8 * (N : Int)) = 8 * (N : Int) := IntWalk.i64_in _ (by omega)
        refine (leftN _ b r s hq4).mono ?_
        rintro e w5 ⟨rfl, hb5⟩
        rw [hz]
        have hq5 := hq4.below hb5
        have hbel5 := below_then hbel4 hb5
        obtain ⟨hd0, hp0⟩ := all_data hq5.ok hz
        clear hq4 hbel4
        go_wp2_with fail
        refine (freeF _ b r s hq5).mono ?_
        rintro e w6 ⟨rfl, hb6⟩
        rw [hd0, hmo, List.length_nil, Nat.sub_zero]
        have hq6 := hq5.below hb6
        have hbel6 := below_then hbel5 hb6
        clear hq5 hbel5 hb6
        go_wp2_with fail
        refine (feedsF _ b r s hq6 he a2 len2 cap2 _ HL2.out (by simp [maxLen]; omega) (HR2.out.base hbel6 (by omega) (by omega)) HB2.out (by omega) N (by rw [hmo, hd0, HNN.out]; rfl)).mono ?_
        rintro e w7 ⟨rfl, hq7, hm7⟩
        have hbel7 := below_mod hbel6 hm7 (fun i hi => by omega)
        have hdt : (fedQ s (z2.take len2) N).data = (z2.take len2).take N := by
          show s.data ++ (z2.take len2).take N = _
          rw [hd0, List.nil_append]
        have hln : ((z2.take len2).take N).length = N := by rw [List.length_take, HL2.out]; omega
        clear hq6 hm7 hbel6
        go_wp2_with fail
        refine (hasF _ b r (fedQ s (z2.take len2) N) hq7 0 hp0.symm a2 N cap2 (by rw [hdt, hln]) (by rw [hdt]; exact (HR2.out.below hbel7).upto (by exact List.take_prefix _ _))).mono ?_
        rintro e w8 ⟨rfl, hb8⟩
        have hq8 := hq7.below hb8
        have hbel8 := below_then hbel7 hb8
        have hlf : lefts (fedQ s (z2.take len2) N) = 8 * N := by
          unfold lefts
          rw [hdt, hln]
          show 8 * N - s.place = 8 * N
          rw [hp0]; rfl
        clear hq7 hb8 hbel7
        go_wp2_with fail
        refine (leftN _ b r _ hq8).mono ?_
        rintro e w9 ⟨rfl, hb9⟩
        rw [hlf]
        have e8 : ((8 * N : Nat) : Int) = 8 * (N : Int) := by omega
        rw [e8]
        go_wp2
        go_ret
        exact ⟨rfl, below_then hbel8 hb9⟩
      · have hz2 : decide ((0 : Int) < (lefts s : Nat)) = true := by simp; omega
        go_wp2_with fail
        refine (leftN _ b r s hq4).mono ?_
        rintro e w5 ⟨rfl, hb5⟩
        have hq5 := hq4.below hb5
        have hbel5 := below_then hbel4 hb5
        clear hq4 hbel4
        obtain ⟨N, hN⟩ : ∃ N : Nat, N = min S (lefts s) := ⟨_, rfl⟩
        have hN1 : 1 ≤ N := by omega
        have hN2 : N ≤ lefts s := by omega
        go_wp2_with fail
        rw [← hN]
        clear hN
        have hpl := hq5.ok.left
        refine (skip_ok _ b r s hq5 N (by unfold lefts at hN2; omega) (by omega)).mono ?_
        rintro e w6 ⟨rfl, hq6, hm6⟩
        have hbel6 := below_mod hbel5 hm6 (fun i hi => by omega)
        have hls := lefts_skip hq5.ok N hN2
        have HST : Hid (∃ s : Qs, Que w6 b r s ∧ Going M s (k + 1)) := Lib.hid ⟨skipQ s N, hq6, he, hmo, hca, by rw [hls]; show s.gone + N + _ ≤ 320; omega, by rw [hls]; omega⟩
        clear hq5 hm6 hbel5 hls
        go_wp2
        go_roundw
        case rel => exact ⟨k + 1, by omega, by go_num, HST, hbel6⟩
        case measure => simp [intOf]; omega
end Go.Proofs.Ytnnchmlkgofhpaa
