/- The walk of queue's Skip: bits are read; no conditions but the bounds that it names. -/
import Derived.Test.YtnnchmlkgofhpaaQueB
set_option linter.unusedVariables false
set_option linter.unusedSimpArgs false
namespace Go.Proofs.Ytnnchmlkgofhpaa
open Go.RowKit

set_option maxHeartbeats 1000000 in
theorem skip_no (w : World) (b r : Nat) (s : Qs) (h : Que w b r s) (n : Int) (hn : n < 0 ∨ 8 * (s.data.length : Int) - s.place < n) :
    Calls Try.prog 13 #[.pointer (some ⟨b, 0, none⟩), .int .i64 n] w fun e w' => e = .returned (.int .i64 3) ∧ ∃ m, w' = w.drewN m := by
  have H := Lib.hid h
  clear h
  by_cases h0 : n < 0
  · clear hn
    go_enter Try.func13, Try.ntmps13
    go_wp2_with (go_at_call 33; refine (none_no _ b r s H.out).mono ?_; rintro e w1 ⟨rfl, rfl⟩)
    go_ret
    exact ⟨rfl, 0, rfl⟩
  · have h1 : 8 * (s.data.length : Int) - s.place < n := by omega
    clear hn
    go_enter Try.func13, Try.ntmps13
    go_wp2_with (first | (go_at_call 33; refine (none_no _ b r s H.out).mono ?_; rintro e w1 ⟨rfl, rfl⟩) | (go_at_call 12; refine (leftF _ b r s H.out).mono ?_; rintro e w2 ⟨rfl, m, rfl⟩))
    go_ret
    exact ⟨rfl, m, rfl⟩

def skipQ (s : Qs) (n : Nat) : Qs := { s with place := (s.place + n) % 8, first := (s.first + (s.place + n) / 8) % s.most, data := s.data.drop ((s.place + n) / 8), gone := s.gone + n }

theorem skipFacts {w : World} {b r : Nat} {s : Qs} (m : Nat) (h : Que w b r s) :
    (w.drewN m).cell? ⟨b, 4, none⟩ = some (.int .i64 s.place) ∧ (w.drewN m).frozen? ⟨b, 4, none⟩ = false := ⟨h.c4, h.1.free 4⟩

set_option maxHeartbeats 4000000 in
set_option maxRecDepth 100000 in
theorem skip_ok (w : World) (b r : Nat) (s : Qs) (h : Que w b r s) (n : Nat) (hn : s.place + n ≤ 8 * s.data.length) (hg : s.gone + n ≤ 10000000000000) :
    Calls Try.prog 13 #[.pointer (some ⟨b, 0, none⟩), .int .i64 n] w fun e w' => e = .returned (.int .i64 0) ∧ Que w' b r (skipQ s n) ∧ Mod (· = b) w w' := by
  have H := Lib.hid h
  have hm1 := h.ok.m1
  have hm2 := h.ok.m2
  have hl := h.ok.len
  have hf := h.ok.first
  have hp := h.ok.place
  have HG := Lib.hid hg
  have hn1 : decide ((n : Int) < 0) = false := by simp
  have hn2 : (n : Int) ≤ 8 * (s.data.length : Int) - s.place := by omega
  have hn3 : (n : Int) < 1000000000 := by omega
  have hn4 : (s.place : Int) < 8 := by omega
  clear h hg
  go_enter Try.func13, Try.ntmps13
  go_wp2_with fail
  refine (none_no _ b r s H.out).mono ?_
  rintro e w1 ⟨rfl, rfl⟩
  go_wp2_with fail
  refine (leftF _ b r s H.out).mono ?_
  rintro e w2 ⟨rfl, m, rfl⟩
  have e0 : ((8 * (s.data.length : Int) - s.place < n) : Bool) = false := by simp; omega
  have H2 := Lib.hid (H.out.drewN m)
  obtain ⟨wo, hwo⟩ : ∃ wo, wo = w1.drewN m := ⟨_, rfl⟩
  rw [← hwo] at H2 ⊢
  have HW := Lib.hid hwo
  clear hwo H
  have c4 := H2.out.c4
  have f4 := H2.out.1.free 4
  obtain ⟨D, hD⟩ : ∃ D : Nat, D = (s.place + n) / 8 := ⟨_, rfl⟩
  obtain ⟨P, hP⟩ : ∃ P : Nat, P = (s.place + n) % 8 := ⟨_, rfl⟩
  obtain ⟨J, hJ⟩ : ∃ J : Nat, J = (s.first + D) % s.most := ⟨_, rfl⟩
  have eD : ((s.place : Int) + n) / 8 = (D : Int) := by omega
  have eP : ((s.place : Int) + n) % 8 = (P : Int) := by omega
  have eJ : ((s.first : Int) + D) % s.most = (J : Int) := by rw [hJ]; simp
  have eS : IntKind.i64.wrap ((s.first : Int) + D) = (s.first : Int) + D := IntWalk.i64_in _ (by omega)
  have eM : IntKind.i64.wrap ((s.data.length : Int) - D) = (s.data.length : Int) - D := IntWalk.i64_in _ (by omega)
  have eG : IntKind.i64.wrap ((s.gone : Int) + n) = (s.gone : Int) + n := IntWalk.i64_in _ (by have := HG.out; omega)
  have hDl : D ≤ s.data.length := by omega
  have hne : ¬ (s.most = 0) := by omega
  have hJm : J < s.most := by rw [hJ]; exact Nat.mod_lt _ (by omega)
  have HD := Lib.hid hD
  have HP := Lib.hid hP
  have HJ := Lib.hid hJ
  clear hD hP hJ
  go_wp2_with fail
  obtain ⟨W1, hW1⟩ : ∃ W1, W1 = wo.setCell ⟨b, 4, none⟩ (.int .i64 P) := ⟨_, rfl⟩
  rw [← hW1]
  have B1 := Lib.hid (H2.out.1.set 4 (.int .i64 P))
  rw [← hW1] at B1
  have HW1 := Lib.hid hW1
  clear hW1 c4 f4
  have c3 : W1.drew.cell? ⟨b, 3, none⟩ = some (.int .i64 s.first) := B1.out.cell rfl
  have f3 : W1.drew.frozen? ⟨b, 3, none⟩ = false := B1.out.free 3
  have c0 : W1.drew.cell? ⟨b, 0, none⟩ = some (.int .i64 s.most) := B1.out.cell rfl
  go_region
  obtain ⟨W2, hW2⟩ : ∃ W2, W2 = (W1.setCell ⟨b, 3, none⟩ (.int .i64 J)).drew := ⟨_, rfl⟩
  rw [← hW2]
  have B2 : Hid (Blk W2 b 56 (((qcells r s).set 4 (.int .i64 P)).set 3 (.int .i64 J))) := Lib.hid (by rw [hW2]; exact (B1.out.set 3 (.int .i64 J)).drew)
  have HW2 := Lib.hid hW2
  clear hW2 c3 f3 c0
  have c1 : W2.cell? ⟨b, 1, none⟩ = some (.int .i64 s.data.length) := B2.out.cell rfl
  have f1 : W2.frozen? ⟨b, 1, none⟩ = false := B2.out.free 1
  have c7 : W2.cell? ⟨b, 7, none⟩ = some (.int .i64 s.gone) := B2.out.cell rfl
  have f7 : W2.frozen? ⟨b, 7, none⟩ = false := B2.out.free 7
  go_wp2
  go_ret
  obtain ⟨_, ⟨ring, r1, r2, r3⟩, hbr, ok⟩ := H2.out
  have hmod : Mod (· = b) w1 W2 := by
    rw [HW2.out, HW1.out, HW.out]
    exact (((Mod.refl _ w1).drewN m).set1 _).set1 _ |>.drew
  have hmod2 : Mod (· = b) wo W2 := by
    rw [HW2.out, HW1.out]
    exact (((Mod.refl _ wo)).set1 _).set1 _ |>.drew
  have hPD : P + 8 * D = s.place + n := by rw [HP.out, HD.out]; omega
  have e : skipQ s n = { s with place := P, first := J, data := s.data.drop D, gone := s.gone + n } := by rw [skipQ, HJ.out, HP.out, HD.out]
  rw [e]
  refine ⟨rfl, ⟨?_, ⟨ring, ((r1.mod hmod2 (Ne.symm hbr)).far (Ne.symm hbr) _).far (Ne.symm hbr) _, r2, fun i hi => ?_⟩, hbr, ?_⟩, (hmod.set1 _).set1 _⟩
  · have h := (B2.out.set 1 (.int .i64 ((s.data.length : Int) - D))).set 7 (.int .i64 ((s.gone : Int) + n))
    have e : ((((qcells r s).set 4 (.int .i64 P)).set 3 (.int .i64 J)).set 1 (.int .i64 ((s.data.length : Int) - D))).set 7 (.int .i64 ((s.gone : Int) + n)) = qcells r { s with place := P, first := J, data := s.data.drop D, gone := s.gone + n } := by
      simp only [qcells, List.length_drop, List.set_cons_succ, List.set_cons_zero]
      rw [show ((s.data.length - D : Nat) : Int) = (s.data.length : Int) - D by omega]
      simp
    rw [e] at h
    exact h
  · rw [List.length_drop] at hi
    rw [el_drop, HJ.out, Nat.mod_add_mod, Nat.add_assoc]
    exact r3 _ (by omega)
  · refine ⟨ok.m1, ok.m2, by show (s.data.drop D).length ≤ s.most; rw [List.length_drop]; omega, hJm, fun x hx => ok.bytes x (List.mem_of_mem_drop hx), by show P < 8; rw [HP.out]; omega, by rw [List.length_drop]; show P ≤ _; omega, ok.came, HG.out⟩
end Go.Proofs.Ytnnchmlkgofhpaa
