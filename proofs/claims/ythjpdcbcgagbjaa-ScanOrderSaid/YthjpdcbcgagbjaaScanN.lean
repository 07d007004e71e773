/- The walk of ScanOrder: each place once, by diagonals, to and fro; for every input. -/
import Derived.Test.YthjpdcbcgagbjaaScanK
import Derived.Test.YthjpdcbcgagbjaaKfPick
set_option linter.unusedVariables false
set_option linter.unusedSimpArgs false
namespace Go.Proofs.Ythjpdcbcgagbjaa
open Go.RowKit

/-- The order's law at numbers from 0 on. -/
theorem order_nat (i k x y : Nat) (hi : i < 64) (hk : k < 64) (hx : el orderL i = x) (hy : el orderL k = y) : (x < 64 ∧ y < 64) ∧ (x = y ↔ i = k) ∧
    (i < k → x % 8 + x / 8 ≤ y % 8 + y / 8) ∧ (i < k → x % 8 + x / 8 = y % 8 + y / 8 → (y / 8 < x / 8 ↔ (x % 8 + x / 8) % 2 = 0)) := by
  have h := order_law i k hi hk
  have h1 := order_bd i hi
  have h2 := order_bd k hk
  rw [hx, hy] at h
  rw [hx] at h1
  rw [hy] at h2
  refine ⟨⟨by omega, by omega⟩, ⟨fun e => h.1.1 (by omega), fun e => by have := h.1.2 e; omega⟩, fun e => by have := h.2.1 e; omega, fun e e2 => ?_⟩
  have := h.2.2 e (by omega)
  omega

set_option maxHeartbeats 8000000 in
theorem scanOrder_walk (a0 a1 : Int) (w : World) (w0 : (Lit.int .i64 a0).wf = true) (w1 : (Lit.int .i64 a1).wf = true) :
    Calls Try.prog 6 #[.int .i64 a0, .int .i64 a1] w fun e w' => e = .returned (.bool true) ∧ Below w.heap.size w w' := by
  obtain ⟨i, hi⟩ : ∃ i : Nat, (i : Int) = pick a0 64 := ⟨(pick a0 64).toNat, by have := pick_bd a0 64 (by omega); omega⟩
  obtain ⟨k, hk⟩ : ∃ k : Nat, (k : Int) = pick a1 64 := ⟨(pick a1 64).toNat, by have := pick_bd a1 64 (by omega); omega⟩
  have hi64 : i < 64 := by have := pick_bd a0 64 (by omega); omega
  have hk64 : k < 64 := by have := pick_bd a1 64 (by omega); omega
  obtain ⟨x, hx⟩ : ∃ x : Nat, el orderL i = x := ⟨(el orderL i).toNat, by have := order_bd i hi64; omega⟩
  obtain ⟨y, hy⟩ : ∃ y : Nat, el orderL k = y := ⟨(el orderL k).toNat, by have := order_bd k hk64; omega⟩
  have HI := Lib.hid hi
  have HK := Lib.hid hk
  have HX := Lib.hid hx
  have HY := Lib.hid hy
  obtain ⟨⟨hx64, hy64⟩, l1, l2, l3⟩ := order_nat i k x y hi64 hk64 hx hy
  have HP := Lib.hid (place_ok · i hi64)
  have HQ := Lib.hid (place_ok · k hk64)
  rw [hx] at HP
  rw [hy] at HQ
  clear hi hk hx hy w0 w1
  go_enter Try.func6, Try.ntmps6
  go_wp2_with fail
  refine (knownF _).mono ?_
  rintro e w1 ⟨rfl, hb1⟩
  have HB1 := Lib.hid hb1
  clear hb1
  go_wp2_with fail
  refine (pickF _ a0 64 (by omega) (by omega)).mono ?_
  rintro e w2 ⟨rfl, rfl⟩
  rw [← HI.out]
  go_wp2_with fail
  refine (pickF _ a1 64 (by omega) (by omega)).mono ?_
  rintro e w2 ⟨rfl, rfl⟩
  rw [← HK.out]
  go_wp2_with fail
  refine (HP.out _).mono ?_
  rintro e w2 ⟨rfl, hb2⟩
  have HB2 := Lib.hid (below_then HB1.out hb2)
  clear hb2
  go_wp2_with fail
  refine (HQ.out _).mono ?_
  rintro e w3 ⟨rfl, hb3⟩
  have HB3 := Lib.hid (below_then HB2.out hb3)
  clear hb3 HB1 HB2 HP HQ HI HK HX HY
  by_cases hlt : i < k
  · have hxy : x ≠ y := fun h => by have := l1.1 h; omega
    have d1 : ((x : Int) == y) = false := beq_eq_false_iff_ne.2 (by omega)
    have d2 : ((i : Int) == k) = false := beq_eq_false_iff_ne.2 (by omega)
    have l2 := l2 hlt
    have l3 := l3 hlt
    by_cases hs : x % 8 + x / 8 = y % 8 + y / 8
    · have l3 := l3 hs
      by_cases hp : y / 8 < x / 8
      · have hq := l3.1 hp
        have b1 : decide ((y : Int) / 8 < (x : Int) / 8) = true := by rw [decide_eq_true_iff]; omega
        have b2 : (((y : Int) % 8 + (y : Int) / 8) % 2 == 0) = true := by rw [beq_iff_eq]; omega
        have b3 : (!decide ((y : Int) / 8 < (x : Int) / 8) == (((y : Int) % 8 + (y : Int) / 8) % 2 == 0)) = false := by rw [b1, b2]; rfl
        clear l1 l2 l3 b1 b2 hp hq
        go_wp2
        all_goals (go_ret; exact ⟨rfl, HB3.out⟩)
      · have hq : ¬ (x % 8 + x / 8) % 2 = 0 := fun h => hp (l3.2 h)
        have b1 : decide ((y : Int) / 8 < (x : Int) / 8) = false := by rw [decide_eq_false_iff_not]; omega
        have b2 : (((y : Int) % 8 + (y : Int) / 8) % 2 == 0) = false := beq_eq_false_iff_ne.2 (by omega)
        have b3 : (!decide ((y : Int) / 8 < (x : Int) / 8) == (((y : Int) % 8 + (y : Int) / 8) % 2 == 0)) = false := by rw [b1, b2]; rfl
        clear l1 l2 l3 b1 b2 hp hq
        go_wp2
        all_goals (go_ret; exact ⟨rfl, HB3.out⟩)
    · clear l1 l3
      go_wp2
      all_goals (go_ret; exact ⟨rfl, HB3.out⟩)
  · by_cases he : i = k
    · have hxy : x = y := l1.2 he
      have d1 : ((x : Int) == y) = true := by rw [beq_iff_eq]; omega
      have d2 : ((i : Int) == k) = true := by rw [beq_iff_eq]; omega
      clear l1 l2 l3 he hxy
      go_wp2
      go_ret
      exact ⟨rfl, HB3.out⟩
    · have hxy : x ≠ y := fun h => he (l1.1 h)
      have d1 : ((x : Int) == y) = false := beq_eq_false_iff_ne.2 (by omega)
      have d2 : ((i : Int) == k) = false := beq_eq_false_iff_ne.2 (by omega)
      clear l1 l2 l3 he hxy
      go_wp2
      go_ret
      exact ⟨rfl, HB3.out⟩
end Go.Proofs.Ythjpdcbcgagbjaa
