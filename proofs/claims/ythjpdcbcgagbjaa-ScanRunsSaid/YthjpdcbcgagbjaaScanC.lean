/- The walks of scan.Place, scan.level, and the reference's order and Place; no conditions. -/
import Derived.Test.YthjpdcbcgagbjaaScanB
set_option linter.unusedVariables false
set_option linter.unusedSimpArgs false
namespace Go.Proofs.Ythjpdcbcgagbjaa
open Go.RowKit

theorem order_bd (i : Nat) (h : i < 64) : 0 ≤ el orderL i ∧ el orderL i ≤ 63 := by
  have : ∀ i : Fin 64, 0 ≤ el orderL i.1 ∧ el orderL i.1 ≤ 63 := by rw [orderL_eq]; decide +kernel
  exact this ⟨i, h⟩

set_option maxHeartbeats 1000000 in
theorem place_no (w : World) (i : Int) (h : i < 0 ∨ 63 < i) :
    Calls Try.prog 12 #[.int .i64 i] w fun e w' => e = .returned (.tuple #[.int .i64 0, .int .i64 3]) ∧ Below w.heap.size w w' := by
  by_cases h1 : i < 0
  · clear h
    go_enter Try.func12, Try.ntmps12
    go_wp2
    go_ret2
    exact ⟨rfl, Below.refl _ _⟩
  · have h2 : 63 < i := by omega
    clear h
    go_enter Try.func12, Try.ntmps12
    go_wp2
    go_ret2
    exact ⟨rfl, Below.refl _ _⟩

set_option maxHeartbeats 1000000 in
theorem place_ok (w : World) (i : Nat) (h : i < 64) :
    Calls Try.prog 12 #[.int .i64 i] w fun e w' => e = .returned (.tuple #[.int .i64 (el orderL i), .int .i64 0]) ∧ Below w.heap.size w w' := by
  have h1 : (i : Int) ≤ 63 := by omega
  have hix := run_index_agg (P := Try.prog) 48 3 64 (nums .i64 orderL) .i64 .i64 i _ Try.underlying48 (by rw [nums_length, orderL_len]) Try.underlying3 (by kernel_rfl) (nums_get (by rw [orderL_len]; exact h))
  go_enter Try.func12, Try.ntmps12
  go_wp2_with fail
  refine (placesF _).mono ?_
  rintro e w1 ⟨rfl, hb1⟩
  go_wp2
  go_ret2
  exact ⟨rfl, hb1⟩

set_option maxHeartbeats 1000000 in
theorem levelF (w : World) (n : Int) :
    Calls Try.prog 26 #[.int .i64 n] w fun e w' => e = .returned (.bool (decide (-127 ≤ n ∧ n ≤ 127))) ∧ w' = w := by
  by_cases h1 : -127 ≤ n
  · by_cases h2 : n ≤ 127
    · have e : decide (-127 ≤ n ∧ n ≤ 127) = true := by rw [decide_eq_true_iff]; exact ⟨h1, h2⟩
      rw [e]
      clear e
      go_enter Try.func26, Try.ntmps26
      go_wp2
      go_ret
      exact ⟨rfl, rfl⟩
    · have e : decide (-127 ≤ n ∧ n ≤ 127) = false := by rw [decide_eq_false_iff_not]; omega
      rw [e]
      clear e
      have h3 : decide (n ≤ 127) = false := by rw [decide_eq_false_iff_not]; exact h2
      go_enter Try.func26, Try.ntmps26
      go_wp2
      go_ret
      refine ⟨?_, rfl⟩
      rw [← h3]
      rfl
  · have e : decide (-127 ≤ n ∧ n ≤ 127) = false := by rw [decide_eq_false_iff_not]; omega
    rw [e]
    clear e
    have h3 : n < -127 := by omega
    clear h1
    go_enter Try.func26, Try.ntmps26
    go_wp2
    go_ret
    exact ⟨rfl, rfl⟩

set_option maxHeartbeats 1000000 in
set_option maxRecDepth 100000 in
theorem refOrderF (w : World) :
    Calls Try.prog 27 #[] w fun e w' => e = .returned (.slice (some ⟨w.heap.size, 0, none⟩) 64 64) ∧ Blk w' w.heap.size 3 (nums .i64 orderL) ∧ Below w.heap.size w w' := by
  go_enter Try.func27, Try.ntmps27
  go_wp2
  go_ret
  have h := Blk.new w 3 (nums .i64 orderL)
  rw [orderL_eq] at h
  rw [orderL_eq]
  exact ⟨rfl, h, below_alloc (Below.refl _ _) _⟩

set_option maxHeartbeats 1000000 in
theorem refPlace_no (w : World) (i : Int) (h : i < 0 ∨ 63 < i) :
    Calls Try.prog 13 #[.int .i64 i] w fun e w' => e = .returned (.tuple #[.int .i64 0, .int .i64 3]) ∧ Below w.heap.size w w' := by
  by_cases h1 : i < 0
  · clear h
    go_enter Try.func13, Try.ntmps13
    go_wp2
    go_ret2
    exact ⟨rfl, Below.refl _ _⟩
  · have h2 : 63 < i := by omega
    clear h
    go_enter Try.func13, Try.ntmps13
    go_wp2
    go_ret2
    exact ⟨rfl, Below.refl _ _⟩

set_option maxHeartbeats 1000000 in
theorem refPlace_ok (w : World) (i : Nat) (h : i < 64) :
    Calls Try.prog 13 #[.int .i64 i] w fun e w' => e = .returned (.tuple #[.int .i64 (el orderL i), .int .i64 0]) ∧ Below w.heap.size w w' := by
  have h1 : (i : Int) ≤ 63 := by omega
  have h2 : (i : Int) < 64 := by omega
  go_enter Try.func13, Try.ntmps13
  go_wp2_with fail
  refine (refOrderF _).mono ?_
  rintro e w1 ⟨rfl, hA, hb1⟩
  have hc := hA.cell (nums_get (i := i) (by rw [orderL_len]; exact h))
  go_wp2
  go_ret2
  exact ⟨rfl, hb1⟩
end Go.Proofs.Ythjpdcbcgagbjaa
