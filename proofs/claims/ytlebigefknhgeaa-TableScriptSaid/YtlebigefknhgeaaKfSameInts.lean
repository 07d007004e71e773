/- The walk of praxinoscopekit.SameInts: are both lists the same; no conditions. -/
import Derived.Test.YtlebigefknhgeaaKit
import Derived.Test.YtlebigefknhgeaaProg
set_option linter.unusedVariables false
set_option linter.unusedSimpArgs false
namespace Go.Proofs.Ytlebigefknhgeaa
open Go.RowKit

set_option maxHeartbeats 1000000 in
theorem sameInts_ne (w : World) (A A' : Option Addr) (n n' c c' : Nat) (h : n ≠ n') :
    Calls Try.prog 24 #[.slice A n c, .slice A' n' c'] w fun e w' => e = .returned (.bool false) ∧ ∃ m, w' = w.drewN m := by
  have h1 : ((n : Int) == n') = false := beq_eq_false_iff_ne.2 (by omega)
  have h2 : ((n : Int) != n') = true := by rw [bne_iff_ne]; omega
  clear h
  go_enter Try.func24, Try.ntmps24
  go_wp2
  go_ret
  exact ⟨rfl, 0, rfl⟩

set_option maxHeartbeats 1000000 in
theorem sameInts_eq (w : World) (A A' : Option Addr) (c c' : Nat) (a b : List Int) (hl : a.length = b.length) (hm : b.length ≤ 9223372036854775807) (ha : Rd w A (nums .i64 a)) (hb : Rd w A' (nums .i64 b)) :
    Calls Try.prog 24 #[.slice A b.length c, .slice A' b.length c'] w fun e w' => e = .returned (.bool (decide (a = b))) ∧ ∃ m, w' = w.drewN m := by
  have HA := Lib.hid ha
  have HB := Lib.hid hb
  have HL := Lib.hid hl
  clear ha hb hl
  go_enter Try.func24, Try.ntmps24
  go_wp2
  go_loopw [5] (fun i wr => ∃ k m : Nat, k ≤ b.length ∧ i = .int .i64 k ∧ Hid (∀ i, i < k → el a i = el b i) ∧ Hid (wr = w.drewN m)) (fun i _ => b.length - (intOf i).toNat)
  case atStart => exact ⟨0, 0, by omega, rfl, fun _ h => absurd h (by omega), rfl⟩
  case round =>
    obtain ⟨k, m, hk, rfl, hs, hw⟩ := hrel
    by_cases hlt : k < b.length
    · obtain ⟨b1, o1, rfl, hlt1, hc1⟩ := HA.out.at_ (i := k) (by rw [nums_length, HL.out]; exact hlt)
      obtain ⟨b2, o2, rfl, hlt2, hc2⟩ := HB.out.at_ (i := k) (by rw [nums_length]; exact hlt)
      have hx1 : wr.cell? ⟨b1, o1 + k, none⟩ = some (.int .i64 (el a k)) := by rw [hw.out]; exact hc1 k _ (nums_get (by rw [HL.out]; exact hlt))
      have hx2 : wr.cell? ⟨b2, o2 + k, none⟩ = some (.int .i64 (el b k)) := by rw [hw.out]; exact hc2 k _ (nums_get hlt)
      clear hc1 hc2
      have hw2 : ∀ q, wr.drewN q = w.drewN (m + q) := fun q => by rw [hw.out, World.drewN_drewN]
      have HW2 := Lib.hid hw2
      clear hw2
      by_cases he : el a k = el b k
      · have hn : (el a k != el b k) = false := by simp [he]
        have HE := Lib.hid he
        clear he
        go_wp2
        go_quiet (fail)
        go_wp2
        go_roundw
        case rel =>
          refine ⟨k + 1, m + nq, by omega, by go_num, fun i hi => ?_, HW2.out nq⟩
          by_cases h : i = k
          · subst h; exact HE.out
          · exact hs.out i (by omega)
        case measure => simp [intOf]; omega
      · have hn : (el a k != el b k) = true := by simp [he]
        go_wp2
        go_quiet (fail)
        go_wp2
        go_ret
        refine ⟨?_, m + nq, HW2.out nq⟩
        rw [decide_eq_false (fun h => he (by rw [h]))]
        rfl
    · have hab : a = b := list_ext HL.out (fun j hj => hs.out j (by have := HL.out; omega))
      go_wp2
      go_ret
      refine ⟨?_, m, hw.out⟩
      rw [decide_eq_true hab]
      rfl

/-- SameInts tells whether two lists are one. -/
theorem sameInts (w : World) (A A' : Option Addr) (n n' c c' : Nat) (a b : List Int) (hn : a.length = n) (hn' : b.length = n') (hm : n' ≤ 9223372036854775807) (ha : Rd w A (nums .i64 a)) (hb : Rd w A' (nums .i64 b)) :
    Calls Try.prog 24 #[.slice A n c, .slice A' n' c'] w fun e w' => e = .returned (.bool (decide (a = b))) ∧ ∃ m, w' = w.drewN m := by
  subst hn hn'
  by_cases h : a.length = b.length
  · rw [h]; exact sameInts_eq w A A' c c' a b h hm ha hb
  · rw [decide_eq_false (fun h' => h (by rw [h']))]
    exact sameInts_ne w A A' _ _ c c' h
end Go.Proofs.Ytlebigefknhgeaa
