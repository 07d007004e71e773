/- The walk of praxinoscopekit.Pick: one of the numbers from 0 on below n; n at least 1. -/
import Derived.Test.YtnnchmlkgofhpaaKit
import Derived.Test.YtnnchmlkgofhpaaProg
set_option linter.unusedVariables false
set_option linter.unusedSimpArgs false
namespace Go.Proofs.Ytnnchmlkgofhpaa
open Go.RowKit

/-- What Pick tells, for n at least 1. -/
def pick (x n : Int) : Int := if x.tmod n < 0 then x.tmod n + n else x.tmod n
theorem pick_bd (x n : Int) (hn : 0 < n) : 0 ≤ pick x n ∧ pick x n < n := by
  have h1 := Int.tmod_lt_of_pos x hn
  have h2 : -n < x.tmod n := Int.lt_tmod_of_pos x hn
  unfold pick
  split <;> omega
set_option maxHeartbeats 1000000 in
theorem pickF (w : World) (x n : Int) (hn : 0 < n) (hm : n ≤ 4611686018427387904) :
    Calls Try.prog 9 #[.int .i64 x, .int .i64 n] w fun e w' => e = .returned (.int .i64 (pick x n)) ∧ w = w' := by
  have h1 := Int.tmod_lt_of_pos x hn
  have h2 : -n < x.tmod n := Int.lt_tmod_of_pos x hn
  by_cases h : x.tmod n < 0
  · have e : pick x n = x.tmod n + n := by unfold pick; rw [if_pos h]
    rw [e]
    clear e
    go_enter Try.func9, Try.ntmps9
    go_wp2
    go_ret
    exact ⟨rfl, rfl⟩
  · have e : pick x n = x.tmod n := by unfold pick; rw [if_neg h]
    rw [e]
    clear e
    go_enter Try.func9, Try.ntmps9
    go_wp2
    go_ret
    exact ⟨rfl, rfl⟩
end Go.Proofs.Ytnnchmlkgofhpaa
