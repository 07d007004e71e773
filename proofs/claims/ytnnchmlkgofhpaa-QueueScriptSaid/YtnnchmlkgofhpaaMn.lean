/- The builtin min at numbers from nought on; no conditions. -/
import Derived.Test.YtnnchmlkgofhpaaKit
set_option linter.unusedVariables false
set_option linter.unusedSimpArgs false
namespace Go.Proofs.Ytnnchmlkgofhpaa
theorem min_nat (ats : Array TypeId) (ty : TypeId) (k : IntKind) (a b : Nat) : Builtin.min_ ats ty #[.int k (a : Int), .int k (b : Int)] = pure (.int k ((min a b : Nat) : Int)) := by
  simp only [Builtin.min_, List.foldlM_cons, List.foldlM_nil, Builtin.min2]
  have e : ((min a b : Nat) : Int) = if (b : Int) < a then (b : Int) else a := by
    by_cases h : b < a
    · rw [if_pos (by omega), Nat.min_eq_right (by omega)]
    · rw [if_neg (by omega), Nat.min_eq_left (by omega)]
  rw [e]
  first
    | rfl
    | (by_cases h : (b : Int) < a
       · simp [h]; rfl
       · simp [h]; rfl)
end Go.Proofs.Ytnnchmlkgofhpaa
