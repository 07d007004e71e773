/- What spreads and runs are, over lists and numbers alone; no conditions. -/
import Derived.Test.YthjpdcbcgagbjaaScanA
set_option linter.unusedVariables false
set_option linter.unusedSimpArgs false
namespace Go.Proofs.Ythjpdcbcgagbjaa

/-- Pairs, spread from a place on: the block and the error. -/
def spreadGo : List (Int × Int) → Int → List Int → List Int × Int
  | [], _, out => (out, 0)
  | p :: t, at_, out =>
    if p.2 = 0 ∨ p.2 < -127 ∨ 127 < p.2 then ([], 10)
    else if p.1 < 0 ∨ 63 - at_ < p.1 then ([], 11)
    else spreadGo t (at_ + p.1 + 1) (out.set (el orderL (at_ + p.1).toNat).toNat p.2)
def zeros : List Int := List.replicate 64 0
def spreadOf (l : List (Int × Int)) (first : Int) : List Int × Int := if first = 0 ∨ first = 1 then spreadGo l first zeros else ([], 3)
/-- Runs of a block's numbers, from a place on. -/
def runsGo (block : List Int) : List Int → Int → List (Int × Int) → List (Int × Int)
  | [], _, out => out
  | p :: t, run, out => if el block p.toNat = 0 then runsGo block t (run + 1) out else runsGo block t 0 (out ++ [(run, el block p.toNat)])
/-- Pairs as cells. -/
def pairsV (l : List (Int × Int)) : List Value := l.flatMap fun p => [.int .i64 p.1, .int .i64 p.2]
theorem pairsV_len (l : List (Int × Int)) : (pairsV l).length = 2 * l.length := by
  induction l with
  | nil => rfl
  | cons p t ih => simp [pairsV] at ih ⊢; omega
theorem pairsV_append (l m : List (Int × Int)) : pairsV (l ++ m) = pairsV l ++ pairsV m := by simp [pairsV]
theorem pairsV_get (l : List (Int × Int)) (k : Nat) (p : Int × Int) (h : l[k]? = some p) : (pairsV l)[2 * k]? = some (.int .i64 p.1) ∧ (pairsV l)[2 * k + 1]? = some (.int .i64 p.2) := by
  induction l generalizing k with
  | nil => simp at h
  | cons q t ih =>
    cases k with
    | zero =>
      simp at h
      subst h
      exact ⟨rfl, rfl⟩
    | succ k =>
      have := ih k (by simpa using h)
      have e : pairsV (q :: t) = .int .i64 q.1 :: .int .i64 q.2 :: pairsV t := rfl
      rw [e, show 2 * (k + 1) = 2 * k + 1 + 1 by omega, show 2 * k + 1 + 1 + 1 = (2 * k + 1) + 1 + 1 by omega]
      simpa using this
end Go.Proofs.Ythjpdcbcgagbjaa
