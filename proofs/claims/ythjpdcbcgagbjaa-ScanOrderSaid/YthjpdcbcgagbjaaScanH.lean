/- What Spread, Runs and Place tell, whatever comes in; no conditions but a bound on the length. -/
import Derived.Test.YthjpdcbcgagbjaaScanE
import Derived.Test.YthjpdcbcgagbjaaScanG
import Derived.Test.YthjpdcbcgagbjaaScanL
set_option linter.unusedVariables false
set_option linter.unusedSimpArgs false
namespace Go.Proofs.Ythjpdcbcgagbjaa
open Go.RowKit

instance (l : List Int) : Decidable (okB l) := by unfold okB; infer_instance
/-- What Runs tells. -/
def runsOf (l : List Int) (f : Int) : List (Int × Int) × Int :=
  if f = 0 ∨ f = 1 then (if l.length = 64 ∧ (f = 1 → el l 0 = 0) then (if okB l then (runsGo l (orderL.drop f.toNat) 0 [], 0) else ([], 10)) else ([], 2)) else ([], 3)
def placeOf (i : Int) : Int × Int := if i < 0 ∨ 63 < i then (0, 3) else (el orderL i.toNat, 0)

theorem runsF (w : World) (A : Option Addr) (n c : Nat) (l : List Int) (hn : l.length = n) (hr : Rd w A (nums .i64 l)) (f : Int) :
    Calls Try.prog 18 #[.slice A n c, .int .i64 f] w (ToldP w (runsOf l f).1 (runsOf l f).2) := by
  unfold runsOf
  by_cases h : f = 0 ∨ f = 1
  · obtain ⟨g, rfl, hg⟩ : ∃ g : Nat, f = g ∧ g ≤ 1 := ⟨f.toNat, by omega, by omega⟩
    rw [if_pos h]
    by_cases h64 : n = 64
    · subst h64
      by_cases h0 : ((g : Int) = 1 → el l 0 = 0)
      · rw [if_pos ⟨hn, h0⟩]
        refine (runs_ok w A c l hn hr g hg (fun h1 => h0 (by omega))).mono fun e w' h => ?_
        rcases h with ⟨h1, h2⟩ | ⟨h1, h2⟩
        · rw [if_pos h1]; exact h2
        · rw [if_neg h1]; exact h2
      · rw [if_neg (fun h => h0 h.2)]
        have h1 : (g : Int) = 1 := by
          by_cases h1 : (g : Int) = 1
          · exact h1
          · exact absurd (fun h => absurd h h1) h0
        rw [h1]
        exact runs_first w A c l hn hr (fun h => h0 (fun _ => h))
    · rw [if_neg (fun h => h64 (by rw [← hn]; exact h.1))]
      exact runs_len w A n c g hg h64
  · rw [if_neg h]
    exact runs_range w A n c f h

theorem refRunsF (w : World) (A : Option Addr) (n c : Nat) (l : List Int) (hn : l.length = n) (hr : Rd w A (nums .i64 l)) (f : Int) :
    Calls Try.prog 19 #[.slice A n c, .int .i64 f] w (ToldP w (runsOf l f).1 (runsOf l f).2) := by
  unfold runsOf
  by_cases h : f = 0 ∨ f = 1
  · obtain ⟨g, rfl, hg⟩ : ∃ g : Nat, f = g ∧ g ≤ 1 := ⟨f.toNat, by omega, by omega⟩
    rw [if_pos h]
    by_cases h64 : n = 64
    · subst h64
      by_cases h0 : ((g : Int) = 1 → el l 0 = 0)
      · rw [if_pos ⟨hn, h0⟩]
        refine (refRuns_ok w A c l hn hr g hg (fun h1 => h0 (by omega))).mono fun e w' h => ?_
        rcases h with ⟨h1, h2⟩ | ⟨h1, h2⟩
        · rw [if_pos h1]; exact h2
        · rw [if_neg h1]; exact h2
      · rw [if_neg (fun h => h0 h.2)]
        have h1 : (g : Int) = 1 := by
          by_cases h1 : (g : Int) = 1
          · exact h1
          · exact absurd (fun h => absurd h h1) h0
        rw [h1]
        exact refRuns_first w A c l hn hr (fun h => h0 (fun _ => h))
    · rw [if_neg (fun h => h64 (by rw [← hn]; exact h.1))]
      exact refRuns_len w A n c g hg h64
  · rw [if_neg h]
    exact refRuns_range w A n c f h

theorem spreadF (w : World) (A : Option Addr) (n c : Nat) (l : List (Int × Int)) (hn : l.length = n) (hm : n ≤ 1000000) (hr : Rd w A (pairsV l)) (f : Int) :
    Calls Try.prog 10 #[.slice A n c, .int .i64 f] w (Told w (nums .i64 (spreadOf l f).1) (spreadOf l f).2) := by
  unfold spreadOf
  by_cases h : f = 0 ∨ f = 1
  · obtain ⟨g, rfl, hg⟩ : ∃ g : Nat, f = g ∧ g ≤ 1 := ⟨f.toNat, by omega, by omega⟩
    rw [if_pos h]
    exact spread_ok w A n c l hn hm hr g hg
  · rw [if_neg h]
    exact spread_range w A n c f h
theorem refSpreadF (w : World) (A : Option Addr) (n c : Nat) (l : List (Int × Int)) (hn : l.length = n) (hm : n ≤ 1000000) (hr : Rd w A (pairsV l)) (f : Int) :
    Calls Try.prog 11 #[.slice A n c, .int .i64 f] w (Told w (nums .i64 (spreadOf l f).1) (spreadOf l f).2) := by
  unfold spreadOf
  by_cases h : f = 0 ∨ f = 1
  · obtain ⟨g, rfl, hg⟩ : ∃ g : Nat, f = g ∧ g ≤ 1 := ⟨f.toNat, by omega, by omega⟩
    rw [if_pos h]
    exact refSpread_ok w A n c l hn hm hr g hg
  · rw [if_neg h]
    exact refSpread_range w A n c f h

theorem placeF (w : World) (i : Int) :
    Calls Try.prog 12 #[.int .i64 i] w fun e w' => e = .returned (.tuple #[.int .i64 (placeOf i).1, .int .i64 (placeOf i).2]) ∧ Below w.heap.size w w' := by
  unfold placeOf
  by_cases h : i < 0 ∨ 63 < i
  · rw [if_pos h]; exact place_no w i h
  · rw [if_neg h]
    have := place_ok w i.toNat (by omega)
    rwa [show ((i.toNat : Nat) : Int) = i by omega] at this
theorem refPlaceF (w : World) (i : Int) :
    Calls Try.prog 13 #[.int .i64 i] w fun e w' => e = .returned (.tuple #[.int .i64 (placeOf i).1, .int .i64 (placeOf i).2]) ∧ Below w.heap.size w w' := by
  unfold placeOf
  by_cases h : i < 0 ∨ 63 < i
  · rw [if_pos h]; exact refPlace_no w i h
  · rw [if_neg h]
    have := refPlace_ok w i.toNat (by omega)
    rwa [show ((i.toNat : Nat) : Int) = i by omega] at this
theorem runsOf_len (l : List Int) (f : Int) : (runsOf l f).1.length ≤ 64 := by
  unfold runsOf
  split
  · split
    · split
      · have := go_len l (orderL.drop f.toNat) 0 []
        have h2 : (orderL.drop f.toNat).length ≤ 64 := by rw [List.length_drop, ord_len]; omega
        simp only [List.length_nil] at this
        show (runsGo l (orderL.drop f.toNat) 0 []).length ≤ 64
        omega
      · simp
    · simp
  · simp
theorem spreadOf_len (l : List (Int × Int)) (f : Int) : (spreadOf l f).1.length ≤ 64 := by
  unfold spreadOf
  split
  · have := spread_err l f zeros (by simp [zeros])
    by_cases h : (spreadGo l f zeros).2 = 0
    · rw [this.1 h]; omega
    · rw [this.2 h]; simp
  · simp
end Go.Proofs.Ythjpdcbcgagbjaa
