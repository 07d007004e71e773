/- A list of pairs that came in, opened; no conditions. -/
import Derived.Test.YthjpdcbcgagbjaaOpenS
import Derived.Test.YthjpdcbcgagbjaaScanP
import Derived.Test.YthjpdcbcgagbjaaProg
set_option linter.unusedVariables false
set_option linter.unusedSimpArgs false
namespace Go.Proofs.Ythjpdcbcgagbjaa
open Go.Deep Go.ChangeShapes Go.WideShapes

/-- A slice that leads to pairs of numbers. -/
def IsPairs (w : World) (a : Option Addr) (len cap : Nat) (zs : List (Int × Int)) : Prop :=
  zs.length = len ∧ len ≤ cap ∧ cap ≤ maxLen ∧ Rd w a (pairsV zs) ∧ ∀ p ∈ zs, (-9223372036854775808 ≤ p.1 ∧ p.1 ≤ 9223372036854775807) ∧ (-9223372036854775808 ≤ p.2 ∧ p.2 ≤ 9223372036854775807)

theorem pairs_rows (n : Nat) (f : Nat → Int × Int) : pairsV ((List.range n).map f) = rowsV n 2 (fun i j => if j = 0 then .int .i64 (f i).1 else .int .i64 (f i).2) := by
  unfold pairsV rowsV
  rw [List.flatMap_map]
  rfl

theorem open_pairs {H : Type} {enc : TypeId × Value → H} {w : World} {base : Nat} {spare : Nat → Bool} {held : Bool} {fuel : Nat} {a : Option Addr} {len cap : Nat} {x : DataW H × List MemPlace}
    (h : DataW.trod enc Try.prog w base spare held fuel 22 [.slice a len cap] = some x) : ∃ zs, IsPairs w a len cap zs := by
  rcases open_structs (fs := #[⟨ "Run", 3, 0, false, "", "", 0⟩, ⟨ "Level", 3, 1, false, "", "", 8⟩]) Try.underlying22 Try.underlying39 (by kernel_rfl) (by kernel_rfl) (by decide) h with h0 | ⟨ad, len', cap', n, V, h0, hl, hm, hr, hV⟩
  · simp only [List.cons.injEq, Value.slice.injEq, and_true] at h0
    obtain ⟨rfl, rfl, rfl⟩ := h0
    exact ⟨[], rfl, Nat.le_refl _, by simp [maxLen], .nil _ _, by simp⟩
  · simp only [List.cons.injEq, Value.slice.injEq, and_true] at h0
    obtain ⟨rfl, rfl, rfl⟩ := h0
    have key : ∀ i, i < len → ∃ p : Int × Int, V i 0 = .int .i64 p.1 ∧ V i 1 = .int .i64 p.2 ∧ (-9223372036854775808 ≤ p.1 ∧ p.1 ≤ 9223372036854775807) ∧ (-9223372036854775808 ≤ p.2 ∧ p.2 ≤ 9223372036854775807) := by
      intro i hi
      obtain ⟨z0, e0, w0⟩ := open_num Try.underlying3 (hV i hi 0 _ rfl)
      obtain ⟨z1, e1, w1⟩ := open_num Try.underlying3 (hV i hi 1 _ rfl)
      exact ⟨(z0, z1), e0, e1, i64_of_wf w0, i64_of_wf w1⟩
    obtain ⟨f, hf⟩ := choose_lt key
    refine ⟨(List.range len).map f, by simp, hl, hm, ?_, ?_⟩
    · rw [pairs_rows]
      have e : rowsV len 2 (fun i j => if j = 0 then .int .i64 (f i).1 else .int .i64 (f i).2) = rowsV len 2 V := by
        unfold rowsV
        apply flatMap_congr_range
        intro i hi
        have h1 := hf i hi
        show [Value.int .i64 (f i).1, Value.int .i64 (f i).2] = [V i 0, V i 1]
        rw [h1.1, h1.2.1]
      rw [e]
      exact hr
    · intro p hp
      obtain ⟨i, hi, rfl⟩ := List.mem_map.1 hp
      exact (hf i (List.mem_range.1 hi)).2.2
end Go.Proofs.Ythjpdcbcgagbjaa
