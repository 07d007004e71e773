/- The walk of praxinoscopekit.CopyInts: a list of one's own like it; no conditions but a bound on its length. -/
import Derived.Test.YthjpdcbcgagbjaaKit
import Derived.Test.YthjpdcbcgagbjaaProg
set_option linter.unusedVariables false
set_option linter.unusedSimpArgs false
namespace Go.Proofs.Ythjpdcbcgagbjaa
open Go.RowKit

theorem nums_cells {k : IntKind} {xs : List Int} : ∀ v ∈ nums k xs, v.oneCell' = true := by
  intro v hv
  obtain ⟨x, _, rfl⟩ := List.mem_map.1 hv
  rfl
theorem infoInt : (Try.prog.info? 3).map (fun i => (i.zero, i.size, i.bytes)) = some (some (.int .i64 0), 1, 8) := by kernel_rfl
/-- A slice that is made empty. -/
theorem Own.empty (w : World) (base : Nat) (e : TypeId) (hb : base ≤ w.heap.size) : Own (w.alloc (.cells #[] e)) base e (.slice (some ⟨w.heap.size, 0, none⟩) 0 0) [] :=
  ⟨rfl, .inr ⟨w.heap.size, 0, #[], rfl, hb, heap_alloc_new w _, Nat.le_refl _, by simp [maxLen], rfl, rfl⟩⟩

set_option maxHeartbeats 1000000 in
theorem copyIntsF (w : World) (A : Option Addr) (n c : Nat) (l : List Int) (hn : l.length = n) (hm : n ≤ 1000000) (hr : Rd w A (nums .i64 l)) :
    Calls Try.prog 17 #[.slice A n c] w fun e w' => (∃ v, e = .returned v ∧ Own w' w.heap.size 3 v (nums .i64 l)) ∧ Below w.heap.size w w' := by
  have HB := Lib.hid (below_alloc (Below.refl w.heap.size w) (.cells #[] 3))
  have HE := Lib.hid (Own.empty w w.heap.size 3 (Nat.le_refl _))
  have HR := Lib.hid (hr.below HB.out)
  have HN := Lib.hid hn
  clear hr hn
  go_enter Try.func17, Try.ntmps17
  go_wp2_with (refine append_many rfl (.tmp 3) (.tmp 4) 24 3 (.int .i64 0) 8 rfl Try.underlying24 infoInt rfl w.heap.size (.slice (some ⟨w.heap.size, 0, none⟩) 0 0) [] A n c (nums .i64 l) rfl rfl HE.out (by rw [nums_length, HN.out]) HR.out nums_cells (by simp) (by simp [maxLen]; omega) (by simp; omega) ?_; intro v1 w1 hown1 hg1)
  have hbel := HB.out.grown hg1 (by simp) (fun k hk => by simp [Value.ownBlock] at hk; omega)
  go_wp2
  go_ret
  exact ⟨⟨_, rfl, by simpa using hown1⟩, hbel⟩
end Go.Proofs.Ythjpdcbcgagbjaa
