/- The walk of praxinoscopekit.KeptBytes: bytes that were lent, and the marks behind them, are as they were; no conditions but a bound on their length. -/
import Derived.Test.YtnnchmlkgofhpaaKfSameBytes
import Derived.Test.YtnnchmlkgofhpaaKfLentBytes
import Derived.BigRegion
set_option linter.unusedVariables false
set_option linter.unusedSimpArgs false
namespace Go.Proofs.Ytnnchmlkgofhpaa
open Go.RowKit

set_option maxHeartbeats 1000000 in
theorem keptBytesF (w : World) (g : Nat) (A : Option Addr) (n c c' : Nat) (l : List Int) (hn : l.length = n) (hm : n ≤ 1000000) (h4 : n + 4 ≤ c) (hc : c ≤ maxLen) (hg : Row w g (nums .u8 (l ++ marks))) (hr : Rd w A (nums .u8 l)) :
    Calls Try.prog 27 #[.slice (some ⟨g, 0, none⟩) n c, .slice A n c'] w fun e w' => e = .returned (.bool true) ∧ Below w.heap.size w w' := by
  have HG := Lib.hid hg
  have HN := Lib.hid hn
  have HR := Lib.hid hr
  clear hr hn hg
  go_enter Try.func27, Try.ntmps27
  go_wp2
  have hlt := HG.out.lt
  have hcc : n + 4 ≤ c := h4
  have hl : (strOfNums l).toList == (strOfNums l).toList := by simp
  have hd0 : decide ((n : Int) = n) = true := by simp
  have hd1 : ((n : Int) + 4 ≤ (c : Int)) := by omega
  have hd2 : decide ((n : Int) + 4 ≤ c) = true := by simp; omega
  have hw : IntKind.i64.wrap ((n : Int) + 4) = (n : Int) + 4 := IntWalk.i64_in _ (by omega)
  have hd3 : ((n : Int) ≤ (n : Int) + 4) := by omega
  have hd4 : ((n : Int) + 4).toNat = n + 4 := by omega
  have F1 : ∀ W, Row W g (nums .u8 (l ++ marks)) → (convert 22 9 (.slice (some ⟨g, 0, none⟩) n c)).run Try.prog W = .ok (.string (strOfNums l)) W := fun W hW => by
    rw [← HN.out]; exact convert_rd Try.underlying22 Try.underlying5 Try.underlying9 (hW.take (by rw [nums_append]; exact List.prefix_append _ _)).rd
  have F2 : ∀ W, Rd W A (nums .u8 l) → (convert 22 9 (.slice A n c')).run Try.prog W = .ok (.string (strOfNums l)) W := fun W hW => by
    rw [← HN.out]; exact convert_rd Try.underlying22 Try.underlying5 Try.underlying9 hW
  have F3 : ∀ W, Row W g (nums .u8 (l ++ marks)) → (convert 22 9 (.slice (some ⟨g, n, none⟩) 4 (c - n))).run Try.prog W = .ok (.string (strOfNums marks)) W := fun W hW =>
    convert_rd (l := marks) Try.underlying22 Try.underlying5 Try.underlying9 (.inr ⟨g, n, rfl, hW.lt, fun j v hj => hW.cell (by rw [nums_append, List.getElem?_append_right (by rw [nums_length, HN.out]; omega), nums_length, HN.out, Nat.add_sub_cancel_left]; exact hj)⟩)
  have F4 : ∀ W, Row W w.heap.size (nums .u8 marks) → (convert 22 9 (.slice (some ⟨w.heap.size, 0, none⟩) 4 4)).run Try.prog W = .ok (.string (strOfNums marks)) W := fun W hW =>
    convert_rd (l := marks) Try.underlying22 Try.underlying5 Try.underlying9 hW.rd
  have G1 := F1 w.drew HG.out
  have G2 := F2 w.drew HR.out
  have G3 := F3 w.drew HG.out
  have G4 := F4 (w.alloc (.cells #[Value.int IntKind.u8 201, Value.int IntKind.u8 202, Value.int IntKind.u8 203, Value.int IntKind.u8 204] 5)).drew (Blk.new w 5 (nums .u8 marks)).row_
  have G5 := F3 (w.alloc (.cells #[Value.int IntKind.u8 201, Value.int IntKind.u8 202, Value.int IntKind.u8 203, Value.int IntKind.u8 204] 5)).drew (HG.out.alloc (.cells #[Value.int IntKind.u8 201, Value.int IntKind.u8 202, Value.int IntKind.u8 203, Value.int IntKind.u8 204] 5))
  have hne : ¬ (c = n) := by omega
  clear F1 F2 F3 F4
  generalize strOfNums l = sl at *
  generalize strOfNums marks = sm at *
  go_region
  go_wp2
  go_ret
  exact ⟨rfl, below_drewN (below_alloc (Below.refl w.heap.size w) _) 1⟩
end Go.Proofs.Ytnnchmlkgofhpaa
