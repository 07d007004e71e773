/- The walks of praxinoscopelaw09's awake and ScanKnown: the chapter's examples; no conditions. -/
import Derived.Test.YthjpdcbcgagbjaaScanI
set_option linter.unusedVariables false
set_option linter.unusedSimpArgs false
namespace Go.Proofs.Ythjpdcbcgagbjaa
open Go.RowKit

def exL : List (Int × Int) := [(0, 5), (1, -2)]
/-- A new block of numbers, told as a slice. -/
theorem newRd (w : World) (T : TypeId) (cs : List Value) : Rd (w.alloc (.cells cs.toArray T)) (some ⟨w.heap.size, 0, none⟩) cs := (Blk.new w T cs).row_.rd

theorem newRd2 (w : World) (T T' : TypeId) (cs cs' : List Value) : Rd ((w.alloc (.cells cs.toArray T)).alloc (.cells cs'.toArray T')) (some ⟨w.heap.size + 1, 0, none⟩) cs' := by
  have h := newRd (w.alloc (.cells cs.toArray T)) T' cs'
  rwa [World.size_alloc] at h
theorem at_ok (l : List Int) (h : ((List.range (l.length / 2)).all fun k => decide (0 ≤ el l (2 * k) ∧ el l (2 * k) < 64)) = true) : ∀ k, 2 * k + 1 < l.length → 0 ≤ el l (2 * k) ∧ el l (2 * k) < 64 := fun k hk => by
  have := List.all_eq_true.1 h k (List.mem_range.2 (by omega))
  exact of_decide_eq_true this
theorem blk_c : spreadOf exL 0 = (blkL [0, 5, 8, -2] 2, 0) := by decide +kernel
theorem blk_b : runsOf (blkL [0, 5, 8, -2] 2) 0 = (exL, 0) := by decide +kernel

set_option maxHeartbeats 4000000 in
theorem awakeF (w : World) : Calls Try.prog 9 #[] w fun e w' => e = .returned (.bool true) ∧ Below w.heap.size w w' := by
  have HP := Lib.hid (newRd w 39 (pairsV exL))
  have HB0 := Lib.hid (below_new w (.cells (pairsV exL).toArray 39))
  go_enter Try.func9, Try.ntmps9
  go_wp2_with fail
  refine (lawPlaceF _ 2 8 0 (by decide +kernel)).mono ?_
  rintro e w1 ⟨rfl, hb1⟩
  have HP1 := Lib.hid (HP.out.below hb1)
  have HB1 := Lib.hid (below_then HB0.out hb1)
  clear HP HB0 hb1
  go_wp2_with fail
  refine (lawBlockF _ (some ⟨w1.heap.size, 0, none⟩) 4 4 [0, 5, 8, -2] rfl (by omega) (newRd w1 3 (nums .i64 [0, 5, 8, -2])) (at_ok [0, 5, 8, -2] (by decide))).mono ?_
  rintro e w2 ⟨⟨b, hb, rfl, hblk⟩, hb2⟩
  have HP2 := Lib.hid ((HP1.out.below (below_new w1 (.cells (nums .i64 [0, 5, 8, -2]).toArray 3))).below hb2)
  have HB2 := Lib.hid (below_then (below_alloc HB1.out (.cells (nums .i64 [0, 5, 8, -2]).toArray 3)) hb2)
  clear HP1 HB1 hb2
  go_wp2_with fail
  refine (lawSpreadsF _ (some ⟨w.heap.size, 0, none⟩) 2 2 exL rfl (by omega) HP2.out 0 (some ⟨b, 0, none⟩) 64 64 _ 0 (blkL_len _ _) (by omega) hblk.row_.rd blk_c).mono ?_
  rintro e w3 ⟨rfl, hb3⟩
  have HP3 := Lib.hid (HP2.out.below hb3)
  have HB3 := Lib.hid (below_then HB2.out hb3)
  clear HP2 HB2 hb3 hblk
  go_wp2_with fail
  refine (lawBlockF _ (some ⟨w3.heap.size, 0, none⟩) 4 4 [0, 5, 8, -2] rfl (by omega) (newRd w3 3 (nums .i64 [0, 5, 8, -2])) (at_ok [0, 5, 8, -2] (by decide))).mono ?_
  rintro e w4 ⟨⟨b2, hb2, rfl, hblk2⟩, hb4⟩
  have HP4 := Lib.hid ((HP3.out.below (below_new w3 (.cells (nums .i64 [0, 5, 8, -2]).toArray 3))).below hb4)
  have HB4 := Lib.hid (below_then (below_alloc HB3.out (.cells (nums .i64 [0, 5, 8, -2]).toArray 3)) hb4)
  clear HP3 HB3 hb4
  go_wp2_with fail
  refine (lawRunsF _ (some ⟨b2, 0, none⟩) 64 64 _ (blkL_len _ _) hblk2.row_.rd 0 (some ⟨w.heap.size, 0, none⟩) 2 2 exL 0 rfl (by omega) HP4.out blk_b).mono ?_
  rintro e w5 ⟨rfl, hb5⟩
  have HB5 := Lib.hid (below_then HB4.out hb5)
  go_wp2
  go_ret
  exact ⟨rfl, HB5.out⟩
end Go.Proofs.Ythjpdcbcgagbjaa
