/- The walk of ScanKnown: the chapter's examples; no conditions. Printed by genK.py. -/
import Derived.Test.YthjpdcbcgagbjaaScanJ
set_option linter.unusedVariables false
set_option linter.unusedSimpArgs false
namespace Go.Proofs.Ythjpdcbcgagbjaa
open Go.RowKit

set_option maxHeartbeats 8000000 in
theorem knownF (w : World) : Calls Try.prog 5 #[] w fun e w' => e = .returned (.bool true) ∧ Below w.heap.size w w' := by
  have HP := Lib.hid (newRd w 39 (pairsV exL))
  have HB0 := Lib.hid (below_new w (.cells (pairsV exL).toArray 39))
  go_enter Try.func5, Try.ntmps5
  go_wp2_with fail
  refine (lawPlaceF _ (0) 0 0 (by decide +kernel)).mono ?_
  rintro e w1 ⟨rfl, hb1⟩
  have HB1 := Lib.hid (below_then HB0.out hb1)
  have HP1 := Lib.hid (HP.out.below hb1)
  clear HP
  clear hb1 HB0
  go_wp2_with fail
  refine (lawPlaceF _ (3) 16 0 (by decide +kernel)).mono ?_
  rintro e w2 ⟨rfl, hb2⟩
  have HB2 := Lib.hid (below_then HB1.out hb2)
  have HP2 := Lib.hid (HP1.out.below hb2)
  clear HP1
  clear hb2 HB1
  go_wp2_with fail
  refine (lawPlaceF _ (63) 63 0 (by decide +kernel)).mono ?_
  rintro e w3 ⟨rfl, hb3⟩
  have HB3 := Lib.hid (below_then HB2.out hb3)
  have HP3 := Lib.hid (HP2.out.below hb3)
  clear HP2
  clear hb3 HB2
  go_wp2_with fail
  refine (lawPlaceF _ (64) 0 3 (by decide +kernel)).mono ?_
  rintro e w4 ⟨rfl, hb4⟩
  have HB4 := Lib.hid (below_then HB3.out hb4)
  have HP4 := Lib.hid (HP3.out.below hb4)
  clear HP3
  clear hb4 HB3
  go_wp2_with fail
  refine (lawPlaceF _ (-1) 0 3 (by decide +kernel)).mono ?_
  rintro e w5 ⟨rfl, hb5⟩
  have HB5 := Lib.hid (below_then HB4.out hb5)
  have HP5 := Lib.hid (HP4.out.below hb5)
  clear HP4
  clear hb5 HB4
  go_wp2_with fail
  refine (lawBlockF _ (some ⟨w5.heap.size, 0, none⟩) 4 4 [1, 5, 16, -2] rfl (by omega) (newRd w5 3 (nums .i64 [1, 5, 16, -2])) (at_ok [1, 5, 16, -2] (by decide))).mono ?_
  rintro e w6 ⟨⟨b6, _, rfl, hblk6⟩, hb6⟩
  have HB6 := Lib.hid (below_then (below_alloc HB5.out (.cells (nums .i64 [1, 5, 16, -2]).toArray 3)) hb6)
  have HP6 := Lib.hid ((HP5.out.below (below_new w5 (.cells (nums .i64 [1, 5, 16, -2]).toArray 3))).below hb6)
  clear HP5
  clear hb6 HB5
  have HK6_6 := Lib.hid hblk6.row_.rd
  clear hblk6
  go_wp2_with fail
  refine (lawSpreadsF _ (some ⟨w.heap.size, 0, none⟩) 2 2 exL rfl (by omega) HP6.out 1 (some ⟨b6, 0, none⟩) 64 64 (blkL [1, 5, 16, -2] 2) 0 (blkL_len _ _) (by omega) HK6_6.out (by decide +kernel)).mono ?_
  rintro e w7 ⟨rfl, hb7⟩
  have HB7 := Lib.hid (below_then HB6.out hb7)
  have HP7 := Lib.hid (HP6.out.below hb7)
  clear HP6
  have HK6_7 := Lib.hid (HK6_6.out.below hb7)
  clear HK6_6
  clear hb7 HB6
  clear HP7
  clear HK6_7
  have HQ := Lib.hid (newRd w7 39 (pairsV [(62, 1)]))
  have HBq := Lib.hid (below_alloc HB7.out (.cells (pairsV [(62, 1)]).toArray 39))
  clear HB7
  go_wp2_with fail
  refine (lawBlockF _ (some ⟨w7.heap.size + 1, 0, none⟩) 2 2 [63, 1] rfl (by omega) (newRd2 w7 39 3 (pairsV [(62, 1)]) (nums .i64 [63, 1])) (at_ok [63, 1] (by decide))).mono ?_
  rintro e w8 ⟨⟨b8, _, rfl, hblk8⟩, hb8⟩
  have HB8 := Lib.hid (below_then (below_alloc HBq.out (.cells (nums .i64 [63, 1]).toArray 3)) hb8)
  have HQ8 := Lib.hid ((HQ.out.below (below_new (w7.alloc (.cells (pairsV [(62, 1)]).toArray 39)) (.cells (nums .i64 [63, 1]).toArray 3))).below hb8)
  clear HQ
  clear hb8 HBq
  have HK8_8 := Lib.hid hblk8.row_.rd
  clear hblk8
  go_wp2_with fail
  refine (lawSpreadsF _ (some ⟨w7.heap.size, 0, none⟩) 1 1 [(62, 1)] rfl (by omega) HQ8.out 1 (some ⟨b8, 0, none⟩) 64 64 (blkL [63, 1] 1) 0 (blkL_len _ _) (by omega) HK8_8.out (by decide +kernel)).mono ?_
  rintro e w9 ⟨rfl, hb9⟩
  have HB9 := Lib.hid (below_then HB8.out hb9)
  have HQ9 := Lib.hid (HQ8.out.below hb9)
  clear HQ8
  have HK8_9 := Lib.hid (HK8_8.out.below hb9)
  clear HK8_8
  clear hb9 HB8
  clear HQ9
  clear HK8_9
  go_wp2_with fail
  refine (lawSpreadsF _ (some ⟨w9.heap.size, 0, none⟩) 1 1 [(63, 1)] rfl (by omega) (newRd w9 39 (pairsV [(63, 1)])) 1 none 0 0 [] 11 rfl (by omega) (.nil _ _) (by decide +kernel)).mono ?_
  rintro e w10 ⟨rfl, hb10⟩
  have HB10 := Lib.hid (below_then (below_alloc HB9.out (.cells (pairsV [(63, 1)]).toArray 39)) hb10)
  clear hb10 HB9
  go_wp2_with fail
  refine (lawSpreadsF _ (some ⟨w10.heap.size, 0, none⟩) 1 1 [(0, 0)] rfl (by omega) (newRd w10 39 (pairsV [(0, 0)])) 0 none 0 0 [] 10 rfl (by omega) (.nil _ _) (by decide +kernel)).mono ?_
  rintro e w11 ⟨rfl, hb11⟩
  have HB11 := Lib.hid (below_then (below_alloc HB10.out (.cells (pairsV [(0, 0)]).toArray 39)) hb11)
  clear hb11 HB10
  go_wp2_with fail
  refine (lawSpreadsF _ (some ⟨w11.heap.size, 0, none⟩) 1 1 [(0, 128)] rfl (by omega) (newRd w11 39 (pairsV [(0, 128)])) 0 none 0 0 [] 10 rfl (by omega) (.nil _ _) (by decide +kernel)).mono ?_
  rintro e w12 ⟨rfl, hb12⟩
  have HB12 := Lib.hid (below_then (below_alloc HB11.out (.cells (pairsV [(0, 128)]).toArray 39)) hb12)
  clear hb12 HB11
  go_wp2_with fail
  refine (lawSpreadsF _ (some ⟨w12.heap.size, 0, none⟩) 1 1 [(-1, 1)] rfl (by omega) (newRd w12 39 (pairsV [(-1, 1)])) 0 none 0 0 [] 11 rfl (by omega) (.nil _ _) (by decide +kernel)).mono ?_
  rintro e w13 ⟨rfl, hb13⟩
  have HB13 := Lib.hid (below_then (below_alloc HB12.out (.cells (pairsV [(-1, 1)]).toArray 39)) hb13)
  clear hb13 HB12
  go_wp2_with fail
  refine (lawSpreadsF _ none 0 0 [] rfl (by omega) (.nil _ _) 2 none 0 0 [] 3 rfl (by omega) (.nil _ _) (by decide +kernel)).mono ?_
  rintro e w14 ⟨rfl, hb14⟩
  have HB14 := Lib.hid (below_then HB13.out hb14)
  clear hb14 HB13
  go_wp2_with fail
  refine (lawBlockF _ (some ⟨w14.heap.size, 0, none⟩) 2 2 [0, 5] rfl (by omega) (newRd w14 3 (nums .i64 [0, 5])) (at_ok [0, 5] (by decide))).mono ?_
  rintro e w15 ⟨⟨b15, _, rfl, hblk15⟩, hb15⟩
  have HB15 := Lib.hid (below_then (below_alloc HB14.out (.cells (nums .i64 [0, 5]).toArray 3)) hb15)
  clear hb15 HB14
  have HK15_15 := Lib.hid hblk15.row_.rd
  clear hblk15
  go_wp2_with fail
  refine (lawRunsF _ (some ⟨b15, 0, none⟩) 64 64 (blkL [0, 5] 1) (blkL_len _ _) HK15_15.out 1 none 0 0 [] 2 rfl (by omega) (.nil _ _) (by decide +kernel)).mono ?_
  rintro e w16 ⟨rfl, hb16⟩
  have HB16 := Lib.hid (below_then HB15.out hb16)
  have HK15_16 := Lib.hid (HK15_15.out.below hb16)
  clear HK15_15
  clear hb16 HB15
  clear HK15_16
  go_wp2_with fail
  refine (lawRunsF _ (some ⟨w16.heap.size, 0, none⟩) 3 3 [1, 2, 3] rfl (newRd w16 3 (nums .i64 [1, 2, 3])) 0 none 0 0 [] 2 rfl (by omega) (.nil _ _) (by decide +kernel)).mono ?_
  rintro e w17 ⟨rfl, hb17⟩
  have HB17 := Lib.hid (below_then (below_alloc HB16.out (.cells (nums .i64 [1, 2, 3]).toArray 3)) hb17)
  clear hb17 HB16
  go_wp2_with fail
  refine (awakeF _).mono ?_
  rintro e w18 ⟨rfl, hb18⟩
  have HB18 := Lib.hid (below_then HB17.out hb18)
  clear hb18 HB17
  go_wp2
  go_ret
  exact ⟨rfl, HB18.out⟩

theorem scanKnown_walk (w : World) : Calls Try.prog 5 #[] w fun e w' => e = .returned (.bool true) ∧ Below w.heap.size w w' := knownF w
end Go.Proofs.Ythjpdcbcgagbjaa
