/- The walks of praxinoscopelaw26's opens, ended, two, awake and TableKnown: the chapter's examples; no conditions. Printed by genF.py. -/
import Derived.Test.YtlebigefknhgeaaTabE
import Derived.Test.YtlebigefknhgeaaKfSameInts
set_option linter.unusedVariables false
set_option linter.unusedSimpArgs false
namespace Go.Proofs.Ytlebigefknhgeaa
open Go.RowKit Go.Maps

theorem below_new (w : World) (o : Obj) : Below w.heap.size w (w.alloc o) := below_alloc (Below.refl _ _) o

set_option maxHeartbeats 1000000 in
theorem opensF (w : World) (b m : Nat) (s : Ts) (h : Tab w b m s) (hl : (liveL s.causes).length ≤ s.most) (hc : s.causes.length < 1000) (want er : Int) (ho : (openT s).2 = (want, er)) :
    Calls Try.prog 17 #[.pointer (some ⟨b, 0, none⟩), .int .i64 want, .int .i64 er] w fun e w' => e = .returned (.bool true) ∧ Tab w' b m (openT s).1 ∧ Mod (fun i => i = b ∨ i = m) w w' := by
  have H := Lib.hid (openF w b m s h hl hc)
  rw [ho] at H
  clear h hl hc ho
  go_enter Try.func17, Try.ntmps17
  go_wp2_with fail
  refine H.out.mono ?_
  rintro e w1 ⟨rfl, hq, hm⟩
  go_wp2
  go_ret
  exact ⟨rfl, hq, hm⟩

set_option maxHeartbeats 1000000 in
theorem endedF (w : World) (b m : Nat) (s : Ts) (h : Tab w b m s) (id : Int) (hid : (Lit.int .i64 id).wf = true) (c er : Int) (hc : causeAt s.causes id = c) (he : (if 1 ≤ id ∧ id ≤ s.causes.length then 0 else 18) = er) :
    Calls Try.prog 15 #[.pointer (some ⟨b, 0, none⟩), .int .i64 id, .int .i64 c, .int .i64 er] w fun e w' => e = .returned (.bool true) ∧ Below w.heap.size w w' := by
  have H := Lib.hid (causeF w b m s h id hid)
  rw [hc, he] at H
  clear h hc he
  go_enter Try.func15, Try.ntmps15
  go_wp2_with fail
  refine H.out.mono ?_
  rintro e w1 ⟨rfl, hb⟩
  go_wp2
  go_ret
  exact ⟨rfl, hb⟩

set_option maxHeartbeats 4000000 in
theorem twoF (w : World) :
    Calls Try.prog 23 #[] w fun e w' => (∃ b m, e = .returned (.pointer (some ⟨b, 0, none⟩)) ∧ w.heap.size ≤ b ∧ w.heap.size ≤ m ∧ Tab w' b m ⟨2, [0, 0]⟩) ∧ Below w.heap.size w w' := by
  go_enter Try.func23, Try.ntmps23
  go_wp2_with fail
  refine (new_ok _ 2 (by omega) (by omega)).mono ?_
  rintro e w1 ⟨⟨b, m, rfl, hwb, hwm, hq1⟩, hb1⟩
  have HQ1 : Hid (Tab w1 b m ⟨2, []⟩) := Lib.hid hq1
  have HB1 := Lib.hid hb1
  clear hq1 hb1
  go_wp2_with fail
  refine (opensF _ b m ⟨2, []⟩ HQ1.out (by decide) (by decide) 1 0 rfl).mono ?_
  rintro e w2 ⟨rfl, hq2, hm2⟩
  have HQ2 : Hid (Tab w2 b m ⟨2, [0]⟩) := Lib.hid hq2
  have HB2 := Lib.hid (below_mod HB1.out hm2 (fun i hi => by omega))
  clear hq2 hm2 HQ1 HB1
  go_wp2_with fail
  refine (opensF _ b m ⟨2, [0]⟩ HQ2.out (by decide) (by decide) 2 0 rfl).mono ?_
  rintro e w3 ⟨rfl, hq3, hm3⟩
  have HQ3 : Hid (Tab w3 b m ⟨2, [0, 0]⟩) := Lib.hid hq3
  have HB3 := Lib.hid (below_mod HB2.out hm3 (fun i hi => by omega))
  clear hq3 hm3 HQ2 HB2
  go_wp2_with fail
  refine (opensF _ b m ⟨2, [0, 0]⟩ HQ3.out (by decide) (by decide) 0 15 rfl).mono ?_
  rintro e w4 ⟨rfl, hq4, hm4⟩
  have HQ4 : Hid (Tab w4 b m ⟨2, [0, 0]⟩) := Lib.hid hq4
  have HB4 := Lib.hid (below_mod HB3.out hm4 (fun i hi => by omega))
  clear hq4 hm4 HQ3 HB3
  go_wp2_with fail
  refine (liveF _ b m ⟨2, [0, 0]⟩ HQ4.out).mono ?_
  rintro e w5 ⟨v, rfl, hv, hb5⟩
  have HQ5 := Lib.hid (HQ4.out.below hb5)
  have HB5 := Lib.hid (below_then HB4.out hb5)
  clear hb5 HQ4 HB4
  obtain ⟨A, c, rfl, _, _, hf⟩ := own_nums hv
  have HF := Lib.hid (hf.rd.below (below_new w5 (.cells (nums .i64 [1, 2]).toArray 3)))
  have hb := below_new w5 (.cells (nums .i64 [1, 2]).toArray 3)
  have HQ := Lib.hid (HQ5.out.below hb)
  have HB := Lib.hid (below_then HB5.out hb)
  clear hv hf hb HQ5 HB5
  go_wp2_with fail
  refine (sameInts _ A (some ⟨w5.heap.size, 0, none⟩) _ 2 c 2 _ [1, 2] rfl rfl (by omega) HF.out (Blk.new w5 3 (nums .i64 [1, 2])).row_.rd).mono ?_
  rintro e w6 ⟨rfl, q, rfl⟩
  rw [decide_eq_true (show liveL (Ts.causes ⟨2, [0, 0]⟩) = [1, 2] from rfl)]
  have HQ6 := Lib.hid (HQ.out.drewN q)
  have HB6 := Lib.hid (below_drewN HB.out q)
  clear HQ HB HF
  go_wp2_with fail
  refine (roomF _ b m ⟨2, [0, 0]⟩ HQ6.out).mono ?_
  rintro e w7 ⟨rfl, hb7⟩
  have HQ7 := Lib.hid (HQ6.out.below hb7)
  have HB7 := Lib.hid (below_then HB6.out hb7)
  clear hb7 HQ6 HB6
  go_wp2
  go_ret
  exact ⟨⟨b, m, rfl, hwb, hwm, HQ7.out⟩, HB7.out⟩

set_option maxHeartbeats 4000000 in
theorem awakeF (w : World) : Calls Try.prog 16 #[] w fun e w' => e = .returned (.bool true) ∧ Below w.heap.size w w' := by
  go_enter Try.func16, Try.ntmps16
  go_wp2_with fail
  refine (twoF _).mono ?_
  rintro e w1 ⟨⟨b, m, rfl, hwb, hwm, hq1⟩, hb1⟩
  have HQ1 := Lib.hid hq1
  have HB1 := Lib.hid hb1
  clear hq1 hb1
  go_wp2_with fail
  refine (endF _ b m ⟨2, [0, 0]⟩ HQ1.out 1 6 (by decide) (by decide)).mono ?_
  rintro e w2 ⟨rfl, hq2, hm2⟩
  have HQ2 : Hid (Tab w2 b m ⟨2, [6, 0]⟩) := Lib.hid hq2
  have HB2 := Lib.hid (below_mod HB1.out hm2 (fun i hi => by omega))
  clear hq2 hm2 HQ1 HB1
  go_wp2_with fail
  refine (opensF _ b m ⟨2, [6, 0]⟩ HQ2.out (by decide) (by decide) 3 0 rfl).mono ?_
  rintro e w3 ⟨rfl, hq3, hm3⟩
  have HQ3 : Hid (Tab w3 b m ⟨2, [6, 0, 0]⟩) := Lib.hid hq3
  have HB3 := Lib.hid (below_mod HB2.out hm3 (fun i hi => by omega))
  clear hq3 hm3 HQ2 HB2
  go_wp2_with fail
  refine (endedF _ b m ⟨2, [6, 0, 0]⟩ HQ3.out 1 (by decide) 6 0 rfl rfl).mono ?_
  rintro e w4 ⟨rfl, hb4⟩
  have HQ4 := Lib.hid (HQ3.out.below hb4)
  have HB4 := Lib.hid (below_then HB3.out hb4)
  clear hb4 HQ3 HB3
  go_wp2_with fail
  refine (lastF _ b m ⟨2, [6, 0, 0]⟩ HQ4.out).mono ?_
  rintro e w5 ⟨rfl, rfl⟩
  go_wp2
  go_ret
  exact ⟨rfl, HB4.out⟩

set_option maxHeartbeats 8000000 in
theorem knownF (w : World) : Calls Try.prog 7 #[] w fun e w' => e = .returned (.bool true) ∧ Below w.heap.size w w' := by
  go_enter Try.func7, Try.ntmps7
  go_wp2_with fail
  refine (twoF _).mono ?_
  rintro e w1 ⟨⟨b, m, rfl, hwb, hwm, hq1⟩, hb1⟩
  have HQ1 := Lib.hid hq1
  have HB1 := Lib.hid hb1
  clear hq1 hb1
  go_wp2_with fail
  refine (endF _ b m ⟨2, [0, 0]⟩ HQ1.out 1 6 (by decide) (by decide)).mono ?_
  rintro e w2 ⟨rfl, hq2, hm2⟩
  have HQ2 : Hid (Tab w2 b m ⟨2, [6, 0]⟩) := Lib.hid hq2
  have HB2 := Lib.hid (below_mod HB1.out hm2 (fun i hi => by omega))
  clear hq2 hm2 HQ1 HB1
  go_wp2_with fail
  refine (opensF _ b m ⟨2, [6, 0]⟩ HQ2.out (by decide) (by decide) 3 0 rfl).mono ?_
  rintro e w3 ⟨rfl, hq3, hm3⟩
  have HQ3 : Hid (Tab w3 b m ⟨2, [6, 0, 0]⟩) := Lib.hid hq3
  have HB3 := Lib.hid (below_mod HB2.out hm3 (fun i hi => by omega))
  clear hq3 hm3 HQ2 HB2
  go_wp2_with fail
  refine (liveF _ b m ⟨2, [6, 0, 0]⟩ HQ3.out).mono ?_
  rintro e w4 ⟨v, rfl, hv, hb4⟩
  have HQ4 := Lib.hid (HQ3.out.below hb4)
  have HB4 := Lib.hid (below_then HB3.out hb4)
  clear hb4 HQ3 HB3
  obtain ⟨A, c, rfl, _, _, hf⟩ := own_nums hv
  have HF := Lib.hid (hf.rd.below (below_new w4 (.cells (nums .i64 [2, 3]).toArray 3)))
  have hb := below_new w4 (.cells (nums .i64 [2, 3]).toArray 3)
  have HQ := Lib.hid (HQ4.out.below hb)
  have HB := Lib.hid (below_then HB4.out hb)
  clear hv hf hb HQ4 HB4
  go_wp2_with fail
  refine (sameInts _ A (some ⟨w4.heap.size, 0, none⟩) _ 2 c 2 _ [2, 3] rfl rfl (by omega) HF.out (Blk.new w4 3 (nums .i64 [2, 3])).row_.rd).mono ?_
  rintro e w5 ⟨rfl, q, rfl⟩
  rw [decide_eq_true (show liveL (Ts.causes ⟨2, [6, 0, 0]⟩) = [2, 3] from rfl)]
  have HQ5 := Lib.hid (HQ.out.drewN q)
  have HB5 := Lib.hid (below_drewN HB.out q)
  clear HQ HB HF
  go_wp2_with fail
  refine (endedF _ b m ⟨2, [6, 0, 0]⟩ HQ5.out 3 (by decide) 0 0 rfl rfl).mono ?_
  rintro e w6 ⟨rfl, hb6⟩
  have HQ6 := Lib.hid (HQ5.out.below hb6)
  have HB6 := Lib.hid (below_then HB5.out hb6)
  clear hb6 HQ5 HB5
  go_wp2_with fail
  refine (endedF _ b m ⟨2, [6, 0, 0]⟩ HQ6.out 4 (by decide) 0 18 rfl rfl).mono ?_
  rintro e w7 ⟨rfl, hb7⟩
  have HQ7 := Lib.hid (HQ6.out.below hb7)
  have HB7 := Lib.hid (below_then HB6.out hb7)
  clear hb7 HQ6 HB6
  go_wp2_with fail
  refine (new_no _ 0 (by omega)).mono ?_
  rintro e w8 ⟨rfl, rfl⟩
  go_wp2_with fail
  refine (new_no _ 65 (by omega)).mono ?_
  rintro e w9 ⟨rfl, rfl⟩
  go_wp2_with fail
  refine (awakeF _).mono ?_
  rintro e w10 ⟨rfl, hb10⟩
  have HQ10 := Lib.hid (HQ7.out.below hb10)
  have HB10 := Lib.hid (below_then HB7.out hb10)
  clear hb10 HQ7 HB7
  go_wp2_with fail
  refine (endF _ b m ⟨2, [6, 0, 0]⟩ HQ10.out 1 7 (by decide) (by decide)).mono ?_
  rintro e w11 ⟨rfl, hq11, hm11⟩
  have HQ11 : Hid (Tab w11 b m ⟨2, [6, 0, 0]⟩) := Lib.hid hq11
  have HB11 := Lib.hid (below_mod HB10.out hm11 (fun i hi => by omega))
  clear hq11 hm11 HQ10 HB10
  go_wp2_with fail
  refine (endF _ b m ⟨2, [6, 0, 0]⟩ HQ11.out 4 6 (by decide) (by decide)).mono ?_
  rintro e w12 ⟨rfl, hq12, hm12⟩
  have HQ12 : Hid (Tab w12 b m ⟨2, [6, 0, 0]⟩) := Lib.hid hq12
  have HB12 := Lib.hid (below_mod HB11.out hm12 (fun i hi => by omega))
  clear hq12 hm12 HQ11 HB11
  go_wp2_with fail
  refine (endF _ b m ⟨2, [6, 0, 0]⟩ HQ12.out 2 0 (by decide) (by decide)).mono ?_
  rintro e w13 ⟨rfl, hq13, hm13⟩
  have HQ13 : Hid (Tab w13 b m ⟨2, [6, 0, 0]⟩) := Lib.hid hq13
  have HB13 := Lib.hid (below_mod HB12.out hm13 (fun i hi => by omega))
  clear hq13 hm13 HQ12 HB12
  go_wp2_with fail
  refine (lastF _ b m ⟨2, [6, 0, 0]⟩ HQ13.out).mono ?_
  rintro e w14 ⟨rfl, rfl⟩
  go_wp2
  go_ret
  exact ⟨rfl, HB13.out⟩

theorem tableKnown_walk (w : World) : Calls Try.prog 7 #[] w fun e w' => e = .returned (.bool true) ∧ Below w.heap.size w w' := knownF w
end Go.Proofs.Ytlebigefknhgeaa
