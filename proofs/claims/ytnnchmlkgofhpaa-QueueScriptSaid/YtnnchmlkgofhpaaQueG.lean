/- The walk of QueueKnown: the chapter's examples are answered as it says. -/
import Derived.Test.YtnnchmlkgofhpaaQueE
set_option linter.unusedVariables false
set_option linter.unusedSimpArgs false
namespace Go.Proofs.Ytnnchmlkgofhpaa
open Go.RowKit

def q4 : Qs := ⟨3, 1, [], 0, false, 4, 32⟩
def q5 : Qs := ⟨3, 1, [], 0, true, 4, 32⟩
/-- Skip beyond what is left. -/
theorem skip_far (w : World) (b r : Nat) (s : Qs) (h : Que w b r s) (n : Int) (hn : 8 * (s.data.length : Int) - s.place < n) :
    Calls Try.prog 13 #[.pointer (some ⟨b, 0, none⟩), .int .i64 n] w fun e w' => e = .returned (.int .i64 3) ∧ Below w.heap.size w w' :=
  (skip_no w b r s h n (.inr hn)).mono fun e w' ⟨h1, m, h2⟩ => ⟨h1, by rw [h2]; exact below_drewN (Below.refl _ _) m⟩

set_option maxHeartbeats 4000000 in
theorem knownF (w : World) : Calls Try.prog 4 #[] w fun e w' => e = .returned (.bool true) ∧ Below w.heap.size w w' := by
  go_enter Try.func4, Try.ntmps4
  go_wp2_with fail
  refine (threeF _).mono ?_
  rintro e w1 ⟨⟨b, r, rfl, hb, hr, hq⟩, hb1⟩
  go_wp2_with fail
  refine (skip_far _ b r q3 hq 21 (by decide)).mono ?_
  rintro e w2 ⟨rfl, hb2⟩
  have hq2 := hq.below hb2
  have hbel2 := below_then hb1 hb2
  clear hq hb1 hb2
  go_wp2_with fail
  refine (skip_ok _ b r q3 hq2 20 (by decide) (by decide)).mono ?_
  rintro e w3 ⟨rfl, hq3, hm3⟩
  have hq3 : Que w3 b r q4 := hq3
  have hbel3 := below_mod hbel2 hm3 (fun i hi => by omega)
  clear hq2 hm3 hbel2
  go_wp2_with fail
  refine (hasF _ b r q4 hq3 0 rfl none 0 0 rfl (.nil _ _)).mono ?_
  rintro e w4 ⟨rfl, hb4⟩
  have hq4 := hq3.below hb4
  have hbel4 := below_then hbel3 hb4
  clear hq3 hbel3 hb4
  go_wp2_with fail
  refine (goneF _ b r q4 hq4).mono ?_
  rintro e w5 ⟨rfl, rfl⟩
  go_wp2_with fail
  refine (cameF _ b r q4 hq4).mono ?_
  rintro e w6 ⟨rfl, rfl⟩
  go_wp2_with fail
  refine (new_no _ 0 (by omega)).mono ?_
  rintro e w7 ⟨rfl, rfl⟩
  go_wp2_with fail
  refine (new_no _ 1048577 (by omega)).mono ?_
  rintro e w8 ⟨rfl, rfl⟩
  go_wp2_with fail
  refine (awakeF _).mono ?_
  rintro e w9 ⟨rfl, hb9⟩
  have hq9 := hq4.below hb9
  have hbel9 := below_then hbel4 hb9
  clear hq4 hbel4 hb9
  go_wp2_with fail
  refine (end_ok _ b r q4 hq9 rfl).mono ?_
  rintro e wa ⟨rfl, hqa, hma⟩
  have hqa : Que wa b r q5 := hqa
  have hbela := below_mod hbel9 hma (fun i hi => by omega)
  clear hq9 hbel9 hma
  go_wp2_with fail
  refine (end_done _ b r q5 hqa rfl).mono ?_
  rintro e wb ⟨rfl, rfl⟩
  go_wp2_with fail
  have hqc := hqa.below (below_new wb (.cells (nums .u8 [1]).toArray 5))
  have hbelc := below_alloc hbela (.cells (nums .u8 [1]).toArray 5)
  obtain ⟨wc, hwc⟩ : ∃ wc, wc = wb.alloc (.cells (nums .u8 [1]).toArray 5) := ⟨_, rfl⟩
  refine (feedsF_done _ b r q5 hqc rfl _ 1 1).mono ?_
  rintro e wd ⟨rfl, rfl⟩
  go_wp2_with fail
  refine (feedsF_done _ b r q5 hqc rfl none 0 0).mono ?_
  rintro e we ⟨rfl, rfl⟩
  go_wp2
  go_ret
  exact ⟨rfl, hbelc⟩

theorem queueKnown_walk (w : World) : Calls Try.prog 4 #[] w fun e w' => e = .returned (.bool true) ∧ Below w.heap.size w w' := knownF w
end Go.Proofs.Ytnnchmlkgofhpaa
