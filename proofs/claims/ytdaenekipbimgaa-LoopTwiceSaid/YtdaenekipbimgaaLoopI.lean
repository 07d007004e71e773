/- The walk of LoopTwice: the filter softens rows and then columns, or columns and then rows, and rounds once; for every input. -/
import Derived.Test.YtdaenekipbimgaaLoopH
set_option linter.unusedVariables false
set_option linter.unusedSimpArgs false
namespace Go.Proofs.Ytdaenekipbimgaa
open Go.RowKit

set_option maxHeartbeats 1000000 in
theorem twice_long (w : World) (A : Option Addr) (n c : Nat) (h : 64 < n) (hm : n ≤ maxLen) :
  Calls Try.prog 5 #[.slice A n c] w fun e w' => e = .returned (.bool true) ∧ Below w.heap.size w w' := by
  unfold maxLen at hm
  go_enter Try.func5, Try.ntmps5
  go_wp2_with (go_at_call 4; refine (knownF _).mono ?_; rintro e w1 ⟨rfl, hb1⟩)
  go_ret
  exact ⟨rfl, hb1⟩

set_option maxHeartbeats 4000000 in
theorem twice_short (w : World) (A : Option Addr) (c : Nat) (l : List Int) (hl : l.length ≤ 64) (hr : Rd w A (nums .u8 l)) (hb : bytes l) :
  Calls Try.prog 5 #[.slice A l.length c] w fun e w' => e = .returned (.bool true) ∧ Below w.heap.size w w' := by
  have hrd : ∀ W, Below w.heap.size w W → Rd W A (nums .u8 l) := fun W hW => hr.below hW
  have HRD := Lib.hid hrd
  have HB := Lib.hid (madeL_bytes hb)
  clear hrd hr hb
  have hmk := make64i
  have hdl : decide ((64 : Int) < l.length) = false := by simp; omega
  go_enter Try.func5, Try.ntmps5
  go_wp2_with fail
  refine (knownF _).mono ?_
  rintro e w1 ⟨rfl, hb1⟩
  go_wp2_with fail
  go_region_with (go_at_call 20; refine (madeF _ A c l hl ?_).mono ?_; exact HRD.out _ (by first | exact below_drewN hb1 1 | exact below_drewN (below_alloc hb1 _) 1); rintro e w2 ⟨⟨b4, hb4, rfl, hr4⟩, hb2⟩)
  have h5 := Blk.new w2 3 (nums .i64 zero64)
  have h4 := hr4.alloc (.cells (nums .i64 zero64).toArray 3)
  have hbel := below_alloc (below_then (below_drewN hb1 1) hb2) (.cells (nums .i64 zero64).toArray 3)
  have hne : b4 ≠ w2.heap.size := by have := hr4.lt; omega
  have hsz : w.heap.size ≤ w2.heap.size := (below_then (below_drewN hb1 1) hb2).size
  obtain ⟨b5, e5⟩ : ∃ b, b = w2.heap.size := ⟨_, rfl⟩
  rw [← e5] at h5 hne hsz ⊢
  have E5 := Lib.hid e5
  clear e5 hr4 hb2 hb4
  go_wp2
  rotate_left
  have h5 := (show Blk (w1.alloc (.cells (nums .i64 zero64).toArray 3)).drew w1.heap.size 3 (nums .i64 zero64) from Blk.new w1 3 (nums .i64 zero64)).below hb2
  have h4 := hr4
  have hbel := below_then (below_drewN (below_alloc hb1 (.cells (nums .i64 zero64).toArray 3)) 1) hb2
  have hne : b4 ≠ w1.heap.size := by simp at hb4; omega
  have hsz : w.heap.size ≤ w1.heap.size := hb1.size
  obtain ⟨b5, e5⟩ : ∃ b, b = w1.heap.size := ⟨_, rfl⟩
  rw [← e5] at h5 hne hsz ⊢
  have E5 := Lib.hid e5
  clear e5 hr4 hb2 hb4
  go_wp2
  all_goals
    go_loopw [6] (fun i wr => ∃ k : Nat, k ≤ 64 ∧ i = .int .i64 k ∧ Row wr b4 (nums .u8 (madeL l)) ∧ Blk wr b5 3 (nums .i64 (part (el (madeL l)) 64 k)) ∧ Below w.heap.size w wr)
      (fun i _ => 64 - (intOf i).toNat)
    case atStart => exact ⟨0, by omega, rfl, h4, by rw [part_zero64]; exact h5, hbel⟩
    case round =>
      clear h4 h5 hbel
      obtain ⟨k, hk, rfl, h4, h5, hbel⟩ := hrel
      by_cases hlt' : k < 64
      · have hcx := h4.cell (nums_get (i := k) (by rw [madeL_len]; exact hlt'))
        have hcy := h5.cell (nums_get (i := k) (by rw [part_len]; exact hlt'))
        have hcf := h5.free k
        have hbd := bytes_el HB.out k
        go_wp2
        go_roundw
        case rel =>
          refine ⟨k + 1, by omega, by go_num, h4.far hne _, ?_, hbel.setCell hsz _⟩
          rw [← part_set, ← nums_set]
          exact h5.set _ _
        case measure => simp [intOf]; omega
      · have hk64 : k = 64 := by omega
        have e : part (el (madeL l)) 64 64 = madeL l := by rw [part_all, ← madeL_len l, range_el]
        rw [hk64, e] at h5
        clear hk64 e
        have hdk : decide ((k : Int) < 64) = false := by simp; omega
        go_wp2_with fail
        refine (filter_ok _ _ _ _ (madeL_len l) h4.rd HB.out).mono ?_
        rintro e w3 ⟨⟨b7, hb7, rfl, hr7⟩, hbl3⟩
        have h5 := h5.row_.below hbl3
        have hbel := below_then hbel hbl3
        have h7 := hr7.row_
        clear hbl3 hr7 hb7 h4
        go_wp2_with fail
        refine (linesRow _ _ _ (madeL_len l) h5.rd (fun i => by have := bytes_el HB.out i; omega)).mono ?_
        rintro e w4 ⟨⟨b9, hb9, rfl, h9⟩, hbl4⟩
        have h5 := h5.below hbl4
        have h7 := h7.below hbl4
        have hbel := below_then hbel hbl4
        clear hbl4 hb9
        go_wp2_with fail
        refine (linesCol _ _ _ (madeL_len l) h5.rd (fun i => by have := bytes_el HB.out i; omega)).mono ?_
        rintro e w5 ⟨⟨b11, hb11, rfl, h11⟩, hbl5⟩
        have h7 := h7.below hbl5
        have h9 := h9.below hbl5
        have hbel := below_then hbel hbl5
        clear hbl5 hb11 h5
        go_wp2_with fail
        refine (linesCol _ _ _ (grid_len _) h9.rd (fun i => by have := gridR_bd HB.out i; omega)).mono ?_
        rintro e w6 ⟨⟨b13, hb13, rfl, h13⟩, hbl6⟩
        have h7 := h7.below hbl6
        have h11 := h11.below hbl6
        have hbel := below_then hbel hbl6
        rw [oneL] at h13
        clear hbl6 hb13 h9
        go_wp2_with fail
        refine (linesRow _ _ _ (grid_len _) h11.rd (fun i => by have := gridC_bd HB.out i; omega)).mono ?_
        rintro e w7 ⟨⟨b15, hb15, rfl, h15⟩, hbl7⟩
        have h7 := h7.below hbl7
        have h13 := h13.below hbl7
        have hbel := below_then hbel hbl7
        rw [twoL] at h15
        clear hbl7 hb15 h11
        go_wp2
        obtain ⟨wo, rfl⟩ : ∃ wo : World, wo = w7 := ⟨_, rfl⟩
        go_loopw [17] (fun i wr => ∃ j m : Nat, j ≤ 64 ∧ i = .int .i64 j ∧ Hid (wr = wo.drewN m)) (fun i _ => 64 - (intOf i).toNat)
        case atStart => exact ⟨0, 0, by omega, rfl, rfl⟩
        case round =>
          obtain ⟨j, m, hj, rfl, hw⟩ := hrel
          by_cases hlj : j < 64
          · have hx1 : wr.cell? ⟨b13, j, none⟩ = some (.int .i64 (el (grid (softC (softR (cell (madeL l))))) j)) := by rw [hw.out]; exact h13.cell (nums_get (i := j) (by rw [grid_len]; exact hlj))
            have hx2 : wr.cell? ⟨b15, j, none⟩ = some (.int .i64 (el (grid (softC (softR (cell (madeL l))))) j)) := by rw [hw.out]; exact h15.cell (nums_get (i := j) (by rw [grid_len]; exact hlj))
            have hx3 : wr.cell? ⟨b7, j, none⟩ = some (.int .u8 (el (grid (filt (cell (madeL l)))) j)) := by rw [hw.out]; exact h7.cell (nums_get (i := j) (by rw [grid_len]; exact hlj))
            have hv := gridO_bd HB.out j
            have hv2 := bytes_el (bytes_filt _ HB.out) j
            have e1 : IntKind.i64.wrap (el (grid (softC (softR (cell (madeL l))))) j + 8) = el (grid (softC (softR (cell (madeL l))))) j + 8 := IntWalk.i64_in _ (by omega)
            have hne : ((el (grid (softC (softR (cell (madeL l))))) j + 8) / 16 != el (grid (filt (cell (madeL l)))) j) = false := by rw [filt_of _ _ hlj]; simp
            have hw2 : ∀ q, wr.drewN q = wo.drewN (m + q) := fun q => by rw [hw.out, World.drewN_drewN]
            have HW2 := Lib.hid hw2
            clear hw2
            go_wp2
            go_quiet (fail)
            go_wp2
            go_roundw
            case rel => exact ⟨j + 1, m + nq, by omega, by go_num, HW2.out nq⟩
            case measure => simp [intOf]; omega
          · go_wp2
            go_ret
            exact ⟨rfl, by rw [hw.out]; exact below_drewN hbel _⟩

theorem loopTwice_walk (a0 : Option Addr) (len0 cap0 : Nat) (z0 : List Int) (w : World) (w0 : IsRow .u8 w a0 len0 cap0 z0) :
    Calls Try.prog 5 #[.slice a0 len0 cap0] w fun e w' => e = .returned (.bool true) ∧ Below w.heap.size w w' := by
  obtain ⟨h1, h2, h3, h4, h5⟩ := w0.rd
  rcases Nat.lt_or_ge 64 len0 with h | h
  · exact twice_long w a0 len0 cap0 h (Nat.le_trans h2 h3)
  · have := twice_short w a0 cap0 (z0.take len0) (by omega) h4 (bytes_of_wf h5)
    rwa [h1] at this
end Go.Proofs.Ytdaenekipbimgaa
