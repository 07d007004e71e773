/- The walk of LoopTurned: turned, mirrored, lighter; for every input. -/
import Derived.Test.YtdaenekipbimgaaLoopG
import Derived.Test.YtdaenekipbimgaaKfPick
import Derived.Deep.DeepCutAuto
set_option linter.unusedVariables false
set_option linter.unusedSimpArgs false
namespace Go.Proofs.Ytdaenekipbimgaa
open Go.RowKit

set_option maxHeartbeats 1000000 in
set_option maxRecDepth 100000 in
theorem turned_long (w : World) (A : Option Addr) (n c : Nat) (x : Int) (h : 64 < n) (hm : n ≤ maxLen) :
    Calls Try.prog 7 #[.slice A n c, .int .i64 x] w fun e w' => e = .returned (.bool true) ∧ Below w.heap.size w w' := by
  unfold maxLen at hm
  go_enter Try.func7, Try.ntmps7
  go_wp2_with (go_at_call 4; refine (knownF _).mono ?_; rintro e w1 ⟨rfl, hb1⟩)
  go_ret
  exact ⟨rfl, hb1⟩

/-- What the four blocks are behind their making. -/
def Four (w : World) (l : List Int) (s6 s7 s8 s9 : Value) (wx : World) : Prop :=
  ∃ b6 b7 b8 b9 : Nat, s6 = .slice (some ⟨b6, 0, none⟩) 64 64 ∧ s7 = .slice (some ⟨b7, 0, none⟩) 64 64 ∧ s8 = .slice (some ⟨b8, 0, none⟩) 64 64 ∧ s9 = .slice (some ⟨b9, 0, none⟩) 64 64 ∧
    Row wx b6 (nums .u8 (madeL l)) ∧ Row wx b7 (nums .u8 zero64) ∧ Row wx b8 (nums .u8 zero64) ∧ Row wx b9 (nums .u8 zero64) ∧
    (b6 ≠ b7 ∧ b6 ≠ b8 ∧ b6 ≠ b9 ∧ b7 ≠ b8 ∧ b7 ≠ b9 ∧ b8 ≠ b9) ∧ (w.heap.size ≤ b6 ∧ w.heap.size ≤ b7 ∧ w.heap.size ≤ b8 ∧ w.heap.size ≤ b9) ∧ Below w.heap.size w wx

set_option maxHeartbeats 40000000 in
set_option maxRecDepth 100000 in
theorem turned_short (w : World) (A : Option Addr) (c : Nat) (l : List Int) (x : Int) (hl : l.length ≤ 64) (hr : Rd w A (nums .u8 l)) (hb : bytes l) :
    Calls Try.prog 7 #[.slice A l.length c, .int .i64 x] w fun e w' => e = .returned (.bool true) ∧ Below w.heap.size w w' := by
  have hrd : ∀ W, Below w.heap.size w W → Rd W A (nums .u8 l) := fun W hW => hr.below hW
  have HRD := Lib.hid hrd
  have HB := Lib.hid (madeL_bytes hb)
  clear hrd hr hb
  have hdl : decide ((64 : Int) < l.length) = false := by simp; omega
  have hmk := make64
  go_enter Try.func7, Try.ntmps7
  go_wp2_with fail
  refine (knownF _).mono ?_
  rintro e w1 ⟨rfl, hb1⟩
  go_wp2_with fail
  refine (pickF _ _ _ (by omega) (by omega)).mono ?_
  rintro e w2 ⟨rfl, rfl⟩
  go_upto_region 5 with fail
  go_cut [6, 7, 8, 9] (fun s6 s7 s8 s9 wx => Four w l s6 s7 s8 s9 wx)
  case first =>
    go_region_with (go_at_call 20; refine (madeF _ A c l hl ?_).mono ?_; refine HRD.out _ ?_; (repeat (with_reducible first | exact hb1 | refine Below.drew ?_ | refine below_alloc ?_ _)); rintro e w2 ⟨⟨b4, hb4, rfl, hr4⟩, hb2⟩)
    all_goals
      go_wp2_with fail
      go_meet
      have hlt4 := hr4.lt
      have hsz2 := hb2.size
      have hsz1 := hb1.size
      refine ⟨_, _, _, _, rfl, rfl, rfl, rfl, ?_, ?_, ?_, ?_, ?_, ?_, ?_⟩
      · (repeat (with_reducible first | exact hr4 | refine Row.alloc ?_ _ | refine Row.drew ?_))
      · (repeat (with_reducible first | (refine Row.new_at ?_; simp; done) | refine Row.alloc ?_ _ | refine Row.drew ?_ | refine Row.below ?_ hb2))
      · (repeat (with_reducible first | (refine Row.new_at ?_; simp; done) | refine Row.alloc ?_ _ | refine Row.drew ?_ | refine Row.below ?_ hb2))
      · (repeat (with_reducible first | (refine Row.new_at ?_; simp; done) | refine Row.alloc ?_ _ | refine Row.drew ?_ | refine Row.below ?_ hb2))
      · simp at hb4 hsz2 ⊢; omega
      · simp at hb4 hsz2 ⊢; omega
      · (repeat (with_reducible first | exact hb1 | refine below_then ?_ hb2 | refine Below.drew ?_ | refine below_alloc ?_ _))
  case rest =>
    have hcut2 : Hid (Four w l _ _ _ _ _) := hcut
    clear hcut
    obtain ⟨b6, b7, b8, b9, rfl, rfl, rfl, rfl, h6, h7, h8, h9, ⟨n67, n68, n69, n78, n79, n89⟩, ⟨g6, g7, g8, g9⟩, hbel⟩ := hcut2
    have hp := pick_bd x 128 (by omega)
    obtain ⟨m, hm⟩ : ∃ m, m = pick x 128 := ⟨_, rfl⟩
    rw [← hm] at hp ⊢
    clear hm hmk hb1
    go_wp2
    go_loopw [10] (fun i wr => ∃ k : Nat, k ≤ 64 ∧ i = .int .i64 k ∧ Row wr b6 (nums .u8 (halves (madeL l) k)) ∧ Row wr b7 (nums .u8 zero64) ∧ Row wr b8 (nums .u8 zero64) ∧ Row wr b9 (nums .u8 zero64) ∧ Below w.heap.size w wr)
      (fun i _ => 64 - (intOf i).toNat)
    case atStart => exact ⟨0, by omega, rfl, by rw [halves_zero _ (madeL_len l)]; exact h6, h7, h8, h9, hbel⟩
    case round =>
      clear h6 h7 h8 h9 hbel
      obtain ⟨k, hk, rfl, h6, h7, h8, h9, hbel⟩ := hrel
      by_cases hlt' : k < 64
      · have hdk : decide ((k : Int) < 64) = true := by simp; omega
        have hcx := h6.cell (nums_get (i := k) (by rw [halves_len]; exact hlt'))
        rw [halves_at _ _ hlt'] at hcx
        have hcf := h6.free k
        have hbd := bytes_el HB.out k
        go_wp2
        go_roundw
        case rel =>
          refine ⟨k + 1, by omega, by go_num, ?_, h7.far (by simp; omega) _, h8.far (by simp; omega) _, h9.far (by simp; omega) _, hbel.setCell g6 _⟩
          have := h6.set (i := k) (by rw [nums_length, halves_len]; exact hlt') (.int .u8 (el (madeL l) k / 2))
          rw [nums_set, halves_set] at this
          exact this
        case measure => simp [intOf]; omega
      · have hdk : decide ((k : Int) < 64) = false := by simp; omega
        have hk64 : k = 64 := by omega
        rw [hk64, halves_all] at h6
        clear hk64
        go_wp2
        obtain ⟨wo, rfl⟩ : ∃ wo : World, wo = wr := ⟨_, rfl⟩
        have HHB := Lib.hid (fun i => half_bd HB.out i)
        go_loopw [11] (fun i wr => ∃ j : Nat, j ≤ 64 ∧ i = .int .i64 j ∧ Row wr b6 (nums .u8 (halfL (madeL l))) ∧ Row wr b7 (nums .u8 (part (fun j => el (halfL (madeL l)) (j % 8 * 8 + j / 8)) 64 j)) ∧ Row wr b8 (nums .u8 (part (fun j => el (halfL (madeL l)) (j / 8 * 8 + 7 - j % 8)) 64 j)) ∧ Row wr b9 (nums .u8 (part (fun j => el (halfL (madeL l)) j + m) 64 j)) ∧ Below w.heap.size w wr)
          (fun i _ => 64 - (intOf i).toNat)
        case atStart => exact ⟨0, by omega, rfl, h6, by rw [part_zero64]; exact h7, by rw [part_zero64]; exact h8, by rw [part_zero64]; exact h9, hbel⟩
        case round =>
          clear h6 h7 h8 h9 hbel
          obtain ⟨j, hj, rfl, h6, h7, h8, h9, hbel⟩ := hrel
          by_cases hlj : j < 64
          · have hdj : decide ((j : Int) < 64) = true := by simp; omega
            have hcx := h6.cell (nums_get (i := j) (by rw [half_len]; exact hlj))
            have hcy := h6.cell (nums_get (i := j % 8 * 8 + j / 8) (by rw [half_len]; omega))
            have hcz := h6.cell (nums_get (i := j / 8 * 8 + 7 - j % 8) (by rw [half_len]; omega))
            have hb := HHB.out j
            have c7 := h7.cell (nums_get (i := j) (by rw [part_len]; exact hlj))
            have f7 := h7.free j
            have c8 := h8.cell (nums_get (i := j) (by rw [part_len]; exact hlj))
            have f8 := h8.free j
            have c9 := h9.cell (nums_get (i := j) (by rw [part_len]; exact hlj))
            have f9 := h9.free j
            go_wp2
            go_roundw
            case rel =>
              refine ⟨j + 1, by omega, by go_num, ((h6.far n67 _).far n68 _).far n69 _, ?_, ?_, ?_, ((hbel.setCell g7 _).setCell g8 _).setCell g9 _⟩
              · rw [← part_set, ← nums_set]
                exact ((h7.set (by rw [nums_length, part_len]; exact hlj) _).far n78 _).far n79 _
              · rw [← part_set, ← nums_set]
                exact ((h8.far (Ne.symm n78) _).set (by rw [nums_length, part_len]; exact hlj) _).far n89 _
              · rw [← part_set, ← nums_set]
                exact ((h9.far (Ne.symm n79) _).far (Ne.symm n89) _).set (by rw [nums_length, part_len]; exact hlj) _
            case measure => simp [intOf]; omega
          · have hdj : decide ((j : Int) < 64) = false := by simp; omega
            have hj64 : j = 64 := by omega
            rw [hj64, part_all] at h7 h8 h9
            clear hj64
            go_wp2_with fail
            refine (filter_ok _ _ _ _ (half_len _) h6.rd (half_bytes HB.out)).mono ?_
            rintro e w3 ⟨⟨b12, q12, rfl, h12⟩, hb3⟩
            have h7 := h7.below hb3
            have h8 := h8.below hb3
            have h9 := h9.below hb3
            have h12 := h12.row_
            have hbel := below_then hbel hb3
            clear hb3 h6 q12
            go_wp2_with fail
            refine (filter_ok _ _ _ (turnL (halfL (madeL l))) (turn_len _) h7.rd (turn_bytes (half_bytes HB.out))).mono ?_
            rintro e w4 ⟨⟨b14, q14, rfl, h14⟩, hb4⟩
            have h8 := h8.below hb4
            have h9 := h9.below hb4
            have h12 := h12.below hb4
            have h14 := h14.row_
            have hbel := below_then hbel hb4
            clear hb4 h7 q14
            go_wp2_with fail
            refine (filter_ok _ _ _ (mirL (halfL (madeL l))) (mir_len _) h8.rd (mir_bytes (half_bytes HB.out))).mono ?_
            rintro e w5 ⟨⟨b16, q16, rfl, h16⟩, hb5⟩
            have h9 := h9.below hb5
            have h12 := h12.below hb5
            have h14 := h14.below hb5
            have h16 := h16.row_
            have hbel := below_then hbel hb5
            clear hb5 h8 q16
            go_wp2_with fail
            refine (filter_ok _ _ _ (liteL (halfL (madeL l)) m) (lite_len _ _) h9.rd (lite_bytes HB.out m hp)).mono ?_
            rintro e w6 ⟨⟨b18, q18, rfl, h18⟩, hb6⟩
            have h12 := h12.below hb6
            have h14 := h14.below hb6
            have h16 := h16.below hb6
            have h18 := h18.row_
            have hbel := below_then hbel hb6
            clear hb6 h9 q18
            go_wp2
            obtain ⟨wo, rfl⟩ : ∃ wo : World, wo = w6 := ⟨_, rfl⟩
            go_loopw [20] (fun i wr => ∃ j q : Nat, j ≤ 64 ∧ i = .int .i64 j ∧ Hid (wr = wo.drewN q)) (fun i _ => 64 - (intOf i).toNat)
            case atStart => exact ⟨0, 0, by omega, rfl, rfl⟩
            case round =>
              obtain ⟨j, q, hj, rfl, hw⟩ := hrel
              by_cases hlj : j < 64
              · have hdj : decide ((j : Int) < 64) = true := by simp; omega
                have hx1 : wr.cell? ⟨b14, j, none⟩ = some (.int .u8 (el (grid (filt (cell (halfL (madeL l))))) (j % 8 * 8 + j / 8))) := by
                  rw [hw.out, ← turn_filt _ _ hlj]; exact h14.cell (nums_get (by rw [grid_len]; exact hlj))
                have hx2 : wr.cell? ⟨b12, j % 8 * 8 + j / 8, none⟩ = some (.int .u8 (el (grid (filt (cell (halfL (madeL l))))) (j % 8 * 8 + j / 8))) := by
                  rw [hw.out]; exact h12.cell (nums_get (by rw [grid_len]; omega))
                have hx3 : wr.cell? ⟨b16, j, none⟩ = some (.int .u8 (el (grid (filt (cell (halfL (madeL l))))) (j / 8 * 8 + 7 - j % 8))) := by
                  rw [hw.out, ← mir_filt _ _ hlj]; exact h16.cell (nums_get (by rw [grid_len]; exact hlj))
                have hx4 : wr.cell? ⟨b12, j / 8 * 8 + 7 - j % 8, none⟩ = some (.int .u8 (el (grid (filt (cell (halfL (madeL l))))) (j / 8 * 8 + 7 - j % 8))) := by
                  rw [hw.out]; exact h12.cell (nums_get (by rw [grid_len]; omega))
                have hx5 : wr.cell? ⟨b18, j, none⟩ = some (.int .u8 (el (grid (filt (cell (halfL (madeL l))))) j + m)) := by
                  rw [hw.out, ← lite_filt _ _ _ hlj]; exact h18.cell (nums_get (by rw [grid_len]; exact hlj))
                have hx6 : wr.cell? ⟨b12, j, none⟩ = some (.int .u8 (el (grid (filt (cell (halfL (madeL l))))) j)) := by
                  rw [hw.out]; exact h12.cell (nums_get (by rw [grid_len]; exact hlj))
                have hv := bytes_el (bytes_filt _ (half_bytes HB.out)) j
                have e1 : IntKind.i64.wrap (el (grid (filt (cell (halfL (madeL l))))) j + m) = el (grid (filt (cell (halfL (madeL l))))) j + m := IntWalk.i64_in _ (by omega)
                have hw2 : ∀ p, wr.drewN p = wo.drewN (q + p) := fun p => by rw [hw.out, World.drewN_drewN]
                have HW2 := Lib.hid hw2
                clear hw2
                go_wp2
                go_quiet (fail)
                go_wp2
                go_roundw
                case rel => exact ⟨j + 1, q + nq, by omega, by go_num, HW2.out nq⟩
                case measure => simp [intOf]; omega
              · have hdj : decide ((j : Int) < 64) = false := by simp; omega
                go_wp2
                go_ret
                exact ⟨rfl, by rw [hw.out]; exact below_drewN hbel _⟩

theorem loopTurned_walk (a0 : Option Addr) (len0 cap0 : Nat) (z0 : List Int) (a1 : Int) (w : World) (w0 : IsRow .u8 w a0 len0 cap0 z0) (w1 : (Lit.int .i64 a1).wf = true) :
    Calls Try.prog 7 #[.slice a0 len0 cap0, .int .i64 a1] w fun e w' => e = .returned (.bool true) ∧ Below w.heap.size w w' := by
  obtain ⟨h1, h2, h3, h4, h5⟩ := w0.rd
  rcases Nat.lt_or_ge 64 len0 with h | h
  · exact turned_long w a0 len0 cap0 a1 h (Nat.le_trans h2 h3)
  · have := turned_short w a0 cap0 (z0.take len0) a1 (by omega) h4 (bytes_of_wf h5)
    rwa [h1] at this
end Go.Proofs.Ytdaenekipbimgaa
