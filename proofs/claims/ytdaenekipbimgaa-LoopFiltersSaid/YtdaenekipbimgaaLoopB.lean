/- The walk of loop.Filter: 64 samples, filtered; else the error. -/
import Derived.Test.YtdaenekipbimgaaLoopA
set_option linter.unusedVariables false
set_option linter.unusedSimpArgs false
namespace Go.Proofs.Ytdaenekipbimgaa
open Go.RowKit

theorem info5 : (Try.prog.info? 5).map (fun i => (i.zero, i.size, i.bytes)) = some (some (.int .u8 0), 1, 1) := by kernel_rfl
theorem info3 : (Try.prog.info? 3).map (fun i => (i.zero, i.size, i.bytes)) = some (some (.int .i64 0), 1, 8) := by kernel_rfl
/-- 64 noughts. -/
def zero64 : List Int := List.replicate 64 0
theorem part_zero64 (f : Nat → Int) : part f 64 0 = zero64 := part_zero f 64
theorem zero64_len : zero64.length = 64 := by simp [zero64]
theorem make64 : ∀ w : World, (Instr.makeSlice 22 (.int .i64 64) (.int .i64 64)).run Try.prog w = .ok (.slice (some ⟨w.heap.size, 0, none⟩) 64 64) (w.alloc (.cells (nums .u8 zero64).toArray 5)) := fun _ => by kernel_rfl

set_option maxHeartbeats 1000000 in
theorem filter_no (w : World) (A : Option Addr) (n c : Nat) (hn : n ≠ 64) :
    Calls Try.prog 11 #[.slice A n c] w fun e w' => e = .returned (.tuple #[.slice none 0 0, .int .i64 2]) ∧ Below w.heap.size w w' := by
  have h1 : ((n : Int) == 64) = false := beq_eq_false_iff_ne.2 (by omega)
  have h2 : ((n : Int) != 64) = true := by rw [bne_iff_ne]; omega
  clear hn
  go_enter Try.func11, Try.ntmps11
  go_wp2
  go_ret2
  exact ⟨rfl, Below.refl _ _⟩

set_option maxHeartbeats 2000000 in
set_option maxRecDepth 100000 in
theorem filter_ok (w : World) (A : Option Addr) (c : Nat) (l : List Int) (hl : l.length = 64) (hr : Rd w A (nums .u8 l)) (hb : ∀ x ∈ l, 0 ≤ x ∧ x ≤ 255) :
    Calls Try.prog 11 #[.slice A 64 c] w fun e w' => (∃ b, w.heap.size ≤ b ∧ e = .returned (.tuple #[.slice (some ⟨b, 0, none⟩) 64 64, .int .i64 0]) ∧ Blk w' b 5 (nums .u8 (grid (filt (cell l))))) ∧ Below w.heap.size w w' := by
  obtain ⟨b, o, rfl, hlt, hc⟩ := hr.at_ (i := 0) (by rw [nums_length]; omega)
  have HL := Lib.hid hl
  have HC := Lib.hid hc
  have HB := Lib.hid hb
  clear hl hc hb hr
  have hmk := make64
  go_enter Try.func11, Try.ntmps11
  go_wp2
  have hA := Blk.new w 44 (nums .i64 (List.replicate 64 0))
  go_loopw [17] (fun i wr => ∃ k : Nat, k ≤ 64 ∧ i = .int .i64 k ∧ Blk wr w.heap.size 44 (nums .i64 (part (el l) 64 k)) ∧ Below w.heap.size w wr)
    (fun i _ => 64 - (intOf i).toNat)
  case atStart => exact ⟨0, by omega, rfl, by rw [part_zero]; exact hA, below_alloc (Below.refl _ _) _⟩
  case round =>
    obtain ⟨k, hk, rfl, ho, hbel⟩ := hrel
    clear hA
    by_cases hlt' : k < 64
    · have hcx : wr.cell? ⟨b, o + k, none⟩ = some (.int .u8 (el l k)) := (hbel.cell (by exact hlt)).trans (HC.out k _ (nums_get (by rw [HL.out]; exact hlt')))
      have hoc := ho.cell (nums_get (i := k) (by rw [part_len]; omega))
      have hof := ho.free k
      have hbd := HB.out (el l k) (el_mem (by rw [HL.out]; exact hlt'))
      go_wp2
      go_roundw
      case rel =>
        refine ⟨k + 1, by omega, by go_num, ?_, hbel.setCell (by simp) _⟩
        rw [← part_set, ← nums_set]
        exact ho.set _ _
      case measure => simp [intOf]; omega
    · have hk64 : k = 64 := by omega
      rw [hk64] at ho
      clear hk64
      go_wp2
      obtain ⟨wo, rfl⟩ : ∃ wo : World, wo = wr := ⟨_, rfl⟩
      have h0 : part (el l) 64 64 = grid (rowsDone (cell l) 0) := by
        rw [part_all, rows_zero, grid_cell l HL.out, ← HL.out, range_el]
      rw [h0] at ho
      clear h0
      have hcb : ∀ y x, 0 ≤ cell l y x ∧ cell l y x ≤ 255 := fun y x => by
        unfold cell
        rcases Nat.lt_or_ge (8 * y + x) l.length with h | h
        · exact HB.out _ (el_mem h)
        · rw [el_ge h]; omega
      have HCB := Lib.hid hcb
      clear hcb
      go_loopw [27] (fun i wr => ∃ k : Nat, k ≤ 8 ∧ i = .int .i64 k ∧ Blk wr w.heap.size 44 (nums .i64 (grid (rowsDone (cell l) k))) ∧ Below w.heap.size w wr)
        (fun i _ => 8 - (intOf i).toNat)
      case atStart => exact ⟨0, by omega, rfl, ho, hbel⟩
      case round =>
        clear ho hbel
        obtain ⟨k, hk, rfl, ho, hbel⟩ := hrel
        by_cases hlt' : k < 8
        · have hbd := fun j => grid_bd (rowsDone (cell l) k) 1020 (by omega) (fun y x => rows_bd _ HCB.out k y x) j
          have HBD := Lib.hid hbd
          clear hbd
          go_wp2_with fail
          refine (soften_at _ w.heap.size (8 * k) 1 _ _ _ (by simp) rfl ho (grid_len _) (by omega) (fun i _ => by have := HBD.out (8 * k + i * 1); unfold line; omega)).mono ?_
          rintro e w1 ⟨rfl, ho1, hm1⟩
          have hbel1 := below_mod hbel hm1 (fun i hi => by omega)
          rw [puts_row _ _ hlt'] at ho1
          clear ho
          go_wp2
          go_roundw
          case rel => exact ⟨k + 1, by omega, by go_num, ho1, hbel1⟩
          case measure => simp [intOf]; omega
        · have hk8 : k = 8 := by omega
          rw [hk8] at ho
          clear hk8
          go_wp2
          obtain ⟨wo, rfl⟩ : ∃ wo : World, wo = wr := ⟨_, rfl⟩
          have h0 : grid (rowsDone (cell l) 8) = grid (colsDone (softR (cell l)) 0) := by rw [rows_all, cols_zero]
          rw [h0] at ho
          clear h0
          have hrb : ∀ y x, 0 ≤ softR (cell l) y x ∧ softR (cell l) y x ≤ 1020 := fun y x => soft8_bd _ 255 (HCB.out y) x
          have HRB := Lib.hid hrb
          clear hrb
          go_loopw [35] (fun i wr => ∃ k : Nat, k ≤ 8 ∧ i = .int .i64 k ∧ Blk wr w.heap.size 44 (nums .i64 (grid (colsDone (softR (cell l)) k))) ∧ Below w.heap.size w wr)
            (fun i _ => 8 - (intOf i).toNat)
          case atStart => exact ⟨0, by omega, rfl, ho, hbel⟩
          case round =>
            clear ho hbel
            obtain ⟨k, hk, rfl, ho, hbel⟩ := hrel
            by_cases hlt' : k < 8
            · have hbd := fun j => grid_bd (colsDone (softR (cell l)) k) 4080 (by omega) (fun y x => cols_bd _ HRB.out k y x) j
              have HBD := Lib.hid hbd
              clear hbd
              go_wp2_with fail
              refine (soften_at _ w.heap.size k 8 _ _ _ rfl rfl ho (grid_len _) (by omega) (fun i _ => by have := HBD.out (k + i * 8); unfold line; omega)).mono ?_
              rintro e w1 ⟨rfl, ho1, hm1⟩
              have hbel1 := below_mod hbel hm1 (fun i hi => by omega)
              rw [puts_col _ _ hlt'] at ho1
              clear ho
              go_wp2
              go_roundw
              case rel => exact ⟨k + 1, by omega, by go_num, ho1, hbel1⟩
              case measure => simp [intOf]; omega
            · have hk8 : k = 8 := by omega
              rw [hk8, cols_all] at ho
              clear hk8
              have ho2 := ho.alloc (.cells (nums .u8 zero64).toArray 5)
              have hn2 := Blk.new wr 5 (nums .u8 zero64)
              have hb2 := below_alloc hbel (.cells (nums .u8 zero64).toArray 5)
              have hsz := hbel.size
              go_wp2_with (refine wpList_load_row rfl 44 _ rfl w.heap.size rfl 44 (nums .i64 (grid (softC (softR (cell l))))).toArray (0, 0) _ ho2 Try.underlying44 rfl (by kernel_rfl) ?_)
              have hfb : ∀ y x, 0 ≤ filt (cell l) y x ∧ filt (cell l) y x ≤ 255 := filt_bd _ HCB.out
              have HFB := Lib.hid hfb
              have hcb2 := softC_bd _ HCB.out
              have HCB2 := Lib.hid hcb2
              clear hfb hcb2
              have hnsz : wr.heap.size ≠ w.heap.size := by have := ho.lt; omega
              obtain ⟨wo, rfl⟩ : ∃ wo : World, wo = wr := ⟨_, rfl⟩
              obtain ⟨bb, hbb⟩ : ∃ bb : Nat, bb = wo.heap.size := ⟨_, rfl⟩
              rw [← hbb] at hn2 hsz hnsz ⊢
              have HBB := Lib.hid hbb
              clear hbb
              go_loopw [44] (fun i wr => ∃ k : Nat, k ≤ 64 ∧ i = .int .i64 k ∧ Blk wr bb 5 (nums .u8 (part (el (grid (filt (cell l)))) 64 k)) ∧ Below w.heap.size w wr)
                (fun i _ => 64 - (intOf i).toNat)
              case atStart => exact ⟨0, by omega, rfl, by rw [part_zero64]; exact hn2, hb2⟩
              case round =>
                clear ho ho2 hn2 hbel hb2
                obtain ⟨k, hk, rfl, ho, hbel⟩ := hrel
                by_cases hlt' : k < 64
                · have hix := run_index_agg (P := Try.prog) 44 3 64 (nums .i64 (grid (softC (softR (cell l))))) .i64 .i64 k _ Try.underlying44 (by rw [nums_length, grid_len]) Try.underlying3 (by kernel_rfl) (nums_get (by rw [grid_len]; exact hlt'))
                  have hv := grid_bd _ 4080 (by omega) HCB2.out k
                  have hoc := ho.cell (nums_get (i := k) (by rw [part_len]; omega))
                  have hof := ho.free k
                  go_wp2
                  go_roundw
                  case rel =>
                    refine ⟨k + 1, by omega, by go_num, ?_, hbel.setCell hsz _⟩
                    rw [← part_set, ← nums_set]
                    have e : el (grid (filt (cell l))) k = (el (grid (softC (softR (cell l)))) k + 8) / 16 := by rw [grid_el _ _ hlt', grid_el _ _ hlt', filt]
                    rw [e]
                    exact ho.set _ _
                  case measure => simp [intOf]; omega
                · have hk64 : k = 64 := by omega
                  rw [hk64, part_all, ← grid_len (filt (cell l)), range_el] at ho
                  clear hk64
                  go_wp2
                  go_ret2
                  exact ⟨⟨bb, hsz, rfl, ho⟩, hbel⟩
end Go.Proofs.Ytdaenekipbimgaa
