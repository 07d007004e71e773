/- The walks of praxinoscopelaw15.lines: rows, softened, or columns; no conditions but the bounds that they name. -/
import Derived.Test.YtdaenekipbimgaaLoopG
set_option linter.unusedVariables false
set_option linter.unusedSimpArgs false
namespace Go.Proofs.Ytdaenekipbimgaa
open Go.RowKit

theorem make64i : ∀ w : World, (Instr.makeSlice 23 (.int .i64 64) (.int .i64 64)).run Try.prog w = .ok (.slice (some ⟨w.heap.size, 0, none⟩) 64 64) (w.alloc (.cells (nums .i64 zero64).toArray 3)) := fun _ => by kernel_rfl
theorem soften_ok (w : World) (A : Option Addr) (n c : Nat) (l : List Int) (hn : l.length = n) (h : rowOk l) (hr : Rd w A (nums .i64 l)) :
    Calls Try.prog 13 #[.slice A n c] w fun e w' => (∃ b, w.heap.size ≤ b ∧ e = .returned (.tuple #[.slice (some ⟨b, 0, none⟩) 8 8, .int .i64 0]) ∧ Row w' b (nums .i64 (softL l))) ∧ Below w.heap.size w w' := by
  subst hn
  exact (softenF w A c l hr).mono fun e w' ⟨h1, h2⟩ => ⟨h1.elim (fun h3 => h3.2) (fun h3 => absurd h h3.1), h2⟩

set_option maxHeartbeats 4000000 in
theorem linesRow (w : World) (b : Nat) (xs : List Int) (hl : xs.length = 64) (hr : Rd w (some ⟨b, 0, none⟩) (nums .i64 xs)) (hb : ∀ i, -1099511627776 ≤ el xs i ∧ el xs i ≤ 1099511627776) :
    Calls Try.prog 21 #[.slice (some ⟨b, 0, none⟩) 64 64, .bool false] w fun e w' => (∃ b', w.heap.size ≤ b' ∧ e = .returned (.tuple #[.slice (some ⟨b', 0, none⟩) 64 64, .bool true]) ∧ Row w' b' (nums .i64 (grid (softR (cell xs))))) ∧ Below w.heap.size w w' := by
  obtain ⟨b0, o0, he, hlt, hc⟩ := hr.at_ (i := 0) (by rw [nums_length]; omega)
  obtain ⟨rfl, rfl⟩ : b = b0 ∧ 0 = o0 := by simpa using he
  have HL := Lib.hid hl
  have HC := Lib.hid hc
  have HB := Lib.hid hb
  have hn := Blk.new w 3 (nums .i64 zero64)
  have hb1 := below_alloc (Below.refl w.heap.size w) (.cells (nums .i64 zero64).toArray 3)
  clear hl hc hr hb he
  have hmk := make64i
  go_enter Try.func21, Try.ntmps21
  go_wp2
  go_loopw [7] (fun i wr => ∃ k : Nat, k ≤ 8 ∧ i = .int .i64 k ∧ Blk wr w.heap.size 3 (nums .i64 (grid (upR (softR (cell xs)) k))) ∧ Below w.heap.size w wr)
    (fun i _ => 8 - (intOf i).toNat)
  case atStart => exact ⟨0, by omega, rfl, by rw [upR_zero]; exact hn, hb1⟩
  case round =>
    clear hn hb1 hmk
    obtain ⟨k, hk, rfl, ho, hbel⟩ := hrel
    by_cases hlt' : k < 8
    · have hdk : decide ((k : Int) < 8) = true := by simp; omega
      go_wp2
      obtain ⟨wo, rfl⟩ : ∃ wo : World, wo = wr := ⟨_, rfl⟩
      go_loopw [10, 11] (fun v i wr => ∃ j : Nat, j ≤ 8 ∧ i = .int .i64 j ∧ Own wr (w.heap.size + 1) 3 v (nums .i64 (lineL xs (8 * k) 1 j)) ∧ Blk wr w.heap.size 3 (nums .i64 (grid (upR (softR (cell xs)) k))) ∧ Below w.heap.size w wr)
        (fun _ i _ => 8 - (intOf i).toNat)
      case atStart => exact ⟨0, by omega, rfl, Own.nil _ _ _, ho, hbel⟩
      case round =>
        clear ho hbel
        obtain ⟨j, hj, rfl, hown, ho, hbel⟩ := hrel
        by_cases hlj : j < 8
        · have hdj : decide ((j : Int) < 8) = true := by simp; omega
          have hcx : wr.cell? ⟨b, 8 * k + j, none⟩ = some (.int .i64 (line xs (8 * k) 1 j)) := (hbel.cell (by exact hlt)).trans (by
            have := HC.out (8 * k + j * 1) _ (nums_get (by rw [HL.out]; omega))
            rw [line]
            simpa using this)
          have hsz := ho.lt
          have hlen : (nums .i64 (lineL xs (8 * k) 1 j)).length ≤ 8 := by rw [nums_length, lineL_len]; omega
          go_wp2_with (refine append_one rfl (.tmp 28) (.tmp 37) 23 3 (.int .i64 0) 8 rfl Try.underlying23 info3 rfl (w.heap.size + 1) _ _ (nums .i64 (lineL xs (8 * k) 1 j)) rfl rfl rfl hown hsz (by simp only [maxLen]; omega) (by omega) ?_; intro v' w1 hown1 hg1)
          have hg1 : wr.grownBy w1 u10.ownBlock := hg1
          have hne : ∀ q, u10.ownBlock = some q → w.heap.size + 1 ≤ q := fun q hq => (hown.base q hq).1
          have ho1 : Blk w1 w.heap.size 3 _ := (hg1.block _ ho.lt (fun h => by have := hne _ h.symm; omega)).trans ho
          have hbel1 := hbel.grown hg1 hbel.size (fun q hq => by have := hne q hq; omega)
          clear hcx ho hbel hown hne
          go_wp2
          go_roundw
          case rel =>
            refine ⟨j + 1, by omega, by go_num, ?_, ho1, hbel1⟩
            rw [lineL_succ, nums_append]
            exact hown1
          case measure => simp [intOf]; omega
        · have hj8 : j = 8 := by omega
          rw [hj8] at hown
          clear hj8
          obtain ⟨A, cc, rfl, hcap, _, hrd⟩ := hown.rd
          rw [nums_length, lineL_len] at hcap ⊢
          have hok : rowOk (lineL xs (8 * k) 1 8) := ⟨lineL_len _ _ _ _, fun i hi => by rw [lineL_el _ _ _ _ _ hi, line]; exact HB.out _⟩
          have HOK := Lib.hid hok
          have HRD := Lib.hid hrd
          clear hok hrd hown
          go_wp2_with fail
          refine (soften_ok _ A 8 cc _ (lineL_len _ _ _ _) HOK.out HRD.out).mono ?_
          rintro e w1 ⟨⟨b1, hb1, rfl, hr1⟩, hbl1⟩
          have ho1 := ho.below hbl1
          have hbel1 := below_then hbel hbl1
          have hszb := hbel.size
          have hszo := ho.lt
          have hne1 : b1 ≠ w.heap.size := by omega
          clear ho hbel HRD
          go_wp2
          obtain ⟨wo, rfl⟩ : ∃ wo : World, wo = w1 := ⟨_, rfl⟩
          go_loopw [14] (fun i wr => ∃ j : Nat, j ≤ 8 ∧ i = .int .i64 j ∧ Blk wr w.heap.size 3 (nums .i64 (putf (el (softL (lineL xs (8 * k) 1 8))) (grid (upR (softR (cell xs)) k)) (8 * k) 1 j)) ∧ Row wr b1 (nums .i64 (softL (lineL xs (8 * k) 1 8))) ∧ Below w.heap.size w wr)
            (fun i _ => 8 - (intOf i).toNat)
          case atStart => exact ⟨0, by omega, rfl, ho1, hr1, hbel1⟩
          case round =>
            clear ho1 hr1 hbel1
            obtain ⟨j, hj, rfl, ho, hr1, hbel⟩ := hrel
            by_cases hlj : j < 8
            · have hcx := hr1.cell (nums_get (i := j) (by rw [softL_len]; exact hlj))
              have hcy := ho.cell (i := 8 * k + j) (nums_get (by rw [putf_len, grid_len]; omega))
              have hcf := ho.free (8 * k + j)
              go_wp2
              go_roundw
              case rel =>
                refine ⟨j + 1, by omega, by go_num, ?_, hr1.far hne1 _, hbel.setCell (by simp) _⟩
                have := ho.set (8 * k + j) (.int .i64 (el (softL (lineL xs (8 * k) 1 8)) j))
                rw [nums_set] at this
                rw [putf, show 8 * k + j * 1 = 8 * k + j by omega]
                exact this
              case measure => simp [intOf]; omega
            · have hj8 : j = 8 := by omega
              rw [hj8] at ho
              clear hj8
              have ho2 : Blk wr w.heap.size 3 (nums .i64 (grid (upR (softR (cell xs)) (k + 1)))) := by
                rw [← upR_succ _ _ hlt']
                rw [putf_congr _ _ _ _ (fun i hi => softL_row xs k i hi)] at ho
                exact ho
              clear ho
              go_wp2
              go_roundw
              case rel => exact ⟨k + 1, by omega, by go_num, ho2, hbel⟩
              case measure => simp [intOf]; omega
    · have hk8 : k = 8 := by omega
      rw [hk8, upR_all] at ho
      clear hk8
      go_wp2
      go_ret2
      exact ⟨⟨w.heap.size, Nat.le_refl _, rfl, ho.row_⟩, hbel⟩

set_option maxHeartbeats 4000000 in
theorem linesCol (w : World) (b : Nat) (xs : List Int) (hl : xs.length = 64) (hr : Rd w (some ⟨b, 0, none⟩) (nums .i64 xs)) (hb : ∀ i, -1099511627776 ≤ el xs i ∧ el xs i ≤ 1099511627776) :
    Calls Try.prog 21 #[.slice (some ⟨b, 0, none⟩) 64 64, .bool true] w fun e w' => (∃ b', w.heap.size ≤ b' ∧ e = .returned (.tuple #[.slice (some ⟨b', 0, none⟩) 64 64, .bool true]) ∧ Row w' b' (nums .i64 (grid (softC (cell xs))))) ∧ Below w.heap.size w w' := by
  obtain ⟨b0, o0, he, hlt, hc⟩ := hr.at_ (i := 0) (by rw [nums_length]; omega)
  obtain ⟨rfl, rfl⟩ : b = b0 ∧ 0 = o0 := by simpa using he
  have HL := Lib.hid hl
  have HC := Lib.hid hc
  have HB := Lib.hid hb
  have hn := Blk.new w 3 (nums .i64 zero64)
  have hb1 := below_alloc (Below.refl w.heap.size w) (.cells (nums .i64 zero64).toArray 3)
  clear hl hc hr hb he
  have hmk := make64i
  go_enter Try.func21, Try.ntmps21
  go_wp2
  go_loopw [7] (fun i wr => ∃ k : Nat, k ≤ 8 ∧ i = .int .i64 k ∧ Blk wr w.heap.size 3 (nums .i64 (grid (upC (softC (cell xs)) k))) ∧ Below w.heap.size w wr)
    (fun i _ => 8 - (intOf i).toNat)
  case atStart => exact ⟨0, by omega, rfl, by rw [upC_zero]; exact hn, hb1⟩
  case round =>
    clear hn hb1 hmk
    obtain ⟨k, hk, rfl, ho, hbel⟩ := hrel
    by_cases hlt' : k < 8
    · have hdk : decide ((k : Int) < 8) = true := by simp; omega
      go_wp2
      obtain ⟨wo, rfl⟩ : ∃ wo : World, wo = wr := ⟨_, rfl⟩
      go_loopw [10, 11] (fun v i wr => ∃ j : Nat, j ≤ 8 ∧ i = .int .i64 j ∧ Own wr (w.heap.size + 1) 3 v (nums .i64 (lineL xs (k) 8 j)) ∧ Blk wr w.heap.size 3 (nums .i64 (grid (upC (softC (cell xs)) k))) ∧ Below w.heap.size w wr)
        (fun _ i _ => 8 - (intOf i).toNat)
      case atStart => exact ⟨0, by omega, rfl, Own.nil _ _ _, ho, hbel⟩
      case round =>
        clear ho hbel
        obtain ⟨j, hj, rfl, hown, ho, hbel⟩ := hrel
        by_cases hlj : j < 8
        · have hdj : decide ((j : Int) < 8) = true := by simp; omega
          have hcx : wr.cell? ⟨b, k + j * 8, none⟩ = some (.int .i64 (line xs (k) 8 j)) := (hbel.cell (by exact hlt)).trans (by
            have := HC.out (k + j * 8) _ (nums_get (by rw [HL.out]; omega))
            rw [line]
            simpa using this)
          have hsz := ho.lt
          have hlen : (nums .i64 (lineL xs (k) 8 j)).length ≤ 8 := by rw [nums_length, lineL_len]; omega
          go_wp2_with (refine append_one rfl (.tmp 28) (.tmp 37) 23 3 (.int .i64 0) 8 rfl Try.underlying23 info3 rfl (w.heap.size + 1) _ _ (nums .i64 (lineL xs (k) 8 j)) rfl rfl rfl hown hsz (by simp only [maxLen]; omega) (by omega) ?_; intro v' w1 hown1 hg1)
          have hg1 : wr.grownBy w1 u10.ownBlock := hg1
          have hne : ∀ q, u10.ownBlock = some q → w.heap.size + 1 ≤ q := fun q hq => (hown.base q hq).1
          have ho1 : Blk w1 w.heap.size 3 _ := (hg1.block _ ho.lt (fun h => by have := hne _ h.symm; omega)).trans ho
          have hbel1 := hbel.grown hg1 hbel.size (fun q hq => by have := hne q hq; omega)
          clear hcx ho hbel hown hne
          go_wp2
          go_roundw
          case rel =>
            refine ⟨j + 1, by omega, by go_num, ?_, ho1, hbel1⟩
            rw [lineL_succ, nums_append]
            exact hown1
          case measure => simp [intOf]; omega
        · have hj8 : j = 8 := by omega
          rw [hj8] at hown
          clear hj8
          obtain ⟨A, cc, rfl, hcap, _, hrd⟩ := hown.rd
          rw [nums_length, lineL_len] at hcap ⊢
          have hok : rowOk (lineL xs (k) 8 8) := ⟨lineL_len _ _ _ _, fun i hi => by rw [lineL_el _ _ _ _ _ hi, line]; exact HB.out _⟩
          have HOK := Lib.hid hok
          have HRD := Lib.hid hrd
          clear hok hrd hown
          go_wp2_with fail
          refine (soften_ok _ A 8 cc _ (lineL_len _ _ _ _) HOK.out HRD.out).mono ?_
          rintro e w1 ⟨⟨b1, hb1, rfl, hr1⟩, hbl1⟩
          have ho1 := ho.below hbl1
          have hbel1 := below_then hbel hbl1
          have hszb := hbel.size
          have hszo := ho.lt
          have hne1 : b1 ≠ w.heap.size := by omega
          clear ho hbel HRD
          go_wp2
          obtain ⟨wo, rfl⟩ : ∃ wo : World, wo = w1 := ⟨_, rfl⟩
          go_loopw [14] (fun i wr => ∃ j : Nat, j ≤ 8 ∧ i = .int .i64 j ∧ Blk wr w.heap.size 3 (nums .i64 (putf (el (softL (lineL xs (k) 8 8))) (grid (upC (softC (cell xs)) k)) (k) 8 j)) ∧ Row wr b1 (nums .i64 (softL (lineL xs (k) 8 8))) ∧ Below w.heap.size w wr)
            (fun i _ => 8 - (intOf i).toNat)
          case atStart => exact ⟨0, by omega, rfl, ho1, hr1, hbel1⟩
          case round =>
            clear ho1 hr1 hbel1
            obtain ⟨j, hj, rfl, ho, hr1, hbel⟩ := hrel
            by_cases hlj : j < 8
            · have hcx := hr1.cell (nums_get (i := j) (by rw [softL_len]; exact hlj))
              have hcy := ho.cell (i := k + j * 8) (nums_get (by rw [putf_len, grid_len]; omega))
              have hcf := ho.free (k + j * 8)
              go_wp2
              go_roundw
              case rel =>
                refine ⟨j + 1, by omega, by go_num, ?_, hr1.far hne1 _, hbel.setCell (by simp) _⟩
                have := ho.set (k + j * 8) (.int .i64 (el (softL (lineL xs (k) 8 8)) j))
                rw [nums_set] at this
                rw [putf, show k + j * 8 = k + j * 8 by omega]
                exact this
              case measure => simp [intOf]; omega
            · have hj8 : j = 8 := by omega
              rw [hj8] at ho
              clear hj8
              have ho2 : Blk wr w.heap.size 3 (nums .i64 (grid (upC (softC (cell xs)) (k + 1)))) := by
                rw [← upC_succ _ _ hlt']
                rw [putf_congr _ _ _ _ (fun i hi => softL_col xs k i hi)] at ho
                exact ho
              clear ho
              go_wp2
              go_roundw
              case rel => exact ⟨k + 1, by omega, by go_num, ho2, hbel⟩
              case measure => simp [intOf]; omega
    · have hk8 : k = 8 := by omega
      rw [hk8, upC_all] at ho
      clear hk8
      go_wp2
      go_ret2
      exact ⟨⟨w.heap.size, Nat.le_refl _, rfl, ho.row_⟩, hbel⟩
end Go.Proofs.Ytdaenekipbimgaa
