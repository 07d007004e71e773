/- The walk of praxinoscoperef15.Filter: 64 samples, filtered; else the error. -/
import Derived.Test.YtdaenekipbimgaaLoopL
set_option linter.unusedVariables false
set_option linter.unusedSimpArgs false
namespace Go.Proofs.Ytdaenekipbimgaa
open Go.RowKit

set_option maxHeartbeats 1000000 in
theorem refFilter_no (w : World) (A : Option Addr) (n c : Nat) (hn : n ≠ 64) :
    Calls Try.prog 12 #[.slice A n c] w fun e w' => e = .returned (.tuple #[.slice none 0 0, .int .i64 2]) ∧ Below w.heap.size w w' := by
  have h1 : ((n : Int) == 64) = false := beq_eq_false_iff_ne.2 (by omega)
  have h2 : ((n : Int) != 64) = true := by rw [bne_iff_ne]; omega
  clear hn
  go_enter Try.func12, Try.ntmps12
  go_wp2
  go_ret2
  exact ⟨rfl, Below.refl _ _⟩

theorem refSoften_ok (w : World) (A : Option Addr) (n c : Nat) (l : List Int) (hn : l.length = n) (h : rowOk l) (hr : Rd w A (nums .i64 l)) :
    Calls Try.prog 14 #[.slice A n c] w fun e w' => (∃ b cap, e = .returned (.tuple #[.slice (some ⟨b, 0, none⟩) 8 cap, .int .i64 0]) ∧ w.heap.size ≤ b ∧ 8 ≤ cap ∧ Row w' b (nums .i64 (softL l))) ∧ Below w.heap.size w w' := by
  subst hn
  refine (refSoftenF w A c l hr).mono fun e w' ⟨h1, h2⟩ => ⟨?_, h2⟩
  obtain ⟨_, v, rfl, hv⟩ := h1.elim (fun h3 => h3) (fun h3 => absurd h h3.1)
  have hl : (nums .i64 (softL l)).length = 8 := by rw [nums_length, softL_len]
  rcases hv.form with ⟨_, h⟩ | ⟨g, cap, cs, rfl, h2, h3, h4, h5, h6⟩
  · rw [h] at hl; simp at hl
  · rw [hl] at h5 ⊢
    exact ⟨g, cap, rfl, h2, h5, h3.row h4⟩

theorem filt_col (l : List Int) (k y : Nat) (hk : k < 8) (hy : y < 8) : (el (softL (lineL (grid (softR (cell l))) k 8 8)) y + 8) / 16 = filt (cell l) y k := by
  rw [softL_col _ _ _ hy, filt]
  rw [softC_congr (fun a b ha hb => cell_grid (softR (cell l)) a b ha hb) _ _ hy hk]

set_option maxHeartbeats 8000000 in
set_option maxRecDepth 100000 in
theorem refFilter_ok (w : World) (A : Option Addr) (c : Nat) (l : List Int) (hl : l.length = 64) (hr : Rd w A (nums .u8 l)) (hb : bytes l) :
    Calls Try.prog 12 #[.slice A 64 c] w fun e w' => (∃ b, w.heap.size ≤ b ∧ e = .returned (.tuple #[.slice (some ⟨b, 0, none⟩) 64 64, .int .i64 0]) ∧ Row w' b (nums .u8 (grid (filt (cell l))))) ∧ Below w.heap.size w w' := by
  obtain ⟨b, o, rfl, hlt, hc⟩ := hr.at_ (i := 0) (by rw [nums_length]; omega)
  have HL := Lib.hid hl
  have HC : Hid (∀ k W, k < 64 → Below w.heap.size w W → W.cell? ⟨b, o + k, none⟩ = some (.int .u8 (el l k))) := Lib.hid (fun k W hk hb => (hb.cell (by exact hlt)).trans (hc k _ (nums_get (by rw [hl]; exact hk))))
  have HB := Lib.hid hb
  clear hl hc hr hb
  have hmk := make64
  have hA := Lib.hid (Blk.new w 44 (nums .i64 zero64))
  have hA1 := Lib.hid (below_alloc (Below.refl w.heap.size w) (.cells (nums .i64 zero64).toArray 44))
  go_enter Try.func12, Try.ntmps12
  go_wp2
  go_loopw [5] (fun i wr => ∃ k : Nat, k ≤ 8 ∧ i = .int .i64 k ∧ Blk wr w.heap.size 44 (nums .i64 (grid (upR (softR (cell l)) k))) ∧ Below w.heap.size w wr)
    (fun i _ => 8 - (intOf i).toNat)
  case atStart => exact ⟨0, by omega, rfl, by rw [upR_zero]; exact hA.out, hA1.out⟩
  case round =>
    clear hA hA1
    obtain ⟨k, hk, rfl, ho, hbel⟩ := hrel
    by_cases hlt' : k < 8
    · have hdk : decide ((k : Int) < 8) = true := by simp; omega
      clear hmk
      go_wp2
      obtain ⟨wo, rfl⟩ : ∃ wo : World, wo = wr := ⟨_, rfl⟩
      go_loopw [6, 7] (fun v i wr => ∃ j : Nat, j ≤ 8 ∧ i = .int .i64 j ∧ Own wr (w.heap.size + 1) 3 v (nums .i64 (lineL l (8 * k) 1 j)) ∧ Blk wr w.heap.size 44 (nums .i64 (grid (upR (softR (cell l)) k))) ∧ Below w.heap.size w wr)
        (fun _ i _ => 8 - (intOf i).toNat)
      case atStart => exact ⟨0, by omega, rfl, Own.nil _ _ _, ho, hbel⟩
      case round =>
        clear ho hbel
        obtain ⟨j, hj, rfl, hown, ho, hbel⟩ := hrel
        by_cases hlj : j < 8
        · have hdj : decide ((j : Int) < 8) = true := by simp; omega
          have hcx := HC.out (8 * k + j) wr (by omega) hbel
          have hbd := bytes_el HB.out (8 * k + j)
          have hsz := ho.lt
          have hlen : (nums .i64 (lineL l (8 * k) 1 j)).length ≤ 8 := by rw [nums_length, lineL_len]; omega
          go_wp2_with (refine append_one rfl (.tmp 29) (.tmp 38) 23 3 (.int .i64 0) 8 rfl Try.underlying23 info3 rfl (w.heap.size + 1) _ _ (nums .i64 (lineL l (8 * k) 1 j)) rfl rfl rfl hown hsz (by simp only [maxLen]; omega) (by omega) ?_; intro v' w1 hown1 hg1)
          have hg1 : wr.grownBy w1 u6.ownBlock := hg1
          have hne : ∀ q, u6.ownBlock = some q → w.heap.size + 1 ≤ q := fun q hq => (hown.base q hq).1
          have ho1 : Blk w1 w.heap.size 44 _ := (hg1.block _ ho.lt (fun h => by have := hne _ h.symm; omega)).trans ho
          have hbel1 := hbel.grown hg1 hbel.size (fun q hq => by have := hne q hq; omega)
          clear hcx ho hbel hown hne
          go_wp2
          go_roundw
          case rel =>
            refine ⟨j + 1, by omega, by go_num, ?_, ho1, hbel1⟩
            rw [lineL_succ, nums_append, line, Nat.mul_one]
            exact hown1
          case measure => simp [intOf]; omega
        · have hj8 : j = 8 := by omega
          rw [hj8] at hown
          clear hj8
          obtain ⟨A, cc, rfl, hcap, _, hrd⟩ := hown.rd
          rw [nums_length, lineL_len] at hcap ⊢
          have HOK : Hid (rowOk (lineL l (8 * k) 1 8)) := Lib.hid ⟨lineL_len _ _ _ _, fun i hi => by rw [lineL_el _ _ _ _ _ hi, line]; have := bytes_el HB.out (8 * k + i * 1); omega⟩
          have HRD := Lib.hid hrd
          clear hrd hown
          go_wp2_with fail
          refine (refSoften_ok _ A 8 cc _ (lineL_len _ _ _ _) HOK.out HRD.out).mono ?_
          rintro e w1 ⟨⟨b1, cap1, rfl, hb1, hcap1, hr1⟩, hbl1⟩
          have ho1 := ho.below hbl1
          have hbel1 := below_then hbel hbl1
          have hszb := hbel.size
          have hszo := ho.lt
          have hne1 : b1 ≠ w.heap.size := by omega
          clear ho hbel HRD
          go_wp2
          obtain ⟨wo, rfl⟩ : ∃ wo : World, wo = w1 := ⟨_, rfl⟩
          go_loopw [10] (fun i wr => ∃ j : Nat, j ≤ 8 ∧ i = .int .i64 j ∧ Blk wr w.heap.size 44 (nums .i64 (putf (el (softL (lineL l (8 * k) 1 8))) (grid (upR (softR (cell l)) k)) (8 * k) 1 j)) ∧ Row wr b1 (nums .i64 (softL (lineL l (8 * k) 1 8))) ∧ Below w.heap.size w wr)
            (fun i _ => 8 - (intOf i).toNat)
          case atStart => exact ⟨0, by omega, rfl, ho1, hr1, hbel1⟩
          case round =>
            clear ho1 hr1 hbel1
            obtain ⟨j, hj, rfl, ho, hr1, hbel⟩ := hrel
            by_cases hlj : j < 8
            · have hcx := hr1.cell (nums_get (i := j) (by rw [softL_len]; exact hlj))
              have hcy := ho.cell (i := 8 * k + j) (nums_get (by rw [putf_len, grid_len]; omega))
              have hcf := ho.free (8 * k + j)
              go_wp2
              go_roundw
              case rel =>
                refine ⟨j + 1, by omega, by go_num, ?_, hr1.far hne1 _, hbel.setCell (by simp) _⟩
                have := ho.set (8 * k + j) (.int .i64 (el (softL (lineL l (8 * k) 1 8)) j))
                rw [nums_set] at this
                rw [putf, show 8 * k + j * 1 = 8 * k + j by omega]
                exact this
              case measure => simp [intOf]; omega
            · have hj8 : j = 8 := by omega
              rw [hj8] at ho
              clear hj8
              have ho2 : Blk wr w.heap.size 44 (nums .i64 (grid (upR (softR (cell l)) (k + 1)))) := by
                rw [← upR_succ _ _ hlt']
                rw [putf_congr _ _ _ _ (fun i hi => softL_row l k i hi)] at ho
                exact ho
              clear ho
              go_wp2
              go_roundw
              case rel => exact ⟨k + 1, by omega, by go_num, ho2, hbel⟩
              case measure => simp [intOf]; omega
    · have hk8 : k = 8 := by omega
      rw [hk8, upR_all] at ho
      have hdk : decide ((k : Int) < 8) = false := by simp; omega
      clear hk8
      have hn2 := Lib.hid (Blk.new wr 5 (nums .u8 zero64))
      have ho2 := Lib.hid (ho.alloc (.cells (nums .u8 zero64).toArray 5))
      have hb2 := Lib.hid (below_alloc hbel (.cells (nums .u8 zero64).toArray 5))
      have hgl := ho.lt
      obtain ⟨xs, hxs⟩ : ∃ xs : List Int, xs = grid (softR (cell l)) := ⟨_, rfl⟩
      rw [← hxs] at ho2 ho
      have HX := Lib.hid hxs
      have HXL : Hid (xs.length = 64) := Lib.hid (by rw [hxs, grid_len])
      have HXB : Hid (∀ i, 0 ≤ el xs i ∧ el xs i ≤ 1020) := Lib.hid (by rw [hxs]; exact gridR_bd HB.out)
      clear hxs ho
      go_wp2
      clear hmk
      obtain ⟨wo, rfl⟩ : ∃ wo : World, wo = wr := ⟨_, rfl⟩
      obtain ⟨g, hg⟩ : ∃ g : Nat, g = wo.heap.size := ⟨_, rfl⟩
      rw [← hg] at hn2 hgl ⊢
      clear hg
      go_loopw [12] (fun i wr => ∃ k : Nat, k ≤ 8 ∧ i = .int .i64 k ∧ Blk wr g 5 (nums .u8 (grid (upC (filt (cell l)) k))) ∧ Blk wr w.heap.size 44 (nums .i64 xs) ∧ Below w.heap.size w wr)
        (fun i _ => 8 - (intOf i).toNat)
      case atStart => exact ⟨0, by omega, rfl, by rw [upC_zero]; exact hn2.out, ho2.out, hb2.out⟩
      case round =>
        clear hn2 ho2 hb2 hbel
        obtain ⟨k, hk, rfl, hn, ho, hbel⟩ := hrel
        by_cases hlt' : k < 8
        · have hdk : decide ((k : Int) < 8) = true := by simp; omega
          go_wp2
          obtain ⟨wo, rfl⟩ : ∃ wo : World, wo = wr := ⟨_, rfl⟩
          go_loopw [13, 14] (fun v i wr => ∃ j : Nat, j ≤ 8 ∧ i = .int .i64 j ∧ Own wr (g + 1) 3 v (nums .i64 (lineL xs k 8 j)) ∧ Blk wr g 5 (nums .u8 (grid (upC (filt (cell l)) k))) ∧ Blk wr w.heap.size 44 (nums .i64 xs) ∧ Below w.heap.size w wr)
            (fun _ i _ => 8 - (intOf i).toNat)
          case atStart => exact ⟨0, by omega, rfl, Own.nil _ _ _, hn, ho, hbel⟩
          case round =>
            clear hn ho hbel
            obtain ⟨j, hj, rfl, hown, hn, ho, hbel⟩ := hrel
            by_cases hlj : j < 8
            · have hdj : decide ((j : Int) < 8) = true := by simp; omega
              have hcx := ho.cell (i := 8 * j + k) (nums_get (by rw [HXL.out]; omega))
              have hbd := HXB.out (8 * j + k)
              have hsz := hn.lt
              have hlen : (nums .i64 (lineL xs k 8 j)).length ≤ 8 := by rw [nums_length, lineL_len]; omega
              go_wp2_with (refine append_one rfl (.tmp 67) (.tmp 74) 23 3 (.int .i64 0) 8 rfl Try.underlying23 info3 rfl (g + 1) _ _ (nums .i64 (lineL xs k 8 j)) rfl rfl rfl hown hsz (by simp only [maxLen]; omega) (by omega) ?_; intro v' w1 hown1 hg1)
              have hg1 : wr.grownBy w1 u13.ownBlock := hg1
              have hne : ∀ q, u13.ownBlock = some q → g + 1 ≤ q := fun q hq => (hown.base q hq).1
              have hn1 : Blk w1 g 5 _ := (hg1.block _ hn.lt (fun h => by have := hne _ h.symm; omega)).trans hn
              have ho1 : Blk w1 w.heap.size 44 _ := (hg1.block _ ho.lt (fun h => by have := hne _ h.symm; omega)).trans ho
              have hbel1 := hbel.grown hg1 hbel.size (fun q hq => by have := hne q hq; omega)
              clear hcx ho hn hbel hown hne
              go_wp2
              go_roundw
              case rel =>
                refine ⟨j + 1, by omega, by go_num, ?_, hn1, ho1, hbel1⟩
                rw [lineL_succ, nums_append, line, show k + j * 8 = 8 * j + k by omega]
                exact hown1
              case measure => simp [intOf]; omega
            · have hj8 : j = 8 := by omega
              rw [hj8] at hown
              clear hj8
              obtain ⟨A, cc, rfl, hcap, _, hrd⟩ := hown.rd
              rw [nums_length, lineL_len] at hcap ⊢
              have HOK : Hid (rowOk (lineL xs k 8 8)) := Lib.hid ⟨lineL_len _ _ _ _, fun i hi => by rw [lineL_el _ _ _ _ _ hi, line]; have := HXB.out (k + i * 8); omega⟩
              have HRD := Lib.hid hrd
              clear hrd hown
              go_wp2_with fail
              refine (refSoften_ok _ A 8 cc _ (lineL_len _ _ _ _) HOK.out HRD.out).mono ?_
              rintro e w1 ⟨⟨b1, cap1, rfl, hb1, hcap1, hr1⟩, hbl1⟩
              have hn1 := hn.below hbl1
              have ho1 := ho.below hbl1
              have hbel1 := below_then hbel hbl1
              have hszo := hn.lt
              have hne1 : b1 ≠ g := by omega
              clear ho hn hbel HRD
              go_wp2
              obtain ⟨wo, rfl⟩ : ∃ wo : World, wo = w1 := ⟨_, rfl⟩
              go_loopw [17] (fun i wr => ∃ j : Nat, j ≤ 8 ∧ i = .int .i64 j ∧ Blk wr g 5 (nums .u8 (putf (fun y => filt (cell l) y k) (grid (upC (filt (cell l)) k)) k 8 j)) ∧ Blk wr w.heap.size 44 (nums .i64 xs) ∧ Row wr b1 (nums .i64 (softL (lineL xs k 8 8))) ∧ Below w.heap.size w wr)
                (fun i _ => 8 - (intOf i).toNat)
              case atStart => exact ⟨0, by omega, rfl, hn1, ho1, hr1, hbel1⟩
              case round =>
                clear hn1 ho1 hr1 hbel1
                obtain ⟨j, hj, rfl, hn, ho, hr1, hbel⟩ := hrel
                by_cases hlj : j < 8
                · have hdj : decide ((j : Int) < 8) = true := by simp; omega
                  have hcx := hr1.cell (nums_get (i := j) (by rw [softL_len]; exact hlj))
                  have hcy := hn.cell (i := 8 * j + k) (nums_get (by rw [putf_len, grid_len]; omega))
                  have hcf := hn.free (8 * j + k)
                  have hfc : (el (softL (lineL xs k 8 8)) j + 8) / 16 = filt (cell l) j k := by rw [HX.out]; exact filt_col l k j hlt' hlj
                  have hbf := filt_bd (cell l) (cell_bytes HB.out) j k
                  have hbs : 0 ≤ el (softL (lineL xs k 8 8)) j ∧ el (softL (lineL xs k 8 8)) j ≤ 4080 := by
                    rw [softL_col _ _ _ hlj]
                    exact soft8_bd _ 1020 (fun z => HXB.out _) _
                  go_wp2
                  go_roundw
                  case rel =>
                    refine ⟨j + 1, by omega, by go_num, ?_, ho.far (by show w.heap.size ≠ g; omega) _, hr1.far hne1 _, hbel.setCell (by show w.heap.size ≤ g; omega) _⟩
                    have := hn.set (8 * j + k) (.int .u8 (filt (cell l) j k))
                    rw [nums_set] at this
                    rw [putf, show k + j * 8 = 8 * j + k by omega]
                    exact this
                  case measure => simp [intOf]; omega
                · have hj8 : j = 8 := by omega
                  have hdj : decide ((j : Int) < 8) = false := by simp; omega
                  rw [hj8, upC_succ _ _ hlt'] at hn
                  clear hj8
                  go_wp2
                  go_roundw
                  case rel => exact ⟨k + 1, by omega, by go_num, hn, ho, hbel⟩
                  case measure => simp [intOf]; omega
        · have hk8 : k = 8 := by omega
          rw [hk8, upC_all] at hn
          have hdk : decide ((k : Int) < 8) = false := by simp; omega
          clear hk8
          go_wp2
          go_ret2
          exact ⟨⟨g, by omega, rfl, hn.row_⟩, hbel⟩
end Go.Proofs.Ytdaenekipbimgaa
