/- The walks of praxinoscopelaw09's place, spreads, runs, block and awake; no conditions but that the answer is the wanted one. -/
import Derived.Test.YthjpdcbcgagbjaaScanH
import Derived.Test.YthjpdcbcgagbjaaKfSameInts
import Derived.Test.YthjpdcbcgagbjaaKfSamePairs
set_option linter.unusedVariables false
set_option linter.unusedSimpArgs false
namespace Go.Proofs.Ythjpdcbcgagbjaa
open Go.RowKit

set_option maxHeartbeats 1000000 in
theorem lawPlaceF (w : World) (i x er : Int) (h : placeOf i = (x, er)) :
    Calls Try.prog 20 #[.int .i64 i, .int .i64 x, .int .i64 er] w fun e w' => e = .returned (.bool true) ∧ Below w.heap.size w w' := by
  have H := Lib.hid (placeF w i)
  rw [h] at H
  clear h
  go_enter Try.func20, Try.ntmps20
  go_wp2_with fail
  refine H.out.mono ?_
  rintro e w1 ⟨rfl, hb1⟩
  go_wp2
  go_ret
  exact ⟨rfl, hb1⟩

set_option maxHeartbeats 1000000 in
theorem lawSpreadsF (w : World) (A : Option Addr) (n c : Nat) (l : List (Int × Int)) (hn : l.length = n) (hm : n ≤ 1000000) (hr : Rd w A (pairsV l)) (f : Int) (B : Option Addr) (m c' : Nat) (want : List Int) (er : Int) (hw : want.length = m) (hm' : m ≤ 1000000) (hr' : Rd w B (nums .i64 want)) (h : spreadOf l f = (want, er)) :
    Calls Try.prog 21 #[.slice A n c, .int .i64 f, .slice B m c', .int .i64 er] w fun e w' => e = .returned (.bool true) ∧ Below w.heap.size w w' := by
  have H := Lib.hid (spreadF w A n c l hn hm hr f)
  rw [h] at H
  have HR := Lib.hid hr'
  have HW := Lib.hid hw
  clear h hn hm hr hr' hw
  go_enter Try.func21, Try.ntmps21
  go_wp2_with fail
  refine H.out.mono ?_
  rintro e w1 ⟨⟨A1, m1, c1, rfl, hl1, hf1⟩, hb1⟩
  have HB1 := Lib.hid hb1
  have HF1 := Lib.hid hf1.rd
  have HL1 := Lib.hid hl1
  clear hl1 hf1 hb1
  go_wp2_with fail
  refine (sameInts _ A1 B m1 m c1 c' want want (by have := HL1.out; rwa [nums_length] at this) HW.out (by omega) HF1.out (HR.out.below HB1.out)).mono ?_
  rintro e w2 ⟨rfl, q, rfl⟩
  rw [decide_eq_true (rfl : want = want)]
  go_wp2
  go_ret
  exact ⟨rfl, below_drewN HB1.out _⟩

set_option maxHeartbeats 1000000 in
theorem lawRunsF (w : World) (A : Option Addr) (n c : Nat) (l : List Int) (hn : l.length = n) (hr : Rd w A (nums .i64 l)) (f : Int) (B : Option Addr) (m c' : Nat) (want : List (Int × Int)) (er : Int) (hw : want.length = m) (hm' : m ≤ 1000000) (hr' : Rd w B (pairsV want)) (h : runsOf l f = (want, er)) :
    Calls Try.prog 23 #[.slice A n c, .int .i64 f, .int .i64 er, .slice B m c'] w fun e w' => e = .returned (.bool true) ∧ Below w.heap.size w w' := by
  have H := Lib.hid (runsF w A n c l hn hr f)
  rw [h] at H
  have HR := Lib.hid hr'
  have HW := Lib.hid hw
  clear h hn hr hr' hw
  go_enter Try.func23, Try.ntmps23
  go_wp2_with fail
  refine H.out.mono ?_
  rintro e w1 ⟨⟨A1, c1, rfl, hf1⟩, hb1⟩
  have HB1 := Lib.hid hb1
  have HF1 := Lib.hid hf1.rd
  clear hf1 hb1
  go_wp2_with fail
  refine (samePairs _ A1 B _ m c1 c' want want rfl HW.out hm' HF1.out (HR.out.below HB1.out)).mono ?_
  rintro e w2 ⟨rfl, hb2⟩
  rw [decide_eq_true (rfl : want = want)]
  go_wp2
  go_ret
  exact ⟨rfl, below_then HB1.out hb2⟩

/-- Noughts, and some numbers at places. -/
def blkL (l : List Int) : Nat → List Int
  | 0 => zeros
  | k + 1 => (blkL l k).set (el l (2 * k)).toNat (el l (2 * k + 1))
theorem blkL_len (l : List Int) (k : Nat) : (blkL l k).length = 64 := by
  induction k with
  | zero => simp [blkL, zeros]
  | succ k ih => rw [blkL, List.length_set, ih]

set_option maxHeartbeats 1000000 in
theorem lawBlockF (w : World) (A : Option Addr) (n c : Nat) (l : List Int) (hn : l.length = n) (hm : n ≤ 1000000) (hr : Rd w A (nums .i64 l)) (hok : ∀ k, 2 * k + 1 < n → 0 ≤ el l (2 * k) ∧ el l (2 * k) < 64) :
    Calls Try.prog 22 #[.slice A n c] w fun e w' => (∃ b, w.heap.size ≤ b ∧ e = .returned (.slice (some ⟨b, 0, none⟩) 64 64) ∧ Blk w' b 3 (nums .i64 (blkL l (n / 2)))) ∧ Below w.heap.size w w' := by
  have HC : Hid (∀ W, Below w.heap.size w W → Rd W A (nums .i64 l)) := Lib.hid fun W hW => hr.below hW
  have HN := Lib.hid hn
  have HK := Lib.hid hok
  have hmk := makeZ
  have hb2 := Lib.hid (below_new w (.cells (nums .i64 zeros).toArray 3))
  have hn2 := Lib.hid (Blk.new w 3 (nums .i64 zeros))
  clear hr hn hok
  go_enter Try.func22, Try.ntmps22
  go_wp2
  go_loopw [4] (fun i wr => ∃ k : Nat, 2 * k ≤ n ∧ i = .int .i64 ((2 * k : Nat) : Int) ∧ Hid (Blk wr w.heap.size 3 (nums .i64 (blkL l k))) ∧ Hid (Below w.heap.size w wr)) (fun i _ => n - (intOf i).toNat)
  case atStart => exact ⟨0, by omega, rfl, hn2, hb2⟩
  case round =>
    clear hn2 hb2
    obtain ⟨k, hk, rfl, hblk, hbel⟩ := hrel
    by_cases hlt : 2 * k + 1 < n
    · obtain ⟨b, o, rfl, hbl, hc⟩ := (HC.out wr hbel.out).at_ (i := 2 * k) (by rw [nums_length, HN.out]; omega)
      have c0 : wr.cell? ⟨b, o + 2 * k, none⟩ = some (.int .i64 (el l (2 * k))) := hc _ _ (nums_get (by rw [HN.out]; omega))
      have c1 : wr.cell? ⟨b, o + (2 * k + 1), none⟩ = some (.int .i64 (el l (2 * k + 1))) := hc _ _ (nums_get (by rw [HN.out]; omega))
      obtain ⟨P, hP⟩ : ∃ P : Nat, el l (2 * k) = (P : Int) := ⟨(el l (2 * k)).toNat, by have := HK.out k hlt; omega⟩
      have hP64 : P < 64 := by have := HK.out k hlt; omega
      have hblk2 : Hid (Blk (wr.setCell ⟨w.heap.size, P, none⟩ (.int .i64 (el l (2 * k + 1)))) w.heap.size 3 (nums .i64 (blkL l (k + 1)))) := Lib.hid (by
        have := hblk.out.set P (.int .i64 (el l (2 * k + 1)))
        rw [nums_set] at this
        rw [blkL, hP, Int.toNat_natCast]
        exact this)
      have hbel2 := Lib.hid (hbel.out.setCell (p := ⟨w.heap.size, P, none⟩) (Nat.le_refl _) (.int .i64 (el l (2 * k + 1))))
      have hf := hblk.out.free P
      have hcP : wr.cell? ⟨w.heap.size, P, none⟩ = some (.int .i64 (el (blkL l k) P)) := hblk.out.cell (nums_get (by rw [blkL_len]; exact hP64))
      have i2 : (P : Int) < 64 := by omega
      rw [hP] at c0
      clear hc hP
      go_wp2
      go_region
      all_goals go_wp2
      go_roundw
      case rel => exact ⟨k + 1, by omega, by go_num, Lib.hid hblk2.out.drew, Lib.hid (below_drewN hbel2.out 1)⟩
      case measure => simp [intOf]; omega
    · have hk2 : n / 2 = k := by omega
      have hblk2 : Hid (Blk wr w.heap.size 3 (nums .i64 (blkL l (n / 2)))) := Lib.hid (by rw [hk2]; exact hblk.out)
      clear hk2
      go_wp2
      go_ret
      exact ⟨⟨w.heap.size, Nat.le_refl _, rfl, hblk2.out⟩, hbel.out⟩
end Go.Proofs.Ythjpdcbcgagbjaa
