/- The walks of praxinoscopelaw15's even, some, filters and awake; no conditions. -/
import Derived.Test.YtdaenekipbimgaaLoopC
import Derived.Test.YtdaenekipbimgaaKfSameInts
import Derived.Test.YtdaenekipbimgaaKfSameBytes
import Derived.Outline
set_option linter.unusedVariables false
set_option linter.unusedSimpArgs false
namespace Go.Proofs.Ytdaenekipbimgaa
open Go.RowKit

set_option maxHeartbeats 1000000 in
theorem evenF (w : World) (x : Int) :
    Calls Try.prog 24 #[.int .u8 x] w fun e w' => (∃ b, w.heap.size ≤ b ∧ e = .returned (.slice (some ⟨b, 0, none⟩) 64 64) ∧ Row w' b (nums .u8 (List.replicate 64 x))) ∧ Below w.heap.size w w' := by
  have hmk := make64
  have hn2 := Blk.new w 5 (nums .u8 zero64)
  have hb2 := below_alloc (Below.refl w.heap.size w) (.cells (nums .u8 zero64).toArray 5)
  go_enter Try.func24, Try.ntmps24
  go_wp2
  go_loopw [4] (fun i wr => ∃ k : Nat, k ≤ 64 ∧ i = .int .i64 k ∧ Blk wr w.heap.size 5 (nums .u8 (part (fun _ => x) 64 k)) ∧ Below w.heap.size w wr)
    (fun i _ => 64 - (intOf i).toNat)
  case atStart => exact ⟨0, by omega, rfl, by rw [part_zero64]; exact hn2, hb2⟩
  case round =>
    clear hn2 hb2
    obtain ⟨k, hk, rfl, ho, hbel⟩ := hrel
    by_cases hlt' : k < 64
    · have hoc := ho.cell (nums_get (i := k) (by rw [part_len]; omega))
      have hof := ho.free k
      go_wp2
      go_roundw
      case rel =>
        refine ⟨k + 1, by omega, by go_num, ?_, hbel.setCell (by simp) _⟩
        rw [← part_set, ← nums_set]
        exact ho.set _ _
      case measure => simp [intOf]; omega
    · have hk64 : k = 64 := by omega
      rw [hk64, part_all] at ho
      clear hk64
      go_wp2
      go_ret
      refine ⟨⟨w.heap.size, Nat.le_refl _, rfl, ho.row ?_⟩, hbel⟩
      have : (List.range 64).map (fun _ => x) = List.replicate 64 x := by rw [List.map_const', List.length_range]
      rw [this]
      exact List.prefix_refl _

set_option maxHeartbeats 1000000 in
theorem someF (w : World) (A : Option Addr) (c : Nat) (l : List Int) (hr : Rd w A (nums .u8 l)) (hb : bytes l) (hm : l.length ≤ 1000) :
    Calls Try.prog 25 #[.slice A l.length c] w fun e w' => (∃ b, w.heap.size ≤ b ∧ e = .returned (.slice (some ⟨b, 0, none⟩) 64 64) ∧ Row w' b (nums .u8 (someG l (l.length / 2)))) ∧ Below w.heap.size w w' := by
  have hmk := make64
  have hn2 := Blk.new w 5 (nums .u8 zero64)
  have hb2 := below_alloc (Below.refl w.heap.size w) (.cells (nums .u8 zero64).toArray 5)
  have HR := Lib.hid hr
  have HB := Lib.hid hb
  clear hr hb
  go_enter Try.func25, Try.ntmps25
  go_wp2
  go_loopw [4] (fun i wr => ∃ k : Nat, 2 * k ≤ l.length ∧ i = .int .i64 ((2 * k : Nat) : Int) ∧ Blk wr w.heap.size 5 (nums .u8 (someG l k)) ∧ Below w.heap.size w wr)
    (fun i _ => l.length - (intOf i).toNat)
  case atStart => exact ⟨0, by omega, rfl, hn2, hb2⟩
  case round =>
    clear hn2 hb2
    obtain ⟨k, hk, rfl, ho, hbel⟩ := hrel
    by_cases hlt' : 2 * k + 1 < l.length
    · obtain ⟨b1, o1, rfl, hlt1, hc1⟩ := HR.out.at_ (i := 2 * k) (by rw [nums_length]; omega)
      have hx1 : wr.cell? ⟨b1, o1 + 2 * k, none⟩ = some (.int .u8 (el l (2 * k))) := (hbel.cell (by exact hlt1)).trans (hc1 _ _ (nums_get (by omega)))
      have hx2 : wr.cell? ⟨b1, o1 + (2 * k + 1), none⟩ = some (.int .u8 (el l (2 * k + 1))) := (hbel.cell (by exact hlt1)).trans (hc1 _ _ (nums_get (by omega)))
      have hbd := bytes_el HB.out (2 * k)
      have hoc := ho.cell (nums_get (i := ((el l (2 * k)) % 64).toNat) (by rw [someG_len]; omega))
      have hof := ho.free ((el l (2 * k)) % 64).toNat
      clear hc1
      go_wp2
      go_region
      all_goals go_wp2
      go_roundw
      case rel =>
        refine ⟨k + 1, by omega, by go_num, ?_, (hbel.setCell (p := ⟨w.heap.size, _, none⟩) (Nat.le_refl _) _).drew⟩
        rw [someG, ← nums_set]
        exact (ho.set _ _).drew
      case measure => simp [intOf]; omega
    · have e : l.length / 2 = k := by omega
      go_wp2
      go_ret
      exact ⟨⟨w.heap.size, Nat.le_refl _, rfl, by rw [e]; exact ho.row_⟩, hbel⟩

/-- A block that is filtered, beside what it should be. -/
def isFilt (l want : List Int) : Bool := decide (l.length = 64) && decide (grid (filt (cell l)) = want)
set_option maxHeartbeats 1000000 in
theorem filtersF (w : World) (b b' : Nat) (l want : List Int) (hl : l.length = 64) (hw : want.length = 64) (hr : Rd w (some ⟨b, 0, none⟩) (nums .u8 l)) (hb : bytes l) (hr' : Rd w (some ⟨b', 0, none⟩) (nums .u8 want)) (hb' : bytes want) :
    Calls Try.prog 23 #[.slice (some ⟨b, 0, none⟩) 64 64, .slice (some ⟨b', 0, none⟩) 64 64] w fun e w' => e = .returned (.bool (decide (grid (filt (cell l)) = want))) ∧ Below w.heap.size w w' := by
  have HF := Lib.hid (filter_ok w (some ⟨b, 0, none⟩) 64 l hl hr hb)
  have HR' := Lib.hid hr'
  have HBF := Lib.hid (bytes_filt l hb)
  clear hr hb hr'
  go_enter Try.func23, Try.ntmps23
  go_wp2_with fail
  refine HF.out.mono ?_
  rintro e w1 ⟨⟨b1, hb1, rfl, hr1⟩, hbel⟩
  go_wp2_with fail
  refine (sameBytes _ _ _ _ _ _ _ _ _ (grid_len _) hw hr1.row_.rd (HR'.out.below hbel) HBF.out hb').mono ?_
  rintro e w2 ⟨rfl, rfl⟩
  go_wp2
  go_ret
  exact ⟨rfl, hbel⟩
end Go.Proofs.Ytdaenekipbimgaa
