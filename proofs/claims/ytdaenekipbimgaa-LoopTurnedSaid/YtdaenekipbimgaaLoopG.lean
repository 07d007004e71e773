/- The walks of praxinoscopelaw15's made and lines; no conditions but bounds that they name. -/
import Derived.Test.YtdaenekipbimgaaLoopE
import Derived.Laws.CopyOwn
import Derived.OwnWalk
import Derived.Outline
set_option linter.unusedVariables false
set_option linter.unusedSimpArgs false
namespace Go.Proofs.Ytdaenekipbimgaa
open Go.RowKit

/-- A block of 64 samples, by any bytes. -/
def madeL (l : List Int) : List Int := (List.range 64).map (el l)
theorem madeL_len (l : List Int) : (madeL l).length = 64 := by simp [madeL]
theorem madeL_bytes {l : List Int} (h : bytes l) : bytes (madeL l) := bytes_of_el fun i hi => by
  rw [madeL_len] at hi
  rw [madeL, el_map_range _ _ _ hi]
  exact bytes_el h i
theorem splice_made (l : List Int) (h : l.length ≤ 64) : splice (nums .u8 zero64) 0 (nums .u8 l) = nums .u8 (madeL l) := by
  have e : madeL l = l ++ zero64.drop l.length := by
    apply list_ext
    · simp [madeL, zero64]; omega
    · intro j hj
      rw [madeL_len] at hj
      rw [madeL, el_map_range _ _ _ hj, el_append]
      split
      · rfl
      · rw [el_drop, zero64, el_replicate, el_ge (by omega)]
  rw [e, splice]
  simp [nums, List.map_drop]

theorem nums_one {k : IntKind} {xs : List Int} : ∀ v ∈ nums k xs, v.oneCell' = true := by
  intro v hv
  obtain ⟨x, _, rfl⟩ := List.mem_map.1 hv
  rfl
theorem copy_made (w : World) (A : Option Addr) (c : Nat) (l : List Int) (hl : l.length ≤ 64) (hr : Rd w A (nums .u8 l)) :
    ∃ W, (Builtin.copy_ #[22, 22] 3 #[.slice (some ⟨w.heap.size, 0, none⟩) 64 64, .slice A l.length c]).run Try.prog (w.alloc (.cells (nums .u8 zero64).toArray 5)) = .ok (goInt l.length) W ∧
      Blk W w.heap.size 5 (nums .u8 (madeL l)) ∧ Below w.heap.size w W := by
  have hn := Blk.new w 5 (nums .u8 zero64)
  have hb := below_alloc (Below.refl w.heap.size w) (.cells (nums .u8 zero64).toArray 5)
  have hr := hr.below hb
  by_cases h0 : l = []
  · subst h0
    exact ⟨_, run_copy_none _ 22 22 3 5 _ _ _ _ _ _ Try.underlying22 (by kernel_rfl) (by simp), hn, hb⟩
  · obtain ⟨b, o, rfl, hlt, hc⟩ := hr.at_ (i := 0) (by rw [nums_length]; exact List.length_pos_iff.2 h0)
    have h := run_copy_row (P := Try.prog) _ 22 22 3 5 w.heap.size 0 64 64 ⟨b, o, none⟩ l.length c (nums .u8 zero64).toArray 5 (nums .u8 l) Try.underlying22 (by kernel_rfl) hn (by rw [nums_length]; exact (Nat.min_eq_left hl).symm)
      (fun j v hj => by
        have ha : (⟨b, o, none⟩ : Addr).add j = ⟨b, o + j, none⟩ := by unfold Addr.add; split <;> simp_all
        rw [ha]; exact hc j v hj) (by simp [nums_length, zero64_len]; omega) nums_one
    rw [nums_length] at h
    refine ⟨_, h, ?_, below_setRow hb (Nat.le_refl _) _⟩
    have h2 := setRow_heap _ w.heap.size _ (splice (nums .u8 zero64) 0 (nums .u8 l)).toArray 5 _ hn
    rw [splice_made l hl] at h2
    rw [← splice_made l hl, splice] at h2
    rw [← splice_made l hl]
    simpa [Blk, splice, nums_length] using h2

set_option maxHeartbeats 1000000 in
theorem madeF (w : World) (A : Option Addr) (c : Nat) (l : List Int) (hl : l.length ≤ 64) (hr : Rd w A (nums .u8 l)) :
    Calls Try.prog 20 #[.slice A l.length c] w fun e w' => (∃ b, w.heap.size ≤ b ∧ e = .returned (.slice (some ⟨b, 0, none⟩) 64 64) ∧ Row w' b (nums .u8 (madeL l))) ∧ Below w.heap.size w w' := by
  have hmk := make64
  obtain ⟨W, hrun, hn, hb⟩ := copy_made w A c l hl hr
  have HN := Lib.hid hn
  clear hr hn
  go_enter Try.func20, Try.ntmps20
  go_wp2
  go_ret
  exact ⟨⟨w.heap.size, Nat.le_refl _, rfl, HN.out.row_⟩, hb⟩
end Go.Proofs.Ytdaenekipbimgaa
