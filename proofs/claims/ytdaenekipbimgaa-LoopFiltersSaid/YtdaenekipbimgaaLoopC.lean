/- The walk of loop.Soften: a row, softened, or the error. -/
import Derived.Test.YtdaenekipbimgaaLoopB
set_option linter.unusedVariables false
set_option linter.unusedSimpArgs false
namespace Go.Proofs.Ytdaenekipbimgaa
open Go.RowKit

set_option maxHeartbeats 1000000 in
theorem softenF_len (w : World) (A : Option Addr) (n c : Nat) (hn : n ≠ 8) :
    Calls Try.prog 13 #[.slice A n c] w fun e w' => e = .returned (.tuple #[.slice none 0 0, .int .i64 2]) ∧ Below w.heap.size w w' := by
  have h1 : ((n : Int) == 8) = false := beq_eq_false_iff_ne.2 (by omega)
  have h2 : ((n : Int) != 8) = true := by rw [bne_iff_ne]; omega
  clear hn
  go_enter Try.func13, Try.ntmps13
  go_wp2
  go_ret2
  exact ⟨rfl, Below.refl _ _⟩

/-- What Soften tells. -/
def SoftPost (w : World) (l : List Int) (e : Ending) (w' : World) : Prop :=
  ((rowOk l ∧ ∃ b, w.heap.size ≤ b ∧ e = .returned (.tuple #[.slice (some ⟨b, 0, none⟩) 8 8, .int .i64 0]) ∧ Row w' b (nums .i64 (softL l))) ∨
    (¬ rowOk l ∧ e = .returned (.tuple #[.slice none 0 0, .int .i64 2]))) ∧ Below w.heap.size w w'

set_option maxHeartbeats 2000000 in
set_option maxRecDepth 100000 in
theorem softenF_eight (w : World) (A : Option Addr) (c : Nat) (l : List Int) (hl : l.length = 8) (hr : Rd w A (nums .i64 l)) :
    Calls Try.prog 13 #[.slice A 8 c] w (SoftPost w l) := by
  obtain ⟨b, o, rfl, hlt, hc⟩ := hr.at_ (i := 0) (by rw [nums_length]; omega)
  have HL := Lib.hid hl
  have HC := Lib.hid hc
  clear hl hc hr
  go_enter Try.func13, Try.ntmps13
  go_wp2
  have hA := Blk.new w 44 (nums .i64 (List.replicate 64 0))
  go_loopw [12] (fun i wr => ∃ k : Nat, k ≤ 8 ∧ i = .int .i64 k ∧ Hid (∀ i, i < k → -1099511627776 ≤ el l i ∧ el l i ≤ 1099511627776) ∧ Blk wr w.heap.size 44 (nums .i64 (part (el l) 64 k)) ∧ Below w.heap.size w wr)
    (fun i _ => 8 - (intOf i).toNat)
  case atStart => exact ⟨0, by omega, rfl, fun _ h => absurd h (by omega), by rw [part_zero]; exact hA, below_alloc (Below.refl _ _) _⟩
  case round =>
    obtain ⟨k, hk, rfl, hok, ho, hbel⟩ := hrel
    clear hA
    by_cases hlt' : k < 8
    · have hcx : wr.cell? ⟨b, o + k, none⟩ = some (.int .i64 (el l k)) := (hbel.cell (by exact hlt)).trans (HC.out k _ (nums_get (by rw [HL.out]; exact hlt')))
      have hoc := ho.cell (nums_get (i := k) (by rw [part_len]; omega))
      have hof := ho.free k
      by_cases hlow : el l k < -1099511627776
      · go_wp2
        go_ret2
        exact ⟨.inr ⟨fun h => by have := h.2 k hlt'; omega, rfl⟩, hbel⟩
      · by_cases hhigh : 1099511627776 < el l k
        · go_wp2
          go_ret2
          exact ⟨.inr ⟨fun h => by have := h.2 k hlt'; omega, rfl⟩, hbel⟩
        · go_wp2
          go_roundw
          case rel =>
            refine ⟨k + 1, by omega, by go_num, fun i hi => ?_, ?_, hbel.setCell (by simp) _⟩
            · by_cases h : i = k
              · subst h; omega
              · exact hok.out i (by omega)
            · rw [← part_set, ← nums_set]
              exact ho.set _ _
          case measure => simp [intOf]; omega
    · have hk8 : k = 8 := by omega
      rw [hk8] at ho hok
      clear hk8
      go_wp2_with fail
      refine (soften_at _ w.heap.size 0 1 _ _ _ rfl rfl ho (part_len _ _ _) (by omega) (fun i hi => by
        have := hok.out i hi
        rw [line, part, el_map_range _ _ _ (by omega), if_pos (by omega), Nat.mul_one, Nat.zero_add]
        omega)).mono ?_
      rintro e w1 ⟨rfl, ho1, hm1⟩
      have hbel1 := below_mod hbel hm1 (fun i hi => by omega)
      go_wp2
      go_ret2
      refine ⟨.inl ⟨⟨HL.out, hok.out⟩, w.heap.size, Nat.le_refl _, rfl, ho1.row ?_⟩, hbel1⟩
      rw [← puts_first l HL.out, nums, List.map_take]
      exact List.take_prefix _ _

theorem softenF (w : World) (A : Option Addr) (c : Nat) (l : List Int) (hr : Rd w A (nums .i64 l)) :
    Calls Try.prog 13 #[.slice A l.length c] w (SoftPost w l) := by
  by_cases h : l.length = 8
  · rw [h]; exact softenF_eight w A c l h hr
  · exact (softenF_len w A _ c h).mono fun e w' ⟨he, hb⟩ => ⟨.inr ⟨fun h' => h h'.1, he⟩, hb⟩
end Go.Proofs.Ytdaenekipbimgaa
