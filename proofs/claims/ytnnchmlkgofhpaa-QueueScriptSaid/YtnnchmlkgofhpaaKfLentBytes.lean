/- The walk of praxinoscopekit.LentBytes: bytes like those told, and room with four marks behind them; no conditions but a bound on their length. -/
import Derived.Test.YtnnchmlkgofhpaaKit
import Derived.Test.YtnnchmlkgofhpaaProg
set_option linter.unusedVariables false
set_option linter.unusedSimpArgs false
namespace Go.Proofs.Ytnnchmlkgofhpaa
open Go.RowKit

theorem lent_cells {k : IntKind} {xs : List Int} : ∀ v ∈ nums k xs, v.oneCell' = true := by
  intro v hv
  obtain ⟨x, _, rfl⟩ := List.mem_map.1 hv
  rfl
theorem lent_info : (Try.prog.info? 5).map (fun i => (i.zero, i.size, i.bytes)) = some (some (.int .u8 0), 1, 1) := by kernel_rfl
theorem lent_empty (w : World) (base : Nat) (e : TypeId) (hb : base ≤ w.heap.size) : Own (w.alloc (.cells #[] e)) base e (.slice (some ⟨w.heap.size, 0, none⟩) 0 0) [] :=
  ⟨rfl, .inr ⟨w.heap.size, 0, #[], rfl, hb, heap_alloc_new w _, Nat.le_refl _, by simp [maxLen], rfl, rfl⟩⟩
def marks : List Int := [201, 202, 203, 204]
theorem marks_cells : nums .u8 marks = [.int .u8 201, .int .u8 202, .int .u8 203, .int .u8 204] := rfl

set_option maxHeartbeats 1000000 in
theorem lentBytesF (w : World) (A : Option Addr) (n c : Nat) (l : List Int) (hn : l.length = n) (hm : n ≤ 1000000) (hr : Rd w A (nums .u8 l)) :
    Calls Try.prog 25 #[.slice A n c] w fun e w' => (∃ g cap, e = .returned (.slice (some ⟨g, 0, none⟩) n cap) ∧ w.heap.size ≤ g ∧ n + 4 ≤ cap ∧ cap ≤ maxLen ∧ Row w' g (nums .u8 (l ++ marks))) ∧ Below w.heap.size w w' := by
  have HB := Lib.hid (below_alloc (Below.refl w.heap.size w) (.cells #[] 5))
  have HE := Lib.hid (lent_empty w w.heap.size 5 (Nat.le_refl _))
  have HR := Lib.hid (hr.below HB.out)
  have HN := Lib.hid hn
  clear hr hn
  go_enter Try.func25, Try.ntmps25
  go_wp2_with (first
    | (refine append_many rfl (.tmp 4) (.tmp 5) 22 5 (.int .u8 0) 1 rfl Try.underlying22 lent_info rfl w.heap.size (.slice (some ⟨w.heap.size, 0, none⟩) 0 0) [] A n c (nums .u8 l) rfl rfl HE.out (by rw [nums_length, HN.out]) HR.out lent_cells (by simp) (by simp [maxLen]; omega) (by simp; omega) ?_; intro v1 w1 hown1 hg1
       have hbel := HB.out.grown hg1 (by simp) (fun k hk => by simp [Value.ownBlock] at hk; omega)
       rw [List.nil_append] at hown1
       have HM := Lib.hid (Blk.new w1 5 (nums .u8 marks)).row_.rd
       have HO := Lib.hid (hown1.alloc (.cells (nums .u8 marks).toArray 5))
       have HB2 := Lib.hid (below_alloc hbel (.cells (nums .u8 marks).toArray 5))
       clear hg1 HB HE HR hown1)
    | (refine append_many rfl (.tmp 7) (.tmp 8) 22 5 (.int .u8 0) 1 rfl Try.underlying22 lent_info rfl w.heap.size v1 (nums .u8 l) (some ⟨w1.heap.size, 0, none⟩) 4 4 (nums .u8 marks) rfl rfl HO.out rfl HM.out lent_cells HB2.out.size (by rw [nums_length, HN.out]; simp [maxLen]; omega) (by rw [nums_length, HN.out]; omega) ?_; intro v2 w2 hown2 hg2
       have hb2 := Lib.hid (HB2.out.grown hg2 HB2.out.size (fun k hk => (HO.out.base k hk).1))
       rw [← nums_append] at hown2
       rcases hown2.form with ⟨_, h⟩ | ⟨g, cap, cs, rfl, h2, h3, h4, h5, h6⟩
       · simp [nums, marks] at h
       have hl4 : (nums .u8 (l ++ marks)).length = n + 4 := by rw [nums_length, List.length_append, HN.out]; rfl
       rw [hl4] at h5 ⊢
       have h3 := Lib.hid (h3.row h4)
       clear h4 hl4 hg2 hown2 HO HM))
  go_ret
  exact ⟨⟨g, cap, rfl, h2, h5, h6, h3.out⟩, hb2.out⟩
end Go.Proofs.Ytnnchmlkgofhpaa
