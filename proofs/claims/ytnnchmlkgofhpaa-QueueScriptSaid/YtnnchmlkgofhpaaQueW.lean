/- The walk of the reference's Bits; no conditions. -/
import Derived.Test.YtnnchmlkgofhpaaQueV
import Derived.Test.YtnnchmlkgofhpaaKfLentBytes
set_option linter.unusedVariables false
set_option linter.unusedSimpArgs false
namespace Go.Proofs.Ytnnchmlkgofhpaa
open Go.RowKit

theorem nums_drop {k : IntKind} (l : List Int) (n : Nat) : nums k (l.drop n) = (nums k l).drop n := by unfold nums; rw [List.map_drop]
theorem Rd.drop0 {w : World} {g : Nat} {l : List Int} {k : IntKind} (h : Rd w (some ⟨g, 0, none⟩) (nums k l)) (n : Nat) : Rd w (some ⟨g, n, none⟩) (nums k (l.drop n)) := by
  rcases h with h | ⟨b, o, h, h1, h2⟩
  · left
    rw [nums_drop, h, List.drop_nil]
  · injection h with h
    injection h with hb ho
    subst hb ho
    refine .inr ⟨g, n, rfl, h1, fun j v hv => ?_⟩
    rw [nums_drop, List.getElem?_drop] at hv
    have := h2 (n + j) v hv
    rwa [Nat.zero_add] at this

set_option maxHeartbeats 4000000 in
theorem refBitsF (w : World) (r : Nat) (s : Rs) (h : RQue w r s) :
    Calls Try.prog 39 #[.pointer (some ⟨r, 0, none⟩)] w fun e w' => (∃ v, e = .returned (.tuple #[v, .int .i64 ((s.rd % 8 : Nat) : Int)]) ∧ Own w' w.heap.size 5 v (nums .u8 (s.all.drop (s.rd / 8)))) ∧ Below w.heap.size w w' := by
  obtain ⟨A1, c1, d0, d1, d2, d3, k1, k2, k3, k4⟩ := h.cells
  have H := Lib.hid h
  have hle := h.2.le
  have hl := h.2.len
  have hlt := k1.lt
  obtain ⟨q, hq⟩ : ∃ q, q = s.rd := ⟨_, rfl⟩
  obtain ⟨L, hL⟩ : ∃ L, L = s.all.length := ⟨_, rfl⟩
  obtain ⟨D, hD⟩ : ∃ D, D = q / 8 := ⟨_, rfl⟩
  obtain ⟨P, hP⟩ : ∃ P, P = q % 8 := ⟨_, rfl⟩
  have e1 : (q : Int) / 8 = (D : Int) := by omega
  have e2 : (q : Int).tmod 8 = (P : Int) := by rw [Int.tmod_eq_emod_of_nonneg (by omega)]; omega
  rw [← hq] at d2 hle ⊢
  rw [← hP]
  rw [← hL] at d1 hle hl k3
  have hDL : D ≤ L := by omega
  have hDc : D ≤ c1 := by omega
  have ew : IntKind.i64.wrap (D : Int) = (D : Int) := IntWalk.i64_in _ (by omega)
  have HE := Lib.hid (lent_empty w w.heap.size 5 (Nat.le_refl _))
  have HQ := Lib.hid hq
  have HD := Lib.hid hD
  have HL := Lib.hid hL
  have HRD : Hid (Rd w A1 (nums .u8 s.all)) := Lib.hid (by
    obtain ⟨A, c, h1, _, _, h2⟩ := own_nums k2
    injection h1 with h1
    rw [h1]
    exact h2)
  have hform := k2.form
  rw [nums_length, ← hL] at hform
  have HUS : Hid ((nums .u8 (s.all.drop D)).length = L - D) := Lib.hid (by rw [nums_length, List.length_drop, ← hL])
  have HBA := Lib.hid (below_alloc (Below.refl w.heap.size w) (.cells #[] 5))
  clear h k1 k2 hq hL hD hP d0 d3
  rcases hform with ⟨h1, h2⟩ | ⟨g, cc, cs, h1, h2, h3, h4, h5, h6⟩
  · injection h1 with h1 h7 h8
    subst h1 h8
    have hD0 : D = 0 := by omega
    have hL0 : L = 0 := by omega
    rw [hL0] at d1 HUS
    rw [hD0] at e1 ew
    have ew : IntKind.i64.wrap 0 = 0 := by decide
    have e1 : (q : Int) / 8 = 0 := e1
    have HUS : Hid ((nums .u8 (s.all.drop D)).length = 0) := Lib.hid (by rw [HUS.out]; omega)
    have HRA : Hid (Rd (w.alloc (.cells #[] 5)).drew none (nums .u8 (s.all.drop D))) := Lib.hid (.inl (List.eq_nil_of_length_eq_zero HUS.out))
    have HSH : Hid (∀ W, Below w.heap.size w W → W.cell? ⟨r, 1, none⟩ = some (.slice none 0 0) ∧ W.cell? ⟨r, 2, none⟩ = some (.int .i64 q) ∧ Below w.heap.size w W) := Lib.hid fun W hW => ⟨(hW.cell (p := ⟨r, 1, none⟩) hlt).trans d1, (hW.cell (p := ⟨r, 2, none⟩) hlt).trans d2, hW⟩
    go_enter Try.func39, Try.ntmps39
    go_wp2
    go_region_held3 (fun W => W.cell? ⟨r, 1, none⟩ = some (.slice none 0 0) ∧ W.cell? ⟨r, 2, none⟩ = some (.int .i64 q) ∧ Below w.heap.size w W)
      (first | exact HSH.out _ (below_drewN HBA.out 1) | exact HSH.out _ (below_drewN (Below.refl _ _) 1) | exact HSH.out _ HB1.out)
      (first | (refine step_append_rd rfl (.tmp 4) (.tmp 14) 22 5 (.int .u8 0) 1 rfl Try.underlying22 lent_info rfl w.heap.size (.slice (some ⟨w.heap.size, 0, none⟩) 0 0) [] none 0 0 (nums .u8 (s.all.drop D)) rfl rfl HE.out.drew HUS.out HRA.out lent_cells (by simp) (by simp [maxLen]; try omega) (by simp; try omega) ?_; intro v1 w1 hown1 hg1; have HB1 := Lib.hid ((below_drewN HBA.out 1).grown hg1 (by simp) (fun k hk => by simp [Value.ownBlock] at hk; omega)); rw [List.nil_append] at hown1; have HO1 := Lib.hid hown1; clear hown1 hg1))
    all_goals go_wp2
    all_goals go_ret2
    all_goals exact ⟨⟨_, rfl, by have := HO1.out; rw [HD.out] at this; exact this⟩, HB1.out⟩
  · injection h1 with h1 h7 h8
    subst h1 h8
    clear h2 h3 h4 h5 h6 h7
    have i1 : (0 : Int) ≤ (D : Int) := by omega
    have i2 : (D : Int) ≤ (L : Int) := by omega
    have i3 : (L : Int) ≤ (c1 : Int) := by omega
    by_cases hcD : c1 = D
    · have hz : L - D = 0 := by omega
      have HUS : Hid ((nums .u8 (s.all.drop D)).length = 0) := Lib.hid (by rw [HUS.out]; exact hz)
      have HX : Hid (nums .u8 (s.all.drop D) = nums .u8 (s.all.drop (q / 8))) := Lib.hid (by rw [HD.out])
      have hLD : L = D := by omega
      clear hz hDc hDL i2 i3
      subst hcD hLD
      have HRA : Hid (Rd (w.alloc (.cells #[] 5)).drew (some ⟨g, 0, none⟩) (nums .u8 (s.all.drop L))) := Lib.hid (.inl (List.eq_nil_of_length_eq_zero HUS.out))
      have HSH : Hid (∀ W, Below w.heap.size w W → W.cell? ⟨r, 1, none⟩ = some (.slice (some ⟨g, 0, none⟩) L L) ∧ W.cell? ⟨r, 2, none⟩ = some (.int .i64 q) ∧ Below w.heap.size w W) := Lib.hid fun W hW => ⟨(hW.cell (p := ⟨r, 1, none⟩) hlt).trans d1, (hW.cell (p := ⟨r, 2, none⟩) hlt).trans d2, hW⟩
      go_enter Try.func39, Try.ntmps39
      go_wp2
      go_region_held3 (fun W => W.cell? ⟨r, 1, none⟩ = some (.slice (some ⟨g, 0, none⟩) L L) ∧ W.cell? ⟨r, 2, none⟩ = some (.int .i64 q) ∧ Below w.heap.size w W)
        (first | exact HSH.out _ (below_drewN HBA.out 1) | exact HSH.out _ (below_drewN (Below.refl _ _) 1) | exact HSH.out _ HB1.out)
        (first | (refine step_append_rd rfl (.tmp 4) (.tmp 14) 22 5 (.int .u8 0) 1 rfl Try.underlying22 lent_info rfl w.heap.size (.slice (some ⟨w.heap.size, 0, none⟩) 0 0) [] (some ⟨g, 0, none⟩) 0 0 (nums .u8 (s.all.drop L)) rfl rfl HE.out.drew HUS.out HRA.out lent_cells (by simp) (by simp [maxLen]; try omega) (by simp; try omega) ?_; intro v1 w1 hown1 hg1; have HB1 := Lib.hid ((below_drewN HBA.out 1).grown hg1 (by simp) (fun k hk => by simp [Value.ownBlock] at hk; omega)); rw [List.nil_append] at hown1; have HO1 := Lib.hid hown1; clear hown1 hg1))
      all_goals go_wp2
      all_goals go_ret2
      all_goals exact ⟨⟨_, rfl, by have := HO1.out; rw [HD.out] at this; exact this⟩, HB1.out⟩
    · have hcD2 : (D : Int) ≠ c1 := by omega
      have hcD3 : ¬ D = c1 := by omega
      have HRA : Hid (Rd (w.alloc (.cells #[] 5)).drew (some ⟨g, D, none⟩) (nums .u8 (s.all.drop D))) := Lib.hid ((HRD.out.drop0 D).below (below_drewN HBA.out 1))
      have HSH : Hid (∀ W, Below w.heap.size w W → W.cell? ⟨r, 1, none⟩ = some (.slice (some ⟨g, 0, none⟩) L c1) ∧ W.cell? ⟨r, 2, none⟩ = some (.int .i64 q) ∧ Below w.heap.size w W) := Lib.hid fun W hW => ⟨(hW.cell (p := ⟨r, 1, none⟩) hlt).trans d1, (hW.cell (p := ⟨r, 2, none⟩) hlt).trans d2, hW⟩
      go_enter Try.func39, Try.ntmps39
      go_wp2
      go_region_held3 (fun W => W.cell? ⟨r, 1, none⟩ = some (.slice (some ⟨g, 0, none⟩) L c1) ∧ W.cell? ⟨r, 2, none⟩ = some (.int .i64 q) ∧ Below w.heap.size w W)
        (first | exact HSH.out _ (below_drewN HBA.out 1) | exact HSH.out _ (below_drewN (Below.refl _ _) 1) | exact HSH.out _ HB1.out)
        (first | (refine step_append_rd rfl (.tmp 4) (.tmp 14) 22 5 (.int .u8 0) 1 rfl Try.underlying22 lent_info rfl w.heap.size (.slice (some ⟨w.heap.size, 0, none⟩) 0 0) [] (some ⟨g, D, none⟩) (L - D) (c1 - D) (nums .u8 (s.all.drop D)) rfl rfl HE.out.drew HUS.out HRA.out lent_cells (by simp) (by simp [maxLen]; try omega) (by simp; try omega) ?_; intro v1 w1 hown1 hg1; have HB1 := Lib.hid ((below_drewN HBA.out 1).grown hg1 (by simp) (fun k hk => by simp [Value.ownBlock] at hk; omega)); rw [List.nil_append] at hown1; have HO1 := Lib.hid hown1; clear hown1 hg1))
      all_goals go_wp2
      all_goals go_ret2
      all_goals exact ⟨⟨_, rfl, by have := HO1.out; rw [HD.out] at this; exact this⟩, HB1.out⟩
end Go.Proofs.Ytnnchmlkgofhpaa
