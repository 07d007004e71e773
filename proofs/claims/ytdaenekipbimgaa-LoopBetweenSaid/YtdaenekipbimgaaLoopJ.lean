/- The walk of LoopBetween: corners stay, each sample stays between those that touch it; for every input. -/
import Derived.Test.YtdaenekipbimgaaLoopG
set_option linter.unusedVariables false
set_option linter.unusedSimpArgs false
namespace Go.Proofs.Ytdaenekipbimgaa
open Go.RowKit

/-- The greater, the smaller of two whole numbers. -/
def mx (a b : Int) : Int := if a < b then b else a
def mn (a b : Int) : Int := if b < a then b else a
theorem mx_le (a b : Int) : a ≤ mx a b ∧ b ≤ mx a b ∧ (mx a b = a ∨ mx a b = b) := by unfold mx; split <;> omega
theorem mn_le (a b : Int) : mn a b ≤ a ∧ mn a b ≤ b ∧ (mn a b = a ∨ mn a b = b) := by unfold mn; split <;> omega
theorem max_mx (ats : Array TypeId) (ty : TypeId) (k : IntKind) (a b : Int) : Builtin.max_ ats ty #[.int k a, .int k b] = pure (.int k (mx a b)) := by
  simp only [Builtin.max_, List.foldlM_cons, List.foldlM_nil, Builtin.max2, gt_iff_lt, mx]
  rfl
theorem min_mn (ats : Array TypeId) (ty : TypeId) (k : IntKind) (a b : Int) : Builtin.min_ ats ty #[.int k a, .int k b] = pure (.int k (mn a b)) := by
  simp only [Builtin.min_, List.foldlM_cons, List.foldlM_nil, Builtin.min2, mn]
  rfl
attribute [local go_sem] max_mx min_mn

/-- What low and high know when all that touch (y, x) in rows below v, and in row v ahead of u, were seen. -/
structure Seen (M : List Int) (y x v u : Nat) (lo up : Int) : Prop where
  me : lo ≤ el M (8 * y + x) ∧ el M (8 * y + x) ≤ up
  all : ∀ a b, a < 8 → b < 8 → y ≤ a + 1 → a ≤ y + 1 → x ≤ b + 1 → b ≤ x + 1 → (a < v ∨ a = v ∧ b < u) → lo ≤ el M (8 * a + b) ∧ el M (8 * a + b) ≤ up
theorem Seen.start {M : List Int} {y x : Nat} : Seen M y x (y - 1) 0 (el M (8 * y + x)) (el M (8 * y + x)) :=
  ⟨⟨Int.le_refl _, Int.le_refl _⟩, fun a b _ _ h1 _ _ _ h => by omega⟩
theorem Seen.one {M : List Int} {y x v u : Nat} {lo up : Int} (h : Seen M y x v u lo up) : Seen M y x v (u + 1) (mn lo (el M (8 * v + u))) (mx up (el M (8 * v + u))) := by
  have h1 := mn_le lo (el M (8 * v + u))
  have h2 := mx_le up (el M (8 * v + u))
  refine ⟨by have := h.me; omega, fun a b ha hb h3 h4 h5 h6 h7 => ?_⟩
  by_cases h8 : a = v ∧ b = u
  · obtain ⟨rfl, rfl⟩ := h8; omega
  · have := h.all a b ha hb h3 h4 h5 h6 (by omega)
    omega
theorem Seen.skip {M : List Int} {y x v : Nat} {lo up : Int} (h : Seen M y x v 0 lo up) : Seen M y x v (x - 1) lo up :=
  ⟨h.me, fun a b ha hb h3 h4 h5 h6 h7 => h.all a b ha hb h3 h4 h5 h6 (by omega)⟩
theorem Seen.row {M : List Int} {y x v u : Nat} {lo up : Int} (h : Seen M y x v u lo up) (hu : mn ((x : Int) + 1) 7 < u) : Seen M y x (v + 1) 0 lo up :=
  ⟨h.me, fun a b ha hb h3 h4 h5 h6 h7 => h.all a b ha hb h3 h4 h5 h6 (by have := mn_le ((x : Int) + 1) 7; omega)⟩
theorem Seen.done {l : List Int} {y x v : Nat} {lo up : Int} (h : Seen l y x v 0 lo up) (hy : y < 8) (hx : x < 8) (hv : mn ((y : Int) + 1) 7 < v) : lo ≤ el (grid (filt (cell l))) (8 * y + x) ∧ el (grid (filt (cell l))) (8 * y + x) ≤ up := by
  rw [grid_at _ _ _ hy hx]
  refine filt_between _ y x hy hx lo up fun a b ha hb h1 h2 h3 h4 => ?_
  rw [cell]
  exact h.all a b ha hb h1 h2 h3 h4 (by have := mn_le ((y : Int) + 1) 7; omega)
theorem mx_pred (y : Nat) : mx ((y : Int) - 1) 0 = ((y - 1 : Nat) : Int) := by unfold mx; split <;> omega

set_option maxHeartbeats 1000000 in
theorem between_long (w : World) (A : Option Addr) (n c : Nat) (h : 64 < n) (hm : n ≤ maxLen) :
    Calls Try.prog 6 #[.slice A n c] w fun e w' => e = .returned (.bool true) ∧ Below w.heap.size w w' := by
  unfold maxLen at hm
  go_enter Try.func6, Try.ntmps6
  go_wp2_with (go_at_call 4; refine (knownF _).mono ?_; rintro e w1 ⟨rfl, hb1⟩)
  go_ret
  exact ⟨rfl, hb1⟩

theorem corner_el (l : List Int) (j : Nat) (hj : j = 0 ∨ j = 7 ∨ j = 56 ∨ j = 63) : el (grid (filt (cell l))) j = el l j := by
  rw [grid_el _ _ (by omega), filt_corner _ _ _ (by omega) (by omega), cell, show 8 * (j / 8) + j % 8 = j by omega]

set_option maxHeartbeats 4000000 in
set_option maxRecDepth 100000 in
theorem between_short (w : World) (A : Option Addr) (c : Nat) (l : List Int) (hl : l.length ≤ 64) (hr : Rd w A (nums .u8 l)) (hb : bytes l) :
    Calls Try.prog 6 #[.slice A l.length c] w fun e w' => e = .returned (.bool true) ∧ Below w.heap.size w w' := by
  have HR := Lib.hid hr
  have HB := Lib.hid (madeL_bytes hb)
  clear hr hb
  have hdl : decide ((64 : Int) < l.length) = false := by simp; omega
  go_enter Try.func6, Try.ntmps6
  go_wp2_with fail
  refine (knownF _).mono ?_
  rintro e w1 ⟨rfl, hb1⟩
  go_wp2_with fail
  refine (madeF _ A c l hl (HR.out.below hb1)).mono ?_
  rintro e w2 ⟨⟨b4, hb4, rfl, hr4⟩, hb2⟩
  go_wp2_with fail
  refine (filter_ok _ _ _ _ (madeL_len l) hr4.rd HB.out).mono ?_
  rintro e w3 ⟨⟨b5, hb5, rfl, hr5⟩, hbl3⟩
  have h4 := hr4.below hbl3
  have h5 := hr5.row_
  have hbel := below_then (below_then hb1 hb2) hbl3
  clear hb4 hr4 hb2 hb5 hr5 hbl3 hb1
  have hx0 := h4.cell (nums_get (i := 0) (by rw [madeL_len]; omega))
  have hx7 := h4.cell (nums_get (i := 7) (by rw [madeL_len]; omega))
  have hx56 := h4.cell (nums_get (i := 56) (by rw [madeL_len]; omega))
  have hx63 := h4.cell (nums_get (i := 63) (by rw [madeL_len]; omega))
  have hy0 := h5.cell (nums_get (i := 0) (by rw [grid_len]; omega))
  have hy7 := h5.cell (nums_get (i := 7) (by rw [grid_len]; omega))
  have hy56 := h5.cell (nums_get (i := 56) (by rw [grid_len]; omega))
  have hy63 := h5.cell (nums_get (i := 63) (by rw [grid_len]; omega))
  rw [corner_el _ _ (by omega)] at hy0 hy7 hy56 hy63
  go_wp2
  go_quiet (fail)
  go_wp2
  have hbel := below_drewN hbel nq
  obtain ⟨wo, hwo⟩ : ∃ wo : World, wo = w3.drewN nq := ⟨_, rfl⟩
  have h4 : Row wo b4 (nums .u8 (madeL l)) := by rw [hwo]; exact h4.drewN nq
  have h5 : Row wo b5 (nums .u8 (grid (filt (cell (madeL l))))) := by rw [hwo]; exact h5.drewN nq
  rw [← hwo] at hbel ⊢
  clear hx0 hx7 hx56 hx63 hy0 hy7 hy56 hy63 hwo
  go_loopw [7] (fun i wr => ∃ y m : Nat, y ≤ 8 ∧ i = .int .i64 y ∧ Hid (wr = wo.drewN m)) (fun i _ => 8 - (intOf i).toNat)
  case atStart => exact ⟨0, 0, by omega, rfl, rfl⟩
  case round =>
    obtain ⟨y, m, hy, rfl, hw⟩ := hrel
    by_cases hlt : y < 8
    · have hdy : decide ((y : Int) < 8) = true := by simp; omega
      go_wp2
      obtain ⟨w1, rfl⟩ : ∃ w1 : World, w1 = wr := ⟨_, rfl⟩
      go_loopw [8] (fun i wr => ∃ x q : Nat, x ≤ 8 ∧ i = .int .i64 x ∧ Hid (wr = wo.drewN q)) (fun i _ => 8 - (intOf i).toNat)
      case atStart => exact ⟨0, m, by omega, rfl, hw⟩
      case round =>
        clear hw
        obtain ⟨x, q, hx, rfl, hw⟩ := hrel
        by_cases hlx : x < 8
        · have hdx : decide ((x : Int) < 8) = true := by simp; omega
          have hcx : wr.cell? ⟨b4, 8 * y + x, none⟩ = some (.int .u8 (el (madeL l) (8 * y + x))) := by rw [hw.out]; exact h4.cell (nums_get (by rw [madeL_len]; omega))
          have hcy : wr.cell? ⟨b5, 8 * y + x, none⟩ = some (.int .u8 (el (grid (filt (cell (madeL l)))) (8 * y + x))) := by rw [hw.out]; exact h5.cell (nums_get (by rw [grid_len]; omega))
          have e1 : IntKind.i64.wrap (8 * (y : Int)) = 8 * (y : Int) := IntWalk.i64_in _ (by omega)
          have e2 : IntKind.i64.wrap (8 * (y : Int) + x) = 8 * (y : Int) + x := IntWalk.i64_in _ (by omega)
          have e3 : (8 * (y : Int) + x).toNat = 8 * y + x := by omega
          go_wp2
          go_quiet (fail)
          clear e1 e2 e3
          go_wp2
          rw [mx_pred]
          have hq2 : ∀ p, wr.drewN p = wo.drewN (q + p) := fun p => by rw [hw.out, World.drewN_drewN]
          obtain ⟨w2, hw2⟩ : ∃ w2 : World, w2 = wr.drewN nq := ⟨_, rfl⟩
          have HW2 : Hid (w2 = wo.drewN (q + nq)) := by rw [hw2]; exact hq2 nq
          rw [← hw2]
          clear hq2 hw2
          have hcx : ∀ v u : Nat, v < 8 → u < 8 → w2.cell? ⟨b4, 8 * v + u, none⟩ = some (.int .u8 (el (madeL l) (8 * v + u))) := fun v u hv hu => by rw [HW2.out]; exact h4.cell (nums_get (by rw [madeL_len]; omega))
          have HCX := Lib.hid hcx
          have hcy : w2.cell? ⟨b5, 8 * y + x, none⟩ = some (.int .u8 (el (grid (filt (cell (madeL l)))) (8 * y + x))) := by rw [HW2.out]; exact h5.cell (nums_get (by rw [grid_len]; omega))
          clear hcx
          have hmy := mn_le ((y : Int) + 1) 7
          have hmx := mn_le ((x : Int) + 1) 7
          go_loop [9, 10, 11] (fun a b i => ∃ (lo up : Int) (v : Nat), a = .int .u8 lo ∧ b = .int .u8 up ∧ i = .int .i64 v ∧ v ≤ 8 ∧ Seen (madeL l) y x v 0 lo up) (fun _ _ i => 8 - (intOf i).toNat)
          case atStart => exact ⟨_, _, y - 1, rfl, rfl, rfl, by omega, Seen.start⟩
          case round =>
            obtain ⟨lo, up, v, rfl, rfl, rfl, hv, hseen⟩ := hrel
            by_cases hlv : (v : Int) ≤ mn ((y : Int) + 1) 7
            · have hdv : decide ((v : Int) ≤ mn ((y : Int) + 1) 7) = true := by simp; omega
              go_wp2
              rw [mx_pred]
              go_loop [9, 10, 12] (fun a b i => ∃ (lo up : Int) (u : Nat), a = .int .u8 lo ∧ b = .int .u8 up ∧ i = .int .i64 u ∧ u ≤ 8 ∧ Seen (madeL l) y x v u lo up) (fun _ _ i => 8 - (intOf i).toNat)
              case atStart => exact ⟨_, _, x - 1, rfl, rfl, rfl, by omega, hseen.skip⟩
              case round =>
                clear hseen
                obtain ⟨lo, up, u, rfl, rfl, rfl, hu, hseen⟩ := hrel
                by_cases hlu : (u : Int) ≤ mn ((x : Int) + 1) 7
                · have hdu : decide ((u : Int) ≤ mn ((x : Int) + 1) 7) = true := by simp; omega
                  have hc := HCX.out v u (by omega) (by omega)
                  go_wp2
                  go_round
                  case rel => exact ⟨_, _, u + 1, rfl, rfl, by go_num, by omega, hseen.one⟩
                  case measure => simp [intOf]; omega
                · have hdu : decide ((u : Int) ≤ mn ((x : Int) + 1) 7) = false := by simp; omega
                  go_wp2
                  go_round
                  case rel => exact ⟨_, _, v + 1, rfl, rfl, by go_num, by omega, hseen.row (by omega)⟩
                  case measure => simp [intOf]; omega
            · have hdv : decide ((v : Int) ≤ mn ((y : Int) + 1) 7) = false := by simp; omega
              have hdone := hseen.done hlt hlx (by omega)
              clear hseen
              go_wp2
              go_roundw
              case rel => exact ⟨x + 1, q + nq, by omega, by go_num, HW2.out⟩
              case measure => simp [intOf]; omega
        · have hdx : decide ((x : Int) < 8) = false := by simp; omega
          go_wp2
          go_roundw
          case rel => exact ⟨y + 1, q, by omega, by go_num, hw⟩
          case measure => simp [intOf]; omega
    · have hdy : decide ((y : Int) < 8) = false := by simp; omega
      go_wp2
      go_ret
      exact ⟨rfl, by rw [hw.out]; exact below_drewN hbel _⟩

theorem loopBetween_walk (a0 : Option Addr) (len0 cap0 : Nat) (z0 : List Int) (w : World) (w0 : IsRow .u8 w a0 len0 cap0 z0) :
    Calls Try.prog 6 #[.slice a0 len0 cap0] w fun e w' => e = .returned (.bool true) ∧ Below w.heap.size w w' := by
  obtain ⟨h1, h2, h3, h4, h5⟩ := w0.rd
  rcases Nat.lt_or_ge 64 len0 with h | h
  · exact between_long w a0 len0 cap0 h (Nat.le_trans h2 h3)
  · have := between_short w a0 cap0 (z0.take len0) (by omega) h4 (bytes_of_wf h5)
    rwa [h1] at this
end Go.Proofs.Ytdaenekipbimgaa
