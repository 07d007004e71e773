/- The walks of the reference's queue: New, Free, Left, Feed, End, Bits, Skip; no conditions but the bounds that they name. -/
import Derived.Test.YtnnchmlkgofhpaaQueT
import Derived.Deep.RegionHeld3
import Derived.StillTailTactics
import Derived.BigQuiet
import Derived.Deep.DeepMust
set_option linter.unusedVariables false
set_option linter.unusedSimpArgs false
namespace Go.Proofs.Ytnnchmlkgofhpaa
open Go.RowKit

/-- All that ever came, how much of it was read, whether it is ended; for how many bytes there is room. -/
structure Rs where
  most : Nat
  all : List Int
  rd : Nat
  over : Bool
structure Rok (s : Rs) : Prop where
  m1 : 1 ≤ s.most
  m2 : s.most ≤ 1048576
  len : s.all.length ≤ 100000
  le : s.rd ≤ 8 * s.all.length
  room : s.all.length - s.rd / 8 ≤ s.most
  bytes : bytes s.all
/-- Block r is the reference's queue; the row of all that came lies behind it. -/
def RQue (w : World) (r : Nat) (s : Rs) : Prop :=
  (∃ v, Blk w r 64 [.int .i64 s.most, v, .int .i64 s.rd, .bool s.over] ∧ Own w (r + 1) 5 v (nums .u8 s.all)) ∧ Rok s
theorem RQue.mod {w w' : World} {r : Nat} {s : Rs} (h : RQue w r s) {S : Nat → Prop} (hm : Mod S w w') (hn : ∀ i, r ≤ i → ¬ S i) : RQue w' r s := by
  obtain ⟨⟨v, h1, h2⟩, h3⟩ := h
  exact ⟨⟨v, h1.mod hm (hn r (Nat.le_refl _)), h2.mod hm (fun k hk => hn k (by have := (h2.base k hk).1; omega))⟩, h3⟩
theorem RQue.below {w w' : World} {r : Nat} {s : Rs} (h : RQue w r s) (hm : Below w.heap.size w w') : RQue w' r s := by
  obtain ⟨⟨v, h1, h2⟩, h3⟩ := h
  exact ⟨⟨v, h1.below hm, h2.below hm⟩, h3⟩
theorem RQue.drewN {w : World} {r : Nat} {s : Rs} (h : RQue w r s) (n : Nat) : RQue (w.drewN n) r s := h
theorem RQue.lt {w : World} {r : Nat} {s : Rs} (h : RQue w r s) : r < w.heap.size := by
  obtain ⟨⟨v, h1, h2⟩, h3⟩ := h
  exact h1.lt
/-- Its cells, and all that came. -/
theorem RQue.cells {w : World} {r : Nat} {s : Rs} (h : RQue w r s) : ∃ A c, w.cell? ⟨r, 0, none⟩ = some (.int .i64 s.most) ∧ w.cell? ⟨r, 1, none⟩ = some (.slice A s.all.length c) ∧ w.cell? ⟨r, 2, none⟩ = some (.int .i64 s.rd) ∧ w.cell? ⟨r, 3, none⟩ = some (.bool s.over) ∧
    Blk w r 64 [.int .i64 s.most, .slice A s.all.length c, .int .i64 s.rd, .bool s.over] ∧ Own w (r + 1) 5 (.slice A s.all.length c) (nums .u8 s.all) ∧ s.all.length ≤ c ∧ c ≤ maxLen := by
  obtain ⟨⟨v, h1, h2⟩, h3⟩ := h
  obtain ⟨A, c, rfl, h4, h5, _⟩ := own_nums h2
  exact ⟨A, c, h1.cell rfl, h1.cell rfl, h1.cell rfl, h1.cell rfl, h1, h2, h4, h5⟩
def newR (n : Nat) : Rs := ⟨n, [], 0, false⟩

set_option maxHeartbeats 1000000 in
theorem refNew_no (w : World) (n : Int) (h : n < 1 ∨ 1048576 < n) :
    Calls Try.prog 24 #[.int .i64 n] w fun e w' => e = .returned (.tuple #[.pointer none, .int .i64 3]) ∧ w' = w := by
  by_cases h1 : n < 1
  · clear h
    go_enter Try.func24, Try.ntmps24
    go_wp2
    go_ret2
    exact ⟨rfl, rfl⟩
  · have h2 : 1048576 < n := by omega
    clear h
    go_enter Try.func24, Try.ntmps24
    go_wp2
    go_ret2
    exact ⟨rfl, rfl⟩

set_option maxHeartbeats 1000000 in
theorem refNew_ok (w : World) (n : Nat) (h1 : 1 ≤ n) (h2 : n ≤ 1048576) :
    Calls Try.prog 24 #[.int .i64 n] w fun e w' => (∃ r, e = .returned (.tuple #[.pointer (some ⟨r, 0, none⟩), .int .i64 0]) ∧ w.heap.size ≤ r ∧ RQue w' r (newR n)) ∧ Below w.heap.size w w' := by
  have hi1 : (1 : Int) ≤ n := by omega
  have hi2 : (n : Int) ≤ 1048576 := by omega
  go_enter Try.func24, Try.ntmps24
  go_wp2
  go_ret2
  exact ⟨⟨w.heap.size, rfl, Nat.le_refl _, ⟨_, Blk.new w 64 [.int .i64 n, .slice none 0 0, .int .i64 0, .bool false], Own.nil _ _ _⟩, h1, h2, by simp [newR], by simp [newR], by simp [newR], fun x hx => by simp [newR] at hx⟩, below_new _ _⟩

set_option maxHeartbeats 2000000 in
theorem refLeftF (w : World) (r : Nat) (s : Rs) (h : RQue w r s) :
    Calls Try.prog 38 #[.pointer (some ⟨r, 0, none⟩)] w fun e w' => e = .returned (.int .i64 (8 * (s.all.length : Int) - s.rd)) ∧ Below w.heap.size w w' := by
  obtain ⟨A, c, c0, c1, c2, c3, _, _, _, _⟩ := h.cells
  have hl := h.2.len
  have hr := h.2.le
  obtain ⟨n, hn⟩ : ∃ n, n = s.all.length := ⟨_, rfl⟩
  rw [← hn] at c1 hl hr ⊢
  clear h hn
  go_enter Try.func38, Try.ntmps38
  go_wp2
  go_quiet (fail)
  go_wp2
  go_ret
  exact ⟨rfl, below_drewN (Below.refl _ _) _⟩

set_option maxHeartbeats 2000000 in
theorem refFreeF (w : World) (r : Nat) (s : Rs) (h : RQue w r s) :
    Calls Try.prog 37 #[.pointer (some ⟨r, 0, none⟩)] w fun e w' => e = .returned (.int .i64 ((s.most - (s.all.length - s.rd / 8) : Nat) : Int)) ∧ Below w.heap.size w w' := by
  obtain ⟨A, c, c0, c1, c2, c3, _, _, _, _⟩ := h.cells
  have hl := h.2.len
  have hr := h.2.le
  have hm := h.2.m2
  have hro := h.2.room
  obtain ⟨n, hn⟩ : ∃ n, n = s.all.length := ⟨_, rfl⟩
  obtain ⟨M, hM⟩ : ∃ M, M = s.most := ⟨_, rfl⟩
  obtain ⟨q, hq⟩ : ∃ q, q = s.rd := ⟨_, rfl⟩
  rw [← hn] at c1 hl hr hro ⊢
  rw [← hM] at c0 hm hro ⊢
  rw [← hq] at c2 hr hro ⊢
  have e : ((M - (n - q / 8) : Nat) : Int) = (M : Int) - ((n : Int) - (q : Int) / 8) := by omega
  rw [e]
  have e1 : IntKind.i64.wrap ((n : Int) - (q : Int) / 8) = (n : Int) - (q : Int) / 8 := IntWalk.i64_in _ (by omega)
  have e2 : IntKind.i64.wrap ((M : Int) - ((n : Int) - (q : Int) / 8)) = (M : Int) - ((n : Int) - (q : Int) / 8) := IntWalk.i64_in _ (by omega)
  clear h hn hM hq e
  go_enter Try.func37, Try.ntmps37
  go_wp2
  go_quiet (fail)
  go_wp2
  go_ret
  exact ⟨rfl, below_drewN (Below.refl _ _) _⟩

set_option maxHeartbeats 1000000 in
theorem refEnd_done (w : World) (r : Nat) (s : Rs) (h : RQue w r s) (ho : s.over = true) :
    Calls Try.prog 30 #[.pointer (some ⟨r, 0, none⟩)] w fun e w' => e = .returned (.int .i64 20) ∧ w' = w := by
  obtain ⟨A, c, c0, c1, c2, c3, _, _, _, _⟩ := h.cells
  rw [ho] at c3
  clear h ho
  go_enter Try.func30, Try.ntmps30
  go_wp2
  go_ret
  exact ⟨rfl, rfl⟩

set_option maxHeartbeats 1000000 in
theorem refEnd_ok (w : World) (r : Nat) (s : Rs) (h : RQue w r s) (ho : s.over = false) :
    Calls Try.prog 30 #[.pointer (some ⟨r, 0, none⟩)] w fun e w' => e = .returned (.int .i64 0) ∧ RQue w' r { s with over := true } ∧ Mod (fun i => r ≤ i) w w' := by
  obtain ⟨A, c, c0, c1, c2, c3, k1, k2, _, _⟩ := h.cells
  have f3 := k1.free 3
  rw [ho] at c3
  have HK1 := Lib.hid k1
  have HK2 := Lib.hid k2
  have HO := Lib.hid h.2
  clear h ho k1 k2
  go_enter Try.func30, Try.ntmps30
  go_wp2
  go_ret
  refine ⟨rfl, ⟨⟨_, HK1.out.set 3 (.bool true), ?_⟩, HO.out.m1, HO.out.m2, HO.out.len, HO.out.le, HO.out.room, HO.out.bytes⟩, (Mod.refl _ _).set (.inr (Nat.le_refl r)) _⟩
  exact HK2.out.mod (S := (· = r)) ((Mod.refl _ _).set1 _) (fun k hk e => by have := (HK2.out.base k hk).1; have e : k = r := e; omega)

set_option maxHeartbeats 2000000 in
theorem refSkip_no (w : World) (r : Nat) (s : Rs) (h : RQue w r s) (n : Int) (hn : n < 0 ∨ 8 * (s.all.length : Int) - s.rd < n) :
    Calls Try.prog 29 #[.pointer (some ⟨r, 0, none⟩), .int .i64 n] w fun e w' => e = .returned (.int .i64 3) ∧ Below w.heap.size w w' := by
  have HL := Lib.hid (refLeftF w r s h)
  obtain ⟨L, hL⟩ : ∃ L : Int, L = 8 * (s.all.length : Int) - s.rd := ⟨_, rfl⟩
  rw [← hL] at HL hn
  clear h hL
  by_cases h0 : n < 0
  · have d0 : decide (n < 0) = true := by rw [decide_eq_true_iff]; exact h0
    clear hn
    go_enter Try.func29, Try.ntmps29
    go_wp2
    go_ret
    exact ⟨rfl, Below.refl _ _⟩
  · have d0 : decide (n < 0) = false := by rw [decide_eq_false_iff_not]; exact h0
    have d1 : decide (L < n) = true := by rw [decide_eq_true_iff]; omega
    clear hn
    go_enter Try.func29, Try.ntmps29
    go_wp2_with fail
    refine HL.out.mono ?_
    rintro e w1 ⟨rfl, hb⟩
    go_wp2
    go_ret
    exact ⟨rfl, hb⟩

set_option maxHeartbeats 2000000 in
theorem refSkip_ok (w : World) (r : Nat) (s : Rs) (h : RQue w r s) (n : Nat) (hn : s.rd + n ≤ 8 * s.all.length) :
    Calls Try.prog 29 #[.pointer (some ⟨r, 0, none⟩), .int .i64 n] w fun e w' => e = .returned (.int .i64 0) ∧ RQue w' r { s with rd := s.rd + n } ∧ Mod (fun i => r ≤ i) w w' := by
  have HL := Lib.hid (refLeftF w r s h)
  have H := Lib.hid h
  have hl := h.2.len
  obtain ⟨q, hq⟩ : ∃ q, q = s.rd := ⟨_, rfl⟩
  have HQ := Lib.hid hq
  obtain ⟨L, hL⟩ : ∃ L : Int, L = 8 * (s.all.length : Int) - s.rd := ⟨_, rfl⟩
  have d0 : decide ((n : Int) < 0) = false := by simp
  have d1 : decide (L < (n : Int)) = false := by rw [decide_eq_false_iff_not]; omega
  have e1 : IntKind.i64.wrap ((q : Int) + n) = (q : Int) + n := IntWalk.i64_in _ (by omega)
  rw [← hL] at HL
  have HN := Lib.hid hn
  clear h hL hq hn
  go_enter Try.func29, Try.ntmps29
  go_wp2_with fail
  refine HL.out.mono ?_
  rintro e w1 ⟨rfl, hb⟩
  obtain ⟨A, c, c0, c1, c2, c3, k1, k2, _, _⟩ := (H.out.below hb).cells
  rw [← HQ.out] at c2
  have f2 := k1.free 2
  have HK1 := Lib.hid k1
  have HK2 := Lib.hid k2
  have HB := Lib.hid hb
  clear k1 k2 hb
  go_wp2
  go_ret
  have hro := H.out.2.room
  have hle := HN.out
  refine ⟨rfl, ⟨⟨.slice A s.all.length c, ?_, ?_⟩, H.out.2.m1, H.out.2.m2, H.out.2.len, hle, by show s.all.length - (s.rd + n) / 8 ≤ s.most; omega, H.out.2.bytes⟩, (Mod.of_below HB.out).set (.inr (Nat.le_refl r)) _⟩
  · have := HK1.out.set 2 (.int .i64 ((q : Int) + n))
    rw [HQ.out] at this
    rw [HQ.out, show (((s.rd + n : Nat)) : Int) = (s.rd : Int) + n by omega]
    exact this
  · exact HK2.out.mod (S := (· = r)) ((Mod.refl _ _).set1 _) (fun k hk e => by have := (HK2.out.base k hk).1; have e : k = r := e; omega)
end Go.Proofs.Ytnnchmlkgofhpaa
