/- The walks of queue's small methods: what a queue is, New, none, Left, Free, Ended, Came, Gone, End; no conditions but the bounds that they name. -/
import Derived.Test.YtnnchmlkgofhpaaKit
import Derived.Test.YtnnchmlkgofhpaaProg
set_option linter.unusedVariables false
set_option linter.unusedSimpArgs false
namespace Go.Proofs.Ytnnchmlkgofhpaa
open Go.RowKit

/-- A queue's state: room, where the ring begins, the bytes that are there, the place, ended, how much came and went. -/
structure Qs where
  most : Nat
  first : Nat
  data : List Int
  place : Nat
  ended : Bool
  came : Nat
  gone : Nat

/-- The cells of its struct. -/
def qcells (r : Nat) (s : Qs) : List Value :=
  [.int .i64 s.most, .int .i64 s.data.length, .slice (some ⟨r, 0, none⟩) s.most s.most, .int .i64 s.first, .int .i64 s.place, .bool s.ended, .int .i64 s.came, .int .i64 s.gone]

structure Qok (s : Qs) : Prop where
  m1 : 1 ≤ s.most
  m2 : s.most ≤ 1048576
  len : s.data.length ≤ s.most
  first : s.first < s.most
  bytes : bytes s.data
  place : s.place < 8
  left : s.place ≤ 8 * s.data.length
  came : s.came ≤ 1000000000000
  gone : s.gone ≤ 10000000000000

/-- Block b is a queue's struct, block r its ring. -/
def Que (w : World) (b r : Nat) (s : Qs) : Prop :=
  Blk w b 56 (qcells r s) ∧ (∃ ring : List Int, Blk w r 5 (nums .u8 ring) ∧ ring.length = s.most ∧ ∀ i, i < s.data.length → el ring ((s.first + i) % s.most) = el s.data i) ∧ b ≠ r ∧ Qok s

theorem Que.below {w w' : World} {b r : Nat} {s : Qs} (h : Que w b r s) (hm : Below w.heap.size w w') : Que w' b r s := by
  obtain ⟨h1, ⟨ring, h2, h3⟩, h4⟩ := h
  exact ⟨h1.below hm, ⟨ring, h2.below hm, h3⟩, h4⟩
theorem Que.mod {w w' : World} {b r : Nat} {s : Qs} (h : Que w b r s) {S : Nat → Prop} (hm : Mod S w w') (hb : ¬ S b) (hr : ¬ S r) : Que w' b r s := by
  obtain ⟨h1, ⟨ring, h2, h3⟩, h4⟩ := h
  exact ⟨h1.mod hm hb, ⟨ring, h2.mod hm hr, h3⟩, h4⟩
theorem Que.drewN {w : World} {b r : Nat} {s : Qs} (h : Que w b r s) (n : Nat) : Que (w.drewN n) b r s := h
theorem Que.drew {w : World} {b r : Nat} {s : Qs} (h : Que w b r s) : Que w.drew b r s := h
theorem Que.lt {w : World} {b r : Nat} {s : Qs} (h : Que w b r s) : b < w.heap.size ∧ r < w.heap.size := by
  obtain ⟨h1, ⟨ring, h2, h3⟩, h4⟩ := h
  exact ⟨h1.lt, h2.lt⟩

def newQ (n : Nat) : Qs := ⟨n, 0, [], 0, false, 0, 0⟩
theorem newQ_ok (n : Nat) (h1 : 1 ≤ n) (h2 : n ≤ 1048576) : Qok (newQ n) := ⟨h1, h2, by simp [newQ], by simp [newQ]; omega, by intro x hx; simp [newQ] at hx, by simp [newQ], by simp [newQ], by simp [newQ], by simp [newQ]⟩

theorem q_info : (Try.prog.info? 5).map (fun i => (i.zero, i.size, i.bytes)) = some (some (.int .u8 0), 1, 1) := by kernel_rfl
/-- make([]byte, n). -/
theorem makeN (n : Nat) (hn : n ≤ 1048576) (w : World) : (Instr.makeSlice 22 (.int .i64 n) (.int .i64 n)).run Try.prog w = .ok (.slice (some ⟨w.heap.size, 0, none⟩) n n) (w.alloc (.cells (nums .u8 (List.replicate n 0)).toArray 5)) := by
  obtain ⟨i0, hi, hzz⟩ := Option.map_eq_some_iff.1 q_info
  simp only [Prod.mk.injEq] at hzz
  obtain ⟨hz0, hz1, hz2⟩ := hzz
  have h := run_make (P := Try.prog) w 22 5 i0 _ Try.underlying22 hi hz0 .i64 .i64 n n (by omega) (Int.le_refl _) (by rw [hz2]; omega) (by omega)
  rw [h, hz1, Nat.mul_one, Int.toNat_natCast]
  have e : madeCells (Value.int .u8 0).cells n = (nums .u8 (List.replicate n 0)).toArray := by
    apply Array.toList_inj.1
    show (madeCells #[Value.int .u8 0] n).toList = nums .u8 (List.replicate n 0)
    rw [toList_madeCells_one, nums, List.map_replicate]
  rw [e]

set_option maxHeartbeats 1000000 in
theorem new_no (w : World) (n : Int) (h : n < 1 ∨ 1048576 < n) :
    Calls Try.prog 10 #[.int .i64 n] w fun e w' => e = .returned (.tuple #[.pointer none, .int .i64 3]) ∧ w' = w := by
  by_cases h1 : n < 1
  · clear h
    go_enter Try.func10, Try.ntmps10
    go_wp2
    go_ret2
    exact ⟨rfl, rfl⟩
  · have h2 : 1048576 < n := by omega
    clear h
    go_enter Try.func10, Try.ntmps10
    go_wp2
    go_ret2
    exact ⟨rfl, rfl⟩

set_option maxHeartbeats 1000000 in
theorem new_ok (w : World) (n : Nat) (h1 : 1 ≤ n) (h2 : n ≤ 1048576) :
    Calls Try.prog 10 #[.int .i64 n] w fun e w' => (∃ b r, e = .returned (.tuple #[.pointer (some ⟨b, 0, none⟩), .int .i64 0]) ∧ w.heap.size ≤ b ∧ w.heap.size ≤ r ∧ Que w' b r (newQ n)) ∧ Below w.heap.size w w' := by
  have hi1 : (1 : Int) ≤ n := by omega
  have hi2 : (n : Int) ≤ 1048576 := by omega
  have hmk := makeN n h2
  go_enter Try.func10, Try.ntmps10
  go_wp2
  go_ret2
  refine ⟨⟨w.heap.size + 1, w.heap.size, rfl, by omega, Nat.le_refl _, ?_, ⟨List.replicate n 0, (Blk.new w 5 _).alloc _, by simp [newQ], fun i hi => by simp [newQ] at hi⟩, by omega, newQ_ok n h1 h2⟩, below_alloc (below_alloc (Below.refl _ _) _) _⟩
  have h := Blk.new (w.alloc (.cells (nums .u8 (List.replicate n 0)).toArray 5)) 56 (qcells w.heap.size (newQ n))
  rw [World.size_alloc] at h
  exact h

/-- The cells of a queue's struct, each. -/
theorem Que.c0 {w : World} {b r : Nat} {s : Qs} (h : Que w b r s) : w.cell? ⟨b, 0, none⟩ = some (.int .i64 s.most) := h.1.cell rfl
theorem Que.c1 {w : World} {b r : Nat} {s : Qs} (h : Que w b r s) : w.cell? ⟨b, 1, none⟩ = some (.int .i64 s.data.length) := h.1.cell rfl
theorem Que.c2 {w : World} {b r : Nat} {s : Qs} (h : Que w b r s) : w.cell? ⟨b, 2, none⟩ = some (.slice (some ⟨r, 0, none⟩) s.most s.most) := h.1.cell rfl
theorem Que.c3 {w : World} {b r : Nat} {s : Qs} (h : Que w b r s) : w.cell? ⟨b, 3, none⟩ = some (.int .i64 s.first) := h.1.cell rfl
theorem Que.c4 {w : World} {b r : Nat} {s : Qs} (h : Que w b r s) : w.cell? ⟨b, 4, none⟩ = some (.int .i64 s.place) := h.1.cell rfl
theorem Que.c5 {w : World} {b r : Nat} {s : Qs} (h : Que w b r s) : w.cell? ⟨b, 5, none⟩ = some (.bool s.ended) := h.1.cell rfl
theorem Que.c6 {w : World} {b r : Nat} {s : Qs} (h : Que w b r s) : w.cell? ⟨b, 6, none⟩ = some (.int .i64 s.came) := h.1.cell rfl
theorem Que.c7 {w : World} {b r : Nat} {s : Qs} (h : Que w b r s) : w.cell? ⟨b, 7, none⟩ = some (.int .i64 s.gone) := h.1.cell rfl
theorem Que.ok {w : World} {b r : Nat} {s : Qs} (h : Que w b r s) : Qok s := h.2.2.2

set_option maxHeartbeats 1000000 in
theorem none_no (w : World) (b r : Nat) (s : Qs) (h : Que w b r s) :
    Calls Try.prog 33 #[.pointer (some ⟨b, 0, none⟩)] w fun e w' => e = .returned (.bool false) ∧ w' = w := by
  have h0 := h.c0
  have hne : ((s.most : Int) == 0) = false := beq_eq_false_iff_ne.2 (by have := h.ok.m1; omega)
  go_enter Try.func33, Try.ntmps33
  go_wp2
  go_ret
  exact ⟨rfl, rfl⟩

set_option maxHeartbeats 1000000 in
theorem free_ok (w : World) (x y : Nat) (hx : x ≤ 1048576) (hy : y ≤ x) :
    Calls Try.prog 34 #[.agg #[.int .i64 x, .int .i64 y]] w fun e w' => e = .returned (.int .i64 ((x - y : Nat) : Int)) ∧ Below w.heap.size w w' := by
  have h1 : ((x - y : Nat) : Int) = (x : Int) - y := by omega
  rw [h1]
  have h2 : IntKind.i64.wrap ((x : Int) - y) = (x : Int) - y := IntWalk.i64_in _ (by omega)
  clear h1
  go_enter Try.func34, Try.ntmps34
  go_wp2
  go_ret
  exact ⟨rfl, below_alloc (Below.refl _ _) _⟩

set_option maxHeartbeats 1000000 in
theorem leftF (w : World) (b r : Nat) (s : Qs) (h : Que w b r s) :
    Calls Try.prog 12 #[.pointer (some ⟨b, 0, none⟩)] w fun e w' => e = .returned (.int .i64 (8 * s.data.length - s.place)) ∧ ∃ m, w' = w.drewN m := by
  have h1 := h.c1
  have h4 := h.c4
  have hl := h.ok.len
  have hm := h.ok.m2
  have hp := h.ok.place
  have e1 : IntKind.i64.wrap (8 * (s.data.length : Int)) = 8 * (s.data.length : Int) := IntWalk.i64_in _ (by omega)
  have e2 : IntKind.i64.wrap (8 * (s.data.length : Int) - s.place) = 8 * (s.data.length : Int) - s.place := IntWalk.i64_in _ (by omega)
  have H := Lib.hid h
  clear hl hm hp h
  go_enter Try.func12, Try.ntmps12
  go_wp2_with (go_at_call 33; refine (none_no _ b r s H.out).mono ?_; rintro e w1 ⟨rfl, rfl⟩)
  go_quiet (fail)
  go_wp2
  go_ret
  exact ⟨rfl, _, rfl⟩

set_option maxHeartbeats 1000000 in
theorem freeF (w : World) (b r : Nat) (s : Qs) (h : Que w b r s) :
    Calls Try.prog 14 #[.pointer (some ⟨b, 0, none⟩)] w fun e w' => e = .returned (.int .i64 ((s.most - s.data.length : Nat) : Int)) ∧ Below w.heap.size w w' := by
  have h0 := h.c0
  have h1 := h.c1
  have H := Lib.hid h
  have hl := h.ok.len
  have hm := h.ok.m2
  clear h
  go_enter Try.func14, Try.ntmps14
  go_wp2_with (first | (go_at_call 33; refine (none_no _ b r s H.out).mono ?_; rintro e w1 ⟨rfl, rfl⟩) | (go_at_call 34; refine (free_ok _ _ _ hm hl).mono ?_; rintro e w2 ⟨rfl, hb2⟩))
  go_ret
  exact ⟨rfl, hb2⟩

set_option maxHeartbeats 1000000 in
theorem endedF (w : World) (b r : Nat) (s : Qs) (h : Que w b r s) :
    Calls Try.prog 32 #[.pointer (some ⟨b, 0, none⟩)] w fun e w' => e = .returned (.bool s.ended) ∧ w' = w := by
  have h5 := h.c5
  have H := Lib.hid h
  clear h
  go_enter Try.func32, Try.ntmps32
  go_wp2_with (go_at_call 33; refine (none_no _ b r s H.out).mono ?_; rintro e w1 ⟨rfl, rfl⟩)
  go_ret
  exact ⟨rfl, rfl⟩

set_option maxHeartbeats 1000000 in
theorem cameF (w : World) (b r : Nat) (s : Qs) (h : Que w b r s) :
    Calls Try.prog 19 #[.pointer (some ⟨b, 0, none⟩)] w fun e w' => e = .returned (.int .i64 s.came) ∧ w' = w := by
  have h5 := h.c6
  have H := Lib.hid h
  clear h
  go_enter Try.func19, Try.ntmps19
  go_wp2_with (go_at_call 33; refine (none_no _ b r s H.out).mono ?_; rintro e w1 ⟨rfl, rfl⟩)
  go_ret
  exact ⟨rfl, rfl⟩

set_option maxHeartbeats 1000000 in
theorem goneF (w : World) (b r : Nat) (s : Qs) (h : Que w b r s) :
    Calls Try.prog 18 #[.pointer (some ⟨b, 0, none⟩)] w fun e w' => e = .returned (.int .i64 s.gone) ∧ w' = w := by
  have h5 := h.c7
  have H := Lib.hid h
  clear h
  go_enter Try.func18, Try.ntmps18
  go_wp2_with (go_at_call 33; refine (none_no _ b r s H.out).mono ?_; rintro e w1 ⟨rfl, rfl⟩)
  go_ret
  exact ⟨rfl, rfl⟩

set_option maxHeartbeats 1000000 in
theorem end_done (w : World) (b r : Nat) (s : Qs) (h : Que w b r s) (he : s.ended = true) :
    Calls Try.prog 20 #[.pointer (some ⟨b, 0, none⟩)] w fun e w' => e = .returned (.int .i64 20) ∧ w' = w := by
  have h5 := h.c5
  rw [he] at h5
  have H := Lib.hid h
  clear h he
  go_enter Try.func20, Try.ntmps20
  go_wp2_with (go_at_call 33; refine (none_no _ b r s H.out).mono ?_; rintro e w1 ⟨rfl, rfl⟩)
  go_ret
  exact ⟨rfl, rfl⟩

set_option maxHeartbeats 1000000 in
theorem end_ok (w : World) (b r : Nat) (s : Qs) (h : Que w b r s) (he : s.ended = false) :
    Calls Try.prog 20 #[.pointer (some ⟨b, 0, none⟩)] w fun e w' => e = .returned (.int .i64 0) ∧ Que w' b r { s with ended := true } ∧ Mod (· = b) w w' := by
  have h5 := h.c5
  rw [he] at h5
  have hf := h.1.free 5
  have H := Lib.hid h
  clear h he
  go_enter Try.func20, Try.ntmps20
  go_wp2_with (go_at_call 33; refine (none_no _ b r s H.out).mono ?_; rintro e w1 ⟨rfl, rfl⟩)
  go_ret
  obtain ⟨k1, ⟨ring, k2, k3, k4⟩, k5, k6⟩ := H.out
  exact ⟨rfl, ⟨k1.set 5 (.bool true), ⟨ring, k2.far (Ne.symm k5) _, k3, k4⟩, k5, ⟨k6.m1, k6.m2, k6.len, k6.first, k6.bytes, k6.place, k6.left, k6.came, k6.gone⟩⟩, (Mod.refl _ _).set1 _⟩
end Go.Proofs.Ytnnchmlkgofhpaa
