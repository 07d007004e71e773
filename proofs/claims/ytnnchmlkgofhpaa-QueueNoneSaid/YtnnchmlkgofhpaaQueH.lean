/- The walks of queue's methods on a queue that is nil or that nobody made, and of QueueNone; for every input. -/
import Derived.Test.YtnnchmlkgofhpaaQueE
set_option linter.unusedVariables false
set_option linter.unusedSimpArgs false
namespace Go.Proofs.Ytnnchmlkgofhpaa
open Go.RowKit Go.Shelf

/-- A queue that is nil, or that nobody made. -/
def NoneQ (w : World) (p : Option Addr) : Prop := p = none ∨ ∃ b, p = some ⟨b, 0, none⟩ ∧ w.cell? ⟨b, 0, none⟩ = some (.int .i64 0)

set_option maxHeartbeats 1000000 in
theorem none_yes (w : World) (p : Option Addr) (h : NoneQ w p) :
    Calls Try.prog 33 #[.pointer p] w fun e w' => e = .returned (.bool true) ∧ w' = w := by
  rcases h with rfl | ⟨b, rfl, h0⟩
  · go_enter Try.func33, Try.ntmps33
    go_wp2
    go_ret
    exact ⟨rfl, rfl⟩
  · go_enter Try.func33, Try.ntmps33
    go_wp2
    go_ret
    exact ⟨rfl, rfl⟩

set_option maxHeartbeats 1000000 in
theorem feed_none (w : World) (p : Option Addr) (h : NoneQ w p) (A : Option Addr) (n c : Nat) :
    Calls Try.prog 11 #[.pointer p, .slice A n c] w fun e w' => e = .returned (.tuple #[.int .i64 0, .int .i64 1]) ∧ w' = w := by
  have H := Lib.hid h
  clear h
  go_enter Try.func11, Try.ntmps11
  go_wp2_with (go_at_call 33; refine (none_yes _ p H.out).mono ?_; rintro e w1 ⟨rfl, rfl⟩)
  go_ret2
  exact ⟨rfl, rfl⟩

set_option maxHeartbeats 1000000 in
theorem end_none (w : World) (p : Option Addr) (h : NoneQ w p) :
    Calls Try.prog 20 #[.pointer p] w fun e w' => e = .returned (.int .i64 1) ∧ w' = w := by
  have H := Lib.hid h
  clear h
  go_enter Try.func20, Try.ntmps20
  go_wp2_with (go_at_call 33; refine (none_yes _ p H.out).mono ?_; rintro e w1 ⟨rfl, rfl⟩)
  go_ret
  exact ⟨rfl, rfl⟩

set_option maxHeartbeats 1000000 in
theorem skip_none (w : World) (p : Option Addr) (h : NoneQ w p) (n : Int) :
    Calls Try.prog 13 #[.pointer p, .int .i64 n] w fun e w' => e = .returned (.int .i64 1) ∧ w' = w := by
  have H := Lib.hid h
  clear h
  go_enter Try.func13, Try.ntmps13
  go_wp2_with (go_at_call 33; refine (none_yes _ p H.out).mono ?_; rintro e w1 ⟨rfl, rfl⟩)
  go_ret
  exact ⟨rfl, rfl⟩

set_option maxHeartbeats 1000000 in
theorem left_none (w : World) (p : Option Addr) (h : NoneQ w p) :
    Calls Try.prog 12 #[.pointer p] w fun e w' => e = .returned (.int .i64 0) ∧ w' = w := by
  have H := Lib.hid h
  clear h
  go_enter Try.func12, Try.ntmps12
  go_wp2_with (go_at_call 33; refine (none_yes _ p H.out).mono ?_; rintro e w1 ⟨rfl, rfl⟩)
  go_ret
  exact ⟨rfl, rfl⟩

set_option maxHeartbeats 1000000 in
theorem free_none (w : World) (p : Option Addr) (h : NoneQ w p) :
    Calls Try.prog 14 #[.pointer p] w fun e w' => e = .returned (.int .i64 0) ∧ w' = w := by
  have H := Lib.hid h
  clear h
  go_enter Try.func14, Try.ntmps14
  go_wp2_with (go_at_call 33; refine (none_yes _ p H.out).mono ?_; rintro e w1 ⟨rfl, rfl⟩)
  go_ret
  exact ⟨rfl, rfl⟩

set_option maxHeartbeats 1000000 in
theorem came_none (w : World) (p : Option Addr) (h : NoneQ w p) :
    Calls Try.prog 19 #[.pointer p] w fun e w' => e = .returned (.int .i64 0) ∧ w' = w := by
  have H := Lib.hid h
  clear h
  go_enter Try.func19, Try.ntmps19
  go_wp2_with (go_at_call 33; refine (none_yes _ p H.out).mono ?_; rintro e w1 ⟨rfl, rfl⟩)
  go_ret
  exact ⟨rfl, rfl⟩

set_option maxHeartbeats 1000000 in
theorem gone_none (w : World) (p : Option Addr) (h : NoneQ w p) :
    Calls Try.prog 18 #[.pointer p] w fun e w' => e = .returned (.int .i64 0) ∧ w' = w := by
  have H := Lib.hid h
  clear h
  go_enter Try.func18, Try.ntmps18
  go_wp2_with (go_at_call 33; refine (none_yes _ p H.out).mono ?_; rintro e w1 ⟨rfl, rfl⟩)
  go_ret
  exact ⟨rfl, rfl⟩

set_option maxHeartbeats 1000000 in
theorem ended_none (w : World) (p : Option Addr) (h : NoneQ w p) :
    Calls Try.prog 32 #[.pointer p] w fun e w' => e = .returned (.bool false) ∧ w' = w := by
  have H := Lib.hid h
  clear h
  go_enter Try.func32, Try.ntmps32
  go_wp2_with (go_at_call 33; refine (none_yes _ p H.out).mono ?_; rintro e w1 ⟨rfl, rfl⟩)
  go_ret
  exact ⟨rfl, rfl⟩

set_option maxHeartbeats 1000000 in
theorem bits_none (w : World) (p : Option Addr) (h : NoneQ w p) :
    Calls Try.prog 22 #[.pointer p] w fun e w' => e = .returned (.tuple #[.slice none 0 0, .int .i64 0]) ∧ w' = w := by
  refine (callsIn_wide (n := 6)).1 ?_
  have H := Lib.hid h
  clear h
  have hfn1 : Fence.wide.fn 33 := trivial
  refine callsIn_of_wp_marks Try.func22 rfl trivial ?_ rfl
  simp only [Try.ntmps22, List.size_toArray, List.length_cons, List.length_nil, Nat.reduceAdd, Nat.reduceSub, Array.replicate_succ, Array.replicate_zero, List.push_toArray, List.append_toArray, List.nil_append, List.cons_append]
  gi_wp2_with (gi_at_call 33; refine (callsIn_wide.2 (none_yes _ p H.out)).mono ?_; rintro e w1 ⟨rfl, rfl⟩)
  exact ⟨_, results_tmp2 rfl _ _ _, rfl, rfl⟩

def zeroQ : List Value := [.int .i64 0, .int .i64 0, .slice none 0 0, .int .i64 0, .int .i64 0, .bool false, .int .i64 0, .int .i64 0]

set_option maxHeartbeats 1000000 in
theorem none_long (w : World) (A : Option Addr) (n c : Nat) (x : Int) (h : 100 < n) (hm : n ≤ maxLen) :
    Calls Try.prog 7 #[.slice A n c, .int .i64 x] w fun e w' => e = .returned (.bool true) ∧ Below w.heap.size w w' := by
  unfold maxLen at hm
  have hd : decide ((100 : Int) < n) = true := by simp; omega
  go_enter Try.func7, Try.ntmps7
  go_wp2_with fail
  refine (awakeF _).mono ?_
  rintro e w1 ⟨rfl, hb1⟩
  go_wp2
  go_ret
  exact ⟨rfl, hb1⟩

set_option maxHeartbeats 4000000 in
theorem none_short (w : World) (A : Option Addr) (n c : Nat) (x : Int) (h : n ≤ 100) :
    Calls Try.prog 7 #[.slice A n c, .int .i64 x] w fun e w' => e = .returned (.bool true) ∧ Below w.heap.size w w' := by
  have hd : decide ((100 : Int) < n) = false := by simp; omega
  have HZ := Lib.hid (Blk.new w 56 zeroQ)
  have HB := Lib.hid (below_alloc (below_new w (.cells zeroQ.toArray 56)) (.cells #[.pointer none, .pointer (some ⟨w.heap.size, 0, none⟩)] 25))
  have HA := Lib.hid (Blk.new (w.alloc (.cells zeroQ.toArray 56)) 25 [.pointer none, .pointer (some ⟨w.heap.size, 0, none⟩)])
  go_enter Try.func7, Try.ntmps7
  go_wp2
  go_loopw [6] (fun i wr => ∃ k : Nat, k ≤ 2 ∧ i = .int .i64 k ∧ Hid (Blk wr (w.heap.size + 1) 25 [.pointer none, .pointer (some ⟨w.heap.size, 0, none⟩)]) ∧ Hid (Blk wr w.heap.size 56 zeroQ) ∧ Below w.heap.size w wr) (fun i _ => 2 - (intOf i).toNat)
  case atStart => exact ⟨0, by omega, rfl, Lib.hid (by have h := HA.out; rw [World.size_alloc] at h; exact h), Lib.hid (HZ.out.alloc _), HB.out⟩
  case round =>
    clear HA HB HZ
    obtain ⟨k, hk, rfl, ha, hz, hbel⟩ := hrel
    by_cases hlt : k < 2
    · have hdk : decide ((k : Int) < 2) = true := by simp; omega
      obtain ⟨p, hp0, hp⟩ : ∃ p, [Value.pointer none, .pointer (some ⟨w.heap.size, 0, none⟩)][k]? = some (.pointer p) ∧ NoneQ wr p := by
        rcases (by omega : k = 0 ∨ k = 1) with rfl | rfl
        · exact ⟨none, rfl, .inl rfl⟩
        · exact ⟨_, rfl, .inr ⟨w.heap.size, rfl, hz.out.cell rfl⟩⟩
      have hc := ha.out.cell hp0
      clear hp0
      go_wp2_with fail
      refine (feed_none _ _ hp A n c).mono ?_
      rintro e w1 ⟨rfl, rfl⟩
      go_wp2_with fail
      refine (bits_none _ _ hp).mono ?_
      rintro e w1 ⟨rfl, rfl⟩
      go_wp2_with fail
      refine (end_none _ _ hp).mono ?_
      rintro e w1 ⟨rfl, rfl⟩
      go_wp2_with fail
      refine (skip_none _ _ hp x).mono ?_
      rintro e w1 ⟨rfl, rfl⟩
      go_wp2_with fail
      refine (left_none _ _ hp).mono ?_
      rintro e w1 ⟨rfl, rfl⟩
      go_wp2_with fail
      refine (free_none _ _ hp).mono ?_
      rintro e w1 ⟨rfl, rfl⟩
      go_wp2_with fail
      refine (came_none _ _ hp).mono ?_
      rintro e w1 ⟨rfl, rfl⟩
      go_wp2_with fail
      refine (gone_none _ _ hp).mono ?_
      rintro e w1 ⟨rfl, rfl⟩
      go_wp2_with fail
      refine (ended_none _ _ hp).mono ?_
      rintro e w1 ⟨rfl, rfl⟩
      go_wp2
      go_roundw
      case rel => exact ⟨k + 1, by omega, by go_num, ha, hz, hbel⟩
      case measure => simp [intOf]; omega
    · have hdk : decide ((k : Int) < 2) = false := by simp; omega
      go_wp2_with fail
      refine (awakeF _).mono ?_
      rintro e w1 ⟨rfl, hb1⟩
      go_wp2
      go_ret
      exact ⟨rfl, below_then hbel hb1⟩

theorem queueNone_walk (a0 : Option Addr) (len0 cap0 : Nat) (z0 : List Int) (a1 : Int) (w : World) (w0 : IsRow .u8 w a0 len0 cap0 z0) (w1 : (Lit.int .i64 a1).wf = true) :
    Calls Try.prog 7 #[.slice a0 len0 cap0, .int .i64 a1] w fun e w' => e = .returned (.bool true) ∧ Below w.heap.size w w' := by
  obtain ⟨h1, h2, h3, h4, h5⟩ := w0.rd
  by_cases h : 100 < len0
  · exact none_long w a0 len0 cap0 a1 h (by omega)
  · exact none_short w a0 len0 cap0 a1 (by omega)
end Go.Proofs.Ytnnchmlkgofhpaa
