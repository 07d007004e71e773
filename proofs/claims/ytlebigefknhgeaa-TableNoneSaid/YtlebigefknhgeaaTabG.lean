/- The walks of table's methods on a table that is nil or that nobody made, and of TableNone; for every input. -/
import Derived.Test.YtlebigefknhgeaaTabF
set_option linter.unusedVariables false
set_option linter.unusedSimpArgs false
namespace Go.Proofs.Ytlebigefknhgeaa
open Go.RowKit Go.Shelf Go.Maps

/-- A table that is nil, or that nobody made. -/
def NoneT (w : World) (p : Option Addr) : Prop := p = none ∨ ∃ b, p = some ⟨b, 0, none⟩ ∧ w.cell? ⟨b, 0, none⟩ = some (.int .i64 0)

set_option maxHeartbeats 1000000 in
theorem none_yes (w : World) (p : Option Addr) (h : NoneT w p) :
    Calls Try.prog 25 #[.pointer p] w fun e w' => e = .returned (.bool true) ∧ w' = w := by
  rcases h with rfl | ⟨b, rfl, h0⟩
  · go_enter Try.func25, Try.ntmps25
    go_wp2
    go_ret
    exact ⟨rfl, rfl⟩
  · go_enter Try.func25, Try.ntmps25
    go_wp2
    go_ret
    exact ⟨rfl, rfl⟩

set_option maxHeartbeats 1000000 in
theorem open_none (w : World) (p : Option Addr) (h : NoneT w p) :
    Calls Try.prog 10 #[.pointer p] w fun e w' => e = .returned (.tuple #[.int .i64 0, .int .i64 1]) ∧ w' = w := by
  have H := Lib.hid h
  clear h
  go_enter Try.func10, Try.ntmps10
  go_wp2_with (go_at_call 25; refine (none_yes _ p H.out).mono ?_; rintro e w1 ⟨rfl, rfl⟩)
  go_ret2
  exact ⟨rfl, rfl⟩

set_option maxHeartbeats 1000000 in
theorem cause_none (w : World) (p : Option Addr) (h : NoneT w p) (id : Int) :
    Calls Try.prog 22 #[.pointer p, .int .i64 id] w fun e w' => e = .returned (.tuple #[.int .i64 0, .int .i64 1]) ∧ w' = w := by
  have H := Lib.hid h
  clear h
  go_enter Try.func22, Try.ntmps22
  go_wp2_with (go_at_call 25; refine (none_yes _ p H.out).mono ?_; rintro e w1 ⟨rfl, rfl⟩)
  go_ret2
  exact ⟨rfl, rfl⟩

set_option maxHeartbeats 1000000 in
theorem end_none (w : World) (p : Option Addr) (h : NoneT w p) (id c : Int) :
    Calls Try.prog 11 #[.pointer p, .int .i64 id, .int .i64 c] w fun e w' => e = .returned (.int .i64 1) ∧ w' = w := by
  have H := Lib.hid h
  clear h
  go_enter Try.func11, Try.ntmps11
  go_wp2_with (go_at_call 25; refine (none_yes _ p H.out).mono ?_; rintro e w1 ⟨rfl, rfl⟩)
  go_ret
  exact ⟨rfl, rfl⟩

set_option maxHeartbeats 1000000 in
theorem room_none (w : World) (p : Option Addr) (h : NoneT w p) :
    Calls Try.prog 12 #[.pointer p] w fun e w' => e = .returned (.int .i64 0) ∧ w' = w := by
  have H := Lib.hid h
  clear h
  go_enter Try.func12, Try.ntmps12
  go_wp2_with (go_at_call 25; refine (none_yes _ p H.out).mono ?_; rintro e w1 ⟨rfl, rfl⟩)
  go_ret
  exact ⟨rfl, rfl⟩

set_option maxHeartbeats 1000000 in
theorem last_none (w : World) (p : Option Addr) (h : NoneT w p) :
    Calls Try.prog 13 #[.pointer p] w fun e w' => e = .returned (.int .i64 0) ∧ w' = w := by
  have H := Lib.hid h
  clear h
  go_enter Try.func13, Try.ntmps13
  go_wp2_with (go_at_call 25; refine (none_yes _ p H.out).mono ?_; rintro e w1 ⟨rfl, rfl⟩)
  go_ret
  exact ⟨rfl, rfl⟩

set_option maxHeartbeats 1000000 in
theorem live_none (w : World) (p : Option Addr) (h : NoneT w p) :
    Calls Try.prog 14 #[.pointer p] w fun e w' => e = .returned (.slice none 0 0) ∧ w' = w := by
  refine (callsIn_wide (n := 6)).1 ?_
  have H := Lib.hid h
  clear h
  have hfn1 : Fence.wide.fn 25 := trivial
  refine callsIn_of_wp_marks Try.func14 rfl trivial ?_ rfl
  simp only [Try.ntmps14, List.size_toArray, List.length_cons, List.length_nil, Nat.reduceAdd, Nat.reduceSub, Array.replicate_succ, Array.replicate_zero, List.push_toArray, List.append_toArray, List.nil_append, List.cons_append]
  gi_wp2_with (gi_at_call 25; refine (callsIn_wide.2 (none_yes _ p H.out)).mono ?_; rintro e w1 ⟨rfl, rfl⟩)
  exact ⟨_, results_tmp rfl _ _ _, rfl, rfl⟩

def zeroT : List Value := [.int .i64 0, .int .i64 0, .map none]

set_option maxHeartbeats 4000000 in
theorem tableNone_walk (a0 a1 : Int) (w : World) (w0 : (Lit.int .i64 a0).wf = true) (w1 : (Lit.int .i64 a1).wf = true) :
    Calls Try.prog 6 #[.int .i64 a0, .int .i64 a1] w fun e w' => e = .returned (.bool true) ∧ Below w.heap.size w w' := by
  have HZ := Lib.hid (Blk.new w 48 zeroT)
  have HB := Lib.hid (below_alloc (below_new w (.cells zeroT.toArray 48)) (.cells #[.pointer none, .pointer (some ⟨w.heap.size, 0, none⟩)] 25))
  have HA := Lib.hid (Blk.new (w.alloc (.cells zeroT.toArray 48)) 25 [.pointer none, .pointer (some ⟨w.heap.size, 0, none⟩)])
  clear w0 w1
  go_enter Try.func6, Try.ntmps6
  go_wp2
  go_loopw [6] (fun i wr => ∃ k : Nat, k ≤ 2 ∧ i = .int .i64 k ∧ Hid (Blk wr (w.heap.size + 1) 25 [.pointer none, .pointer (some ⟨w.heap.size, 0, none⟩)]) ∧ Hid (Blk wr w.heap.size 48 zeroT) ∧ Below w.heap.size w wr) (fun i _ => 2 - (intOf i).toNat)
  case atStart => exact ⟨0, by omega, rfl, Lib.hid (by have h := HA.out; rw [World.size_alloc] at h; exact h), Lib.hid (HZ.out.alloc _), HB.out⟩
  case round =>
    clear HA HB HZ
    obtain ⟨k, hk, rfl, ha, hz, hbel⟩ := hrel
    by_cases hlt : k < 2
    · have hdk : decide ((k : Int) < 2) = true := by simp; omega
      obtain ⟨p, hp0, hp⟩ : ∃ p, [Value.pointer none, .pointer (some ⟨w.heap.size, 0, none⟩)][k]? = some (.pointer p) ∧ NoneT wr p := by
        rcases (by omega : k = 0 ∨ k = 1) with rfl | rfl
        · exact ⟨none, rfl, .inl rfl⟩
        · exact ⟨_, rfl, .inr ⟨w.heap.size, rfl, hz.out.cell rfl⟩⟩
      have hc := ha.out.cell hp0
      clear hp0
      go_wp2_with fail
      refine (open_none _ _ hp).mono ?_
      rintro e w1 ⟨rfl, rfl⟩
      go_wp2_with fail
      refine (cause_none _ _ hp a0).mono ?_
      rintro e w1 ⟨rfl, rfl⟩
      go_wp2_with fail
      refine (end_none _ _ hp a0 a1).mono ?_
      rintro e w1 ⟨rfl, rfl⟩
      go_wp2_with fail
      refine (live_none _ _ hp).mono ?_
      rintro e w1 ⟨rfl, rfl⟩
      go_wp2_with fail
      refine (room_none _ _ hp).mono ?_
      rintro e w1 ⟨rfl, rfl⟩
      go_wp2_with fail
      refine (last_none _ _ hp).mono ?_
      rintro e w1 ⟨rfl, rfl⟩
      go_wp2
      go_roundw
      case rel => exact ⟨k + 1, by omega, by go_num, ha, hz, hbel⟩
      case measure => simp [intOf]; omega
    · have hdk : decide ((k : Int) < 2) = false := by simp; omega
      go_wp2_with fail
      refine (awakeF _).mono ?_
      rintro e w1 ⟨rfl, hb1⟩
      go_wp2
      go_ret
      exact ⟨rfl, below_then hbel hb1⟩
end Go.Proofs.Ytlebigefknhgeaa
