/- The walks of praxinoscopelaw02's feeds, has, three and awake; no conditions but the bounds that they name. -/
import Derived.Test.YtnnchmlkgofhpaaQueD
import Derived.Test.YtnnchmlkgofhpaaKfSameBytes
set_option linter.unusedVariables false
set_option linter.unusedSimpArgs false
namespace Go.Proofs.Ytnnchmlkgofhpaa
open Go.RowKit

set_option maxHeartbeats 1000000 in
theorem feedsF (w : World) (b r : Nat) (s : Qs) (h : Que w b r s) (he : s.ended = false) (A : Option Addr) (n c : Nat) (l : List Int) (hn : l.length = n) (hm : n ≤ maxLen) (hrd : ∀ W, Mod (fun i => i = b ∨ i = r) w W → Rd W A (nums .u8 l)) (hb : bytes l) (hc : s.came + n ≤ 1000000000000) (K : Nat) (hK : K = min n (s.most - s.data.length)) :
    Calls Try.prog 15 #[.pointer (some ⟨b, 0, none⟩), .int .i64 K, .int .i64 0, .slice A n c] w fun e w' => e = .returned (.bool true) ∧ Que w' b r (fedQ s l K) ∧ Mod (fun i => i = b ∨ i = r) w w' := by
  have H := Lib.hid (feed_ok w b r s h he A n c l hn hm hrd hb hc)
  rw [← hK] at H
  clear h he hn hm hrd hb hc hK
  go_enter Try.func15, Try.ntmps15
  go_wp2_with fail
  refine H.out.mono ?_
  rintro e w1 ⟨rfl, h1, h2⟩
  go_wp2
  go_ret
  exact ⟨rfl, h1, h2⟩

set_option maxHeartbeats 1000000 in
theorem feedsF_done (w : World) (b r : Nat) (s : Qs) (h : Que w b r s) (he : s.ended = true) (A : Option Addr) (n c : Nat) :
    Calls Try.prog 15 #[.pointer (some ⟨b, 0, none⟩), .int .i64 0, .int .i64 20, .slice A n c] w fun e w' => e = .returned (.bool true) ∧ w' = w := by
  have H := Lib.hid (feed_done w b r s h he A n c)
  clear h he
  go_enter Try.func15, Try.ntmps15
  go_wp2_with fail
  refine H.out.mono ?_
  rintro e w1 ⟨rfl, rfl⟩
  go_wp2
  go_ret
  exact ⟨rfl, rfl⟩

set_option maxHeartbeats 1000000 in
theorem hasF (w : World) (b r : Nat) (s : Qs) (h : Que w b r s) (p : Nat) (hp : p = s.place) (A : Option Addr) (n c : Nat) (hn : s.data.length = n) (hrd : Rd w A (nums .u8 s.data)) :
    Calls Try.prog 16 #[.pointer (some ⟨b, 0, none⟩), .int .i64 p, .slice A n c] w fun e w' => e = .returned (.bool true) ∧ Below w.heap.size w w' := by
  subst hp
  have H := Lib.hid h
  have HR := Lib.hid hrd
  have HN := Lib.hid hn
  clear h hrd hn
  go_enter Try.func16, Try.ntmps16
  go_wp2_with fail
  refine (bitsF _ b r s H.out).mono ?_
  rintro e w1 ⟨v, rfl, hv, hb1⟩
  obtain ⟨A1, c1, rfl, _, _, hr1⟩ := hv.rd
  rw [nums_length] at ⊢
  have HR1 := Lib.hid (HR.out.below hb1)
  go_wp2_with fail
  refine (sameBytes _ A1 A _ _ c1 c _ _ rfl HN.out hr1 HR1.out H.out.ok.bytes H.out.ok.bytes).mono ?_
  rintro e w2 ⟨rfl, rfl⟩
  rw [decide_eq_true (rfl : s.data = s.data)]
  go_wp2
  go_ret
  exact ⟨rfl, hb1⟩

theorem below_new (w : World) (o : Obj) : Below w.heap.size w (w.alloc o) := below_alloc (Below.refl _ _) o
/-- The chapter's queue. -/
def q1 : Qs := ⟨3, 0, [1, 2, 3], 0, false, 3, 0⟩
def q2 : Qs := ⟨3, 1, [2, 3], 4, false, 3, 12⟩
def q3 : Qs := ⟨3, 1, [2, 3, 9], 4, false, 4, 12⟩
theorem bytes_lit (l : List Int) (h : l.all (fun x => decide (0 ≤ x ∧ x ≤ 255)) = true) : bytes l := fun x hx => by
  have := List.all_eq_true.1 h x hx
  simpa using this

set_option maxHeartbeats 2000000 in
theorem threeF (w : World) :
    Calls Try.prog 17 #[] w fun e w' => (∃ b r, e = .returned (.pointer (some ⟨b, 0, none⟩)) ∧ w.heap.size ≤ b ∧ w.heap.size ≤ r ∧ Que w' b r q3) ∧ Below w.heap.size w w' := by
  go_enter Try.func17, Try.ntmps17
  go_wp2_with fail
  refine (new_ok _ 3 (by omega) (by omega)).mono ?_
  rintro e w1 ⟨⟨b, r, rfl, hb, hr, hq⟩, hb1⟩
  go_wp2_with fail
  have hq1 := hq.below (below_new w1 (.cells (nums .u8 [1, 2, 3, 4]).toArray 5))
  refine (feedsF _ b r (newQ 3) hq1 rfl (some ⟨w1.heap.size, 0, none⟩) 4 4 [1, 2, 3, 4] rfl (by simp [maxLen]) (fun W hW => (Blk.new w1 5 (nums .u8 [1, 2, 3, 4])).row_.rd.mod hW (fun a ha => by cases ha; have := hq.lt; show ¬ (w1.heap.size = b ∨ w1.heap.size = r); omega)) (bytes_lit _ (by decide)) (by simp [newQ]) 3 rfl).mono ?_
  rintro e w2 ⟨rfl, hq2, hm2⟩
  have hb2 := below_mod (below_alloc hb1 (.cells (nums .u8 [1, 2, 3, 4]).toArray 5)) hm2 (fun i hi => by omega)
  have hq2 : Que w2 b r q1 := hq2
  clear hq hq1 hm2 hb1
  go_wp2_with fail
  refine (freeF _ b r q1 hq2).mono ?_
  rintro e w3 ⟨rfl, hb3⟩
  have hq3 := hq2.below hb3
  have hb3 := below_then hb2 hb3
  clear hq2 hb2
  go_wp2_with fail
  refine (leftF _ b r q1 hq3).mono ?_
  rintro e w4 ⟨rfl, m, rfl⟩
  have hq4 := hq3.drewN m
  have hb4 := below_drewN hb3 m
  clear hq3 hb3
  go_wp2_with fail
  refine (skip_ok _ b r q1 hq4 12 (by decide) (by decide)).mono ?_
  rintro e w5 ⟨rfl, hq5, hm5⟩
  have hq5 : Que w5 b r q2 := hq5
  have hb5 := below_mod hb4 hm5 (fun i hi => by omega)
  clear hq4 hb4 hm5
  go_wp2_with fail
  have hq6 := hq5.below (below_new w5 (.cells (nums .u8 [2, 3]).toArray 5))
  refine (hasF _ b r q2 hq6 4 rfl (some ⟨w5.heap.size, 0, none⟩) 2 2 rfl (Blk.new w5 5 (nums .u8 [2, 3])).row_.rd).mono ?_
  rintro e w6 ⟨rfl, hb6⟩
  have hq7 := hq6.below hb6
  have hb7 := below_then (below_alloc hb5 (.cells (nums .u8 [2, 3]).toArray 5)) hb6
  clear hq5 hq6 hb5 hb6
  go_wp2_with fail
  refine (freeF _ b r q2 hq7).mono ?_
  rintro e w8 ⟨rfl, hb8⟩
  have hq8 := hq7.below hb8
  have hb8 := below_then hb7 hb8
  clear hq7 hb7
  go_wp2_with fail
  have hq9 := hq8.below (below_new w8 (.cells (nums .u8 [9, 9]).toArray 5))
  refine (feedsF _ b r q2 hq9 rfl (some ⟨w8.heap.size, 0, none⟩) 2 2 [9, 9] rfl (by simp [maxLen]) (fun W hW => (Blk.new w8 5 (nums .u8 [9, 9])).row_.rd.mod hW (fun a ha => by cases ha; have := hq8.lt; show ¬ (w8.heap.size = b ∨ w8.heap.size = r); omega)) (bytes_lit _ (by decide)) (by simp [q2]) 1 rfl).mono ?_
  rintro e w9 ⟨rfl, hqa, hma⟩
  have hba := below_mod (below_alloc hb8 (.cells (nums .u8 [9, 9]).toArray 5)) hma (fun i hi => by omega)
  have hqa : Que w9 b r q3 := hqa
  clear hq8 hq9 hma hb8
  go_wp2
  go_ret
  exact ⟨⟨b, r, rfl, hb, hr, hqa⟩, hba⟩

set_option maxHeartbeats 1000000 in
theorem awakeF (w : World) : Calls Try.prog 8 #[] w fun e w' => e = .returned (.bool true) ∧ Below w.heap.size w w' := by
  go_enter Try.func8, Try.ntmps8
  go_wp2_with fail
  refine (threeF _).mono ?_
  rintro e w1 ⟨⟨b, r, rfl, hb, hr, hq⟩, hb1⟩
  go_wp2_with fail
  have hq2 := hq.below (below_new w1 (.cells (nums .u8 [2, 3, 9]).toArray 5))
  refine (hasF _ b r q3 hq2 4 rfl (some ⟨w1.heap.size, 0, none⟩) 3 3 rfl (Blk.new w1 5 (nums .u8 [2, 3, 9])).row_.rd).mono ?_
  rintro e w2 ⟨rfl, hb2⟩
  have hq3 := hq2.below hb2
  have hb3 := below_then (below_alloc hb1 (.cells (nums .u8 [2, 3, 9]).toArray 5)) hb2
  clear hq hq2 hb1 hb2
  go_wp2_with fail
  refine (leftF _ b r q3 hq3).mono ?_
  rintro e w4 ⟨rfl, m, rfl⟩
  go_wp2
  go_ret
  exact ⟨rfl, below_drewN hb3 m⟩
end Go.Proofs.Ytnnchmlkgofhpaa
