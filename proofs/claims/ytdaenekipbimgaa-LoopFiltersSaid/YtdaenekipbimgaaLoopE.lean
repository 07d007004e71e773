/- The walks of praxinoscopelaw15's awake and LoopKnown: the chapter's examples; no conditions. -/
import Derived.Test.YtdaenekipbimgaaLoopD
set_option linter.unusedVariables false
set_option linter.unusedSimpArgs false
namespace Go.Proofs.Ytdaenekipbimgaa
open Go.RowKit

theorem known1 : grid (filt (cell (List.replicate 64 9))) = List.replicate 64 9 := by decide +kernel
theorem known2 : grid (filt (cell (someG [0, 16] 1))) = someG [0, 16, 1, 4, 8, 4, 9, 1] 4 := by decide +kernel
theorem known3 : grid (filt (cell (someG [9, 16] 1))) = someG [9, 4, 10, 2, 17, 2, 18, 1] 4 := by decide +kernel
theorem bytes_of {l : List Int} (h : (l.all fun x => decide (0 ≤ x ∧ x ≤ 255)) = true) : bytes l := fun x hx => by simpa using List.all_eq_true.1 h x hx

/-- some, of a list that is written out. -/
theorem someLit (w : World) (l : List Int) (n : Nat) (cs : Array Value) (hn : l.length = n) (hcs : cs = (nums .u8 l).toArray) (hb : bytes l) (hm : n ≤ 1000) :
    Calls Try.prog 25 #[.slice (some ⟨w.heap.size, 0, none⟩) n n] (w.alloc (.cells cs 5)) fun e w' => (∃ b, w.heap.size ≤ b ∧ e = .returned (.slice (some ⟨b, 0, none⟩) 64 64) ∧ Row w' b (nums .u8 (someG l (n / 2)))) ∧ Below w.heap.size w w' := by
  subst hn hcs
  refine (someF _ _ _ l (Blk.new w 5 (nums .u8 l)).row_.rd hb hm).mono ?_
  rintro e w' ⟨⟨b, h1, h2, h3⟩, hbel⟩
  have h4 := below_then (below_alloc (Below.refl w.heap.size w) (.cells (nums .u8 l).toArray 5)) hbel
  exact ⟨⟨b, by simp at h1; omega, h2, h3⟩, h4⟩

set_option maxHeartbeats 1000000 in
theorem awakeF (w : World) : Calls Try.prog 8 #[] w fun e w' => e = .returned (.bool true) ∧ Below w.heap.size w w' := by
  have hb9 : bytes (List.replicate 64 9) := bytes_of (by decide +kernel)
  have HB9 := Lib.hid hb9
  clear hb9
  go_enter Try.func8, Try.ntmps8
  go_wp2_with fail
  refine (evenF _ _).mono ?_
  rintro e w1 ⟨⟨b1, hb1, rfl, hr1⟩, hbel1⟩
  go_wp2_with fail
  refine (evenF _ _).mono ?_
  rintro e w2 ⟨⟨b2, hb2, rfl, hr2⟩, hbel2⟩
  go_wp2_with fail
  refine (filtersF _ _ _ _ _ (by decide) (by decide) (hr1.below hbel2).rd HB9.out hr2.rd HB9.out).mono ?_
  rintro e w3 ⟨rfl, hbel3⟩
  rw [known1, decide_eq_true rfl]
  have hbelA := below_then (below_then hbel1 hbel2) hbel3
  clear hr1 hr2 hbel1 hbel2 hbel3 hb1 hb2
  go_wp2_with fail
  refine (someLit w3 [0, 16] 2 _ rfl rfl (bytes_of rfl) (by decide)).mono ?_
  rintro e w4 ⟨⟨b4, hb4, rfl, hr4⟩, hbel4⟩
  go_wp2_with fail
  refine (someLit w4 [0, 16, 1, 4, 8, 4, 9, 1] 8 _ rfl rfl (bytes_of rfl) (by decide)).mono ?_
  rintro e w5 ⟨⟨b5, hb5, rfl, hr5⟩, hbel5⟩
  go_wp2_with fail
  refine (filtersF _ _ _ _ _ (someG_len _ _) (someG_len _ _) (hr4.below hbel5).rd (someG_bytes _ (bytes_of rfl) _) hr5.rd (someG_bytes _ (bytes_of rfl) _)).mono ?_
  rintro e w6 ⟨rfl, hbel6⟩
  rw [decide_eq_true known2]
  have hbelB := below_then (below_then (below_then hbelA hbel4) hbel5) hbel6
  clear hbelA hr4 hr5 hbel4 hbel5 hbel6 hb4 hb5
  go_wp2_with fail
  refine (someLit w6 [9, 16] 2 _ rfl rfl (bytes_of rfl) (by decide)).mono ?_
  rintro e w7 ⟨⟨b7, hb7, rfl, hr7⟩, hbel7⟩
  go_wp2_with fail
  refine (someLit w7 [9, 4, 10, 2, 17, 2, 18, 1] 8 _ rfl rfl (bytes_of rfl) (by decide)).mono ?_
  rintro e w8 ⟨⟨b8, hb8, rfl, hr8⟩, hbel8⟩
  go_wp2_with fail
  refine (filtersF _ _ _ _ _ (someG_len _ _) (someG_len _ _) (hr7.below hbel8).rd (someG_bytes _ (bytes_of rfl) _) hr8.rd (someG_bytes _ (bytes_of rfl) _)).mono ?_
  rintro e w9 ⟨rfl, hbel9⟩
  rw [decide_eq_true known3]
  have hbelC := below_then (below_then (below_then hbelB hbel7) hbel8) hbel9
  go_wp2
  go_ret
  exact ⟨rfl, hbelC⟩

theorem soft1 : softL [4, 8, 4, 0, 0, 0, 0, 16] = [16, 24, 16, 4, 0, 0, 16, 64] := by decide +kernel
theorem rowOk1 : rowOk [4, 8, 4, 0, 0, 0, 0, 16] := ⟨rfl, by decide +kernel⟩
/-- Soften, of a list that is written out. -/
theorem softLit (w : World) (l : List Int) (n : Nat) (cs : Array Value) (hn : l.length = n) (hcs : cs = (nums .i64 l).toArray) :
    Calls Try.prog 13 #[.slice (some ⟨w.heap.size, 0, none⟩) n n] (w.alloc (.cells cs 3)) fun e w' => ((rowOk l ∧ ∃ b, w.heap.size ≤ b ∧ e = .returned (.tuple #[.slice (some ⟨b, 0, none⟩) 8 8, .int .i64 0]) ∧ Row w' b (nums .i64 (softL l))) ∨
    (¬ rowOk l ∧ e = .returned (.tuple #[.slice none 0 0, .int .i64 2]))) ∧ Below w.heap.size w w' := by
  subst hn hcs
  refine (softenF _ _ _ l (Blk.new w 3 (nums .i64 l)).row_.rd).mono ?_
  rintro e w' ⟨h, hbel⟩
  have h4 := below_then (below_alloc (Below.refl w.heap.size w) (.cells (nums .i64 l).toArray 3)) hbel
  refine ⟨?_, h4⟩
  rcases h with ⟨h1, b, h2, h3⟩ | h
  · exact .inl ⟨h1, b, by simp at h2; omega, h3⟩
  · exact .inr h

theorem softLit_ok (w : World) (l : List Int) (n : Nat) (cs : Array Value) (hn : l.length = n) (hcs : cs = (nums .i64 l).toArray) (h : rowOk l) :
    Calls Try.prog 13 #[.slice (some ⟨w.heap.size, 0, none⟩) n n] (w.alloc (.cells cs 3)) fun e w' => (∃ b, w.heap.size ≤ b ∧ e = .returned (.tuple #[.slice (some ⟨b, 0, none⟩) 8 8, .int .i64 0]) ∧ Row w' b (nums .i64 (softL l))) ∧ Below w.heap.size w w' :=
  (softLit w l n cs hn hcs).mono fun e w' ⟨h1, h2⟩ => ⟨h1.elim (fun h3 => h3.2) (fun h3 => absurd h h3.1), h2⟩
theorem softLit_no (w : World) (l : List Int) (n : Nat) (cs : Array Value) (hn : l.length = n) (hcs : cs = (nums .i64 l).toArray) (h : ¬ rowOk l) :
    Calls Try.prog 13 #[.slice (some ⟨w.heap.size, 0, none⟩) n n] (w.alloc (.cells cs 3)) fun e w' => e = .returned (.tuple #[.slice none 0 0, .int .i64 2]) ∧ Below w.heap.size w w' :=
  (softLit w l n cs hn hcs).mono fun e w' ⟨h1, h2⟩ => ⟨h1.elim (fun h3 => absurd h3.1 h) (fun h3 => h3.2), h2⟩

set_option maxHeartbeats 2000000 in
theorem knownF (w : World) : Calls Try.prog 4 #[] w fun e w' => e = .returned (.bool true) ∧ Below w.heap.size w w' := by
  go_enter Try.func4, Try.ntmps4
  go_wp2_with fail
  refine (softLit_ok w [4, 8, 4, 0, 0, 0, 0, 16] 8 _ rfl rfl rowOk1).mono ?_
  rintro e w1 ⟨⟨b1, hb1, rfl, hr1⟩, hbel1⟩
  go_wp2_with fail
  refine (softLit_no w1 [1, 2, 3] 3 _ rfl rfl (fun h => absurd h.1 (by decide))).mono ?_
  rintro e w2 ⟨rfl, hbel2⟩
  go_wp2_with fail
  have hbelA := below_alloc (below_then hbel1 hbel2) (.cells #[.int .u8 1, .int .u8 2, .int .u8 3] 5)
  have hrA := (hr1.below hbel2).alloc (.cells #[.int .u8 1, .int .u8 2, .int .u8 3] 5)
  refine (filter_no _ _ _ _ (by decide)).mono ?_
  rintro e w3 ⟨rfl, hbel3⟩
  have hbelB := below_then hbelA hbel3
  have hrB := hrA.below hbel3
  clear hr1 hrA hbelA hbel1 hbel2 hbel3 hb1
  go_wp2_with fail
  refine (awakeF _).mono ?_
  rintro e w4 ⟨rfl, hbel4⟩
  have hbelC := below_alloc (below_then hbelB hbel4) (.cells (nums .i64 [16, 24, 16, 4, 0, 0, 16, 64]).toArray 3)
  have hrC := (hrB.below hbel4).alloc (.cells (nums .i64 [16, 24, 16, 4, 0, 0, 16, 64]).toArray 3)
  have hwC := (Blk.new w4 3 (nums .i64 [16, 24, 16, 4, 0, 0, 16, 64])).row_.rd
  rw [soft1] at hrC
  clear hrB hbelB hbel4
  go_wp2_with fail
  refine (sameInts _ _ _ _ _ _ _ _ _ rfl rfl (by decide) hrC.rd hwC).mono ?_
  rintro e w5 ⟨rfl, m, rfl⟩
  rw [decide_eq_true rfl]
  go_wp2
  go_ret
  exact ⟨rfl, below_drewN hbelC _⟩
theorem loopKnown_walk (w : World) : Calls Try.prog 4 #[] w fun e w' => e = .returned (.bool true) ∧ Below w.heap.size w w' := knownF w
end Go.Proofs.Ytdaenekipbimgaa
