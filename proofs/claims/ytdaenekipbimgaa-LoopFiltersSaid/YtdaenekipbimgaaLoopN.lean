/- The walk of LoopFilters: what a block is, filtered, and a row, softened, or why not; for every input. -/
import Derived.Test.YtdaenekipbimgaaLoopM
import Derived.Test.YtdaenekipbimgaaLoopE
import Derived.Test.YtdaenekipbimgaaKfOverInts
import Derived.Test.YtdaenekipbimgaaKfOverBytes
import Derived.Test.YtdaenekipbimgaaKfKeptBytes
set_option linter.unusedVariables false
set_option linter.unusedSimpArgs false
namespace Go.Proofs.Ytdaenekipbimgaa
open Go.RowKit

/-- What Filter and Soften tell. -/
def filtRes (l : List Int) : List Int := if l.length = 64 then grid (filt (cell l)) else []
def filtErr (l : List Int) : Int := if l.length = 64 then 0 else 2
open Classical in
noncomputable def softRes (l : List Int) : List Int := if rowOk l then softL l else []
open Classical in
noncomputable def softErr (l : List Int) : Int := if rowOk l then 0 else 2
theorem filtRes_bytes {l : List Int} (h : bytes l) : bytes (filtRes l) := by
  unfold filtRes
  split
  · exact bytes_filt l h
  · intro x hx; simp at hx
theorem filtRes_len (l : List Int) : (filtRes l).length ≤ 64 := by
  unfold filtRes
  split
  · rw [grid_len]; omega
  · simp
theorem softRes_len (l : List Int) : (softRes l).length ≤ 8 := by
  unfold softRes
  split
  · rw [softL_len]; omega
  · simp

theorem Fresh.blk {w : World} {base : Nat} {A : Option Addr} {vs : List Value} (h : Fresh w base A vs) (a : Addr) (ha : A = some a) : base ≤ a.block ∧ a.block < w.heap.size := by
  rcases h with ⟨h, _⟩ | ⟨b, h, h1, h2⟩
  · rw [h] at ha; cases ha
  · rw [h] at ha; cases ha; exact ⟨h1, h2.lt⟩

def Told (w : World) (r : List Value) (er : Int) (e : Ending) (w' : World) : Prop :=
  (∃ A m c, e = .returned (.tuple #[.slice A m c, .int .i64 er]) ∧ r.length = m ∧ Fresh w' w.heap.size A r) ∧ Below w.heap.size w w'

theorem filter_any (w : World) (A : Option Addr) (n c : Nat) (l : List Int) (hn : l.length = n) (hr : Rd w A (nums .u8 l)) (hb : bytes l) :
    Calls Try.prog 11 #[.slice A n c] w (Told w (nums .u8 (filtRes l)) (filtErr l)) := by
  subst hn
  by_cases h : l.length = 64
  · rw [h]
    refine (filter_ok w A c l h hr hb).mono fun e w' ⟨⟨b, h1, h2, h3⟩, h4⟩ => ⟨⟨_, 64, 64, ?_, ?_, .inr ⟨b, rfl, h1, ?_⟩⟩, h4⟩
    · rw [filtErr, if_pos h]; exact h2
    · rw [nums_length, filtRes, if_pos h, grid_len]
    · rw [filtRes, if_pos h]; exact h3.row_
  · refine (filter_no w A _ c h).mono fun e w' ⟨h1, h4⟩ => ⟨⟨none, 0, 0, ?_, ?_, .inl ⟨rfl, ?_⟩⟩, h4⟩
    · rw [filtErr, if_neg h]; exact h1
    · rw [filtRes, if_neg h]; rfl
    · rw [filtRes, if_neg h]; rfl
theorem refFilter_any (w : World) (A : Option Addr) (n c : Nat) (l : List Int) (hn : l.length = n) (hr : Rd w A (nums .u8 l)) (hb : bytes l) :
    Calls Try.prog 12 #[.slice A n c] w (Told w (nums .u8 (filtRes l)) (filtErr l)) := by
  subst hn
  by_cases h : l.length = 64
  · rw [h]
    refine (refFilter_ok w A c l h hr hb).mono fun e w' ⟨⟨b, h1, h2, h3⟩, h4⟩ => ⟨⟨_, 64, 64, ?_, ?_, .inr ⟨b, rfl, h1, ?_⟩⟩, h4⟩
    · rw [filtErr, if_pos h]; exact h2
    · rw [nums_length, filtRes, if_pos h, grid_len]
    · rw [filtRes, if_pos h]; exact h3
  · refine (refFilter_no w A _ c h).mono fun e w' ⟨h1, h4⟩ => ⟨⟨none, 0, 0, ?_, ?_, .inl ⟨rfl, ?_⟩⟩, h4⟩
    · rw [filtErr, if_neg h]; exact h1
    · rw [filtRes, if_neg h]; rfl
    · rw [filtRes, if_neg h]; rfl
theorem soften_any (w : World) (A : Option Addr) (n c : Nat) (l : List Int) (hn : l.length = n) (hr : Rd w A (nums .i64 l)) :
    Calls Try.prog 13 #[.slice A n c] w (Told w (nums .i64 (softRes l)) (softErr l)) := by
  subst hn
  refine (softenF w A c l hr).mono fun e w' ⟨h1, h4⟩ => ?_
  rcases h1 with ⟨h, b, h1, h2, h3⟩ | ⟨h, h1⟩
  · refine ⟨⟨_, 8, 8, ?_, ?_, .inr ⟨b, rfl, h1, ?_⟩⟩, h4⟩
    · rw [softErr, if_pos h]; exact h2
    · rw [nums_length, softRes, if_pos h, softL_len]
    · rw [softRes, if_pos h]; exact h3
  · refine ⟨⟨none, 0, 0, ?_, ?_, .inl ⟨rfl, ?_⟩⟩, h4⟩
    · rw [softErr, if_neg h]; exact h1
    · rw [softRes, if_neg h]; rfl
    · rw [softRes, if_neg h]; rfl
theorem refSoften_any (w : World) (A : Option Addr) (n c : Nat) (l : List Int) (hn : l.length = n) (hr : Rd w A (nums .i64 l)) :
    Calls Try.prog 14 #[.slice A n c] w (Told w (nums .i64 (softRes l)) (softErr l)) := by
  subst hn
  refine (refSoftenF w A c l hr).mono fun e w' ⟨h1, h4⟩ => ?_
  rcases h1 with ⟨h, v, h1, h2⟩ | ⟨h, h1⟩
  · obtain ⟨A', c', rfl, _, _, h5⟩ := h2.fresh
    refine ⟨⟨A', (nums .i64 (softL l)).length, c', ?_, ?_, ?_⟩, h4⟩
    · rw [softErr, if_pos h]; exact h1
    · rw [softRes, if_pos h]
    · rw [softRes, if_pos h]; exact h5
  · refine ⟨⟨none, 0, 0, ?_, ?_, .inl ⟨rfl, ?_⟩⟩, h4⟩
    · rw [softErr, if_neg h]; exact h1
    · rw [softRes, if_neg h]; rfl
    · rw [softRes, if_neg h]; rfl

set_option maxHeartbeats 1000000 in
theorem filters_long (w : World) (A A' : Option Addr) (n c n' c' : Nat) (h : 80 < n ∨ 20 < n') (hm : n ≤ maxLen) (hm' : n' ≤ maxLen) :
    Calls Try.prog 3 #[.slice A n c, .slice A' n' c'] w fun e w' => e = .returned (.bool true) ∧ Below w.heap.size w w' := by
  unfold maxLen at hm hm'
  by_cases h8 : 80 < n
  · have hd : decide ((80 : Int) < n) = true := by simp; omega
    clear h
    go_enter Try.func3, Try.ntmps3
    go_wp2_with fail
    refine (awakeF _).mono ?_
    rintro e w1 ⟨rfl, hb1⟩
    go_wp2
    go_ret
    exact ⟨rfl, hb1⟩
  · have hd : decide ((80 : Int) < n) = false := by simp; omega
    have hd : decide ((20 : Int) < n') = true := by simp; omega
    clear h
    go_enter Try.func3, Try.ntmps3
    go_wp2_with fail
    refine (awakeF _).mono ?_
    rintro e w1 ⟨rfl, hb1⟩
    go_wp2
    go_ret
    exact ⟨rfl, hb1⟩

set_option maxHeartbeats 4000000 in
theorem filters_short (w : World) (A A' : Option Addr) (n c n' c' : Nat) (l l' : List Int) (hn : l.length = n) (hn' : l'.length = n') (hm : n ≤ 80) (hm' : n' ≤ 20)
    (hr : Rd w A (nums .u8 l)) (hr' : Rd w A' (nums .i64 l')) (hb : bytes l) :
    Calls Try.prog 3 #[.slice A n c, .slice A' n' c'] w fun e w' => e = .returned (.bool true) ∧ Below w.heap.size w w' := by
  have HR : Hid (∀ W, Below w.heap.size w W → Rd W A (nums .u8 l)) := Lib.hid fun W hW => hr.below hW
  have HR' : Hid (∀ W, Below w.heap.size w W → Rd W A' (nums .i64 l')) := Lib.hid fun W hW => hr'.below hW
  have HN := Lib.hid hn
  have HN' := Lib.hid hn'
  have HB := Lib.hid hb
  clear hr hr' hn hn' hb
  have hd : decide ((80 : Int) < n) = false := by simp; omega
  have hd' : decide ((20 : Int) < n') = false := by simp; omega
  go_enter Try.func3, Try.ntmps3
  go_wp2_with fail
  refine (lentBytesF _ A n c l HN.out (by omega) (HR.out _ (Below.refl _ _))).mono ?_
  rintro e w1 ⟨⟨g, cap, rfl, hg1, hg2, hg3, hg4⟩, hb1⟩
  go_wp2_with fail
  refine (copyIntsF _ A' n' c' l' HN'.out (by omega) (HR'.out _ hb1)).mono ?_
  rintro e w2 ⟨⟨v, rfl, hv⟩, hb2⟩
  obtain ⟨Ai, ci, rfl, _, _, hi⟩ := hv.fresh
  rw [nums_length, HN'.out]
  have hs2 := (below_then hb1 hb2).size
  have HIB : Hid (∀ a, Ai = some a → a.block < w2.heap.size) := Lib.hid fun a ha => (hi.blk a ha).2
  have hg4 := hg4.below hb2
  have hbel := below_then hb1 hb2
  have hgl := hg4.lt
  clear hv hb1 hb2
  go_wp2_with fail
  refine (filter_any _ (some ⟨g, 0, none⟩) n cap l HN.out (hg4.take (by rw [nums_append]; exact List.prefix_append _ _)).rd HB.out).mono ?_
  rintro e w3 ⟨⟨A3, m3, c3, rfl, hm3, h3⟩, hb3⟩
  have HA3 : Hid (∀ a, A3 = some a → w2.heap.size ≤ a.block ∧ a.block < w3.heap.size) := Lib.hid fun a ha => h3.blk a ha
  have hs3 := hb3.size
  have hg4 := hg4.below hb3
  have hi := hi.below hb3
  have hbel3 := below_then hbel hb3
  clear hb3
  go_wp2_with fail
  refine (refFilter_any _ A n c l HN.out (HR.out _ hbel3) HB.out).mono ?_
  rintro e w4 ⟨⟨A4, m4, c4, rfl, hm4, h4⟩, hb4⟩
  have hs4 := hb4.size
  have hg4 := hg4.below hb4
  have hi := hi.below hb4
  have h3 := h3.below hb4
  have hbel4 := below_then hbel3 hb4
  clear hb4
  go_wp2_with fail
  refine (soften_any _ Ai n' ci l' HN'.out hi.rd).mono ?_
  rintro e w5 ⟨⟨A5, m5, c5, rfl, hm5, h5⟩, hb5⟩
  have HA5 : Hid (∀ a, A5 = some a → w4.heap.size ≤ a.block ∧ a.block < w5.heap.size) := Lib.hid fun a ha => h5.blk a ha
  have hg4 := hg4.below hb5
  have hi := hi.below hb5
  have h3 := h3.below hb5
  have h4 := h4.below hb5
  have hbel5 := below_then hbel4 hb5
  clear hb5
  go_wp2_with fail
  refine (refSoften_any _ A' n' c' l' HN'.out (HR'.out _ hbel5)).mono ?_
  rintro e w6 ⟨⟨A6, m6, c6, rfl, hm6, h6⟩, hb6⟩
  have hg4 := hg4.below hb6
  have hi := hi.below hb6
  have h3 := h3.below hb6
  have h4 := h4.below hb6
  have h5 := h5.below hb6
  have hbel6 := below_then hbel5 hb6
  clear hb6
  rw [nums_length] at hm3 hm4 hm5 hm6
  have HM3 := Lib.hid hm3
  have HM4 := Lib.hid hm4
  have HM5 := Lib.hid hm5
  have HM6 := Lib.hid hm6
  have hl3 : m3 ≤ 64 := by have := filtRes_len l; omega
  have hl5 : m5 ≤ 8 := by have := softRes_len l'; omega
  have hl6 : m6 ≤ 8 := by have := softRes_len l'; omega
  clear hm3 hm4 hm5 hm6
  have HFB := Lib.hid (filtRes_bytes HB.out)
  go_wp2_with fail
  refine (sameBytes _ A3 A4 m3 m4 c3 c4 _ _ HM3.out HM4.out h3.rd h4.rd HFB.out HFB.out).mono ?_
  rintro e w7 ⟨rfl, rfl⟩
  rw [decide_eq_true (rfl : filtRes l = filtRes l)]
  go_wp2_with fail
  refine (sameInts _ A5 A6 m5 m6 c5 c6 _ _ HM5.out HM6.out (by omega) h5.rd h6.rd).mono ?_
  rintro e w7 ⟨rfl, m, rfl⟩
  rw [decide_eq_true (rfl : softRes l' = softRes l')]
  go_wp2_with fail
  refine (overBytes _ _ A3 c3 m3 _ HM3.out (by omega) (h3.below (below_drewN (Below.refl _ _) m))).mono ?_
  rintro e w8 ⟨rfl, hm8⟩
  go_wp2_with fail
  have hg8 := (hg4.drewN m).mod hm8 (fun ⟨a, ha, hb⟩ => by have := HA3.out a ha; omega)
  have hi8 := (hi.rd.drewN m).mod hm8 (fun a ha ⟨a', ha', hb⟩ => by have := HA3.out a' ha'; have := HIB.out a ha; omega)
  have h58 : Fresh w8 w4.heap.size A5 (nums .i64 (softRes l')) := (h5.below (below_drewN (Below.refl _ _) m)).mod hm8 (fun i hi _ ⟨a', ha', hb⟩ => by have := HA3.out a' ha'; omega)
  have hbel8 := below_mod (below_drewN hbel6 m) hm8 (fun i ⟨a, ha, hb⟩ => by have := HA3.out a ha; omega)
  clear hm8 hg4 hi h3 h4 h5 h6 hbel6 hbel5 hbel4 hbel3 hbel
  refine (overInts _ _ A5 c5 m5 _ HM5.out (by omega) h58).mono ?_
  rintro e w9 ⟨rfl, hm9⟩
  have hg9 := hg8.mod hm9 (fun ⟨a, ha, hb⟩ => by have := HA5.out a ha; have := hs4; have := HA3; omega)
  have hi9 := hi8.mod hm9 (fun a ha ⟨a', ha', hb⟩ => by have := HA5.out a' ha'; have := HIB.out a ha; omega)
  have hbel9 := below_mod hbel8 hm9 (fun i ⟨a, ha, hb⟩ => by have := HA5.out a ha; omega)
  clear hm9 hg8 hi8 h58 hbel8
  go_wp2_with fail
  refine (keptBytesF _ g A n cap c l HN.out (by omega) hg2 hg3 hg9 (HR.out _ hbel9)).mono ?_
  rintro e w10 ⟨rfl, hb10⟩
  have hi10 := hi9.below hb10
  have hbel10 := below_then hbel9 hb10
  clear hb10 hg9 hi9 hbel9
  go_wp2_with fail
  refine (sameInts _ Ai A' n' n' ci c' _ _ HN'.out HN'.out (by omega) hi10 (HR'.out _ hbel10)).mono ?_
  rintro e w11 ⟨rfl, m', rfl⟩
  rw [decide_eq_true (rfl : l' = l')]
  go_wp2_with fail
  refine (awakeF _).mono ?_
  rintro e w12 ⟨rfl, hb12⟩
  go_wp2
  go_ret
  exact ⟨rfl, below_then (below_drewN hbel10 m') hb12⟩

theorem loopFilters_walk (a0 : Option Addr) (len0 cap0 : Nat) (z0 : List Int) (a1 : Option Addr) (len1 cap1 : Nat) (z1 : List Int) (w : World) (w0 : IsRow .u8 w a0 len0 cap0 z0) (w1 : IsRow .i64 w a1 len1 cap1 z1) :
    Calls Try.prog 3 #[.slice a0 len0 cap0, .slice a1 len1 cap1] w fun e w' => e = .returned (.bool true) ∧ Below w.heap.size w w' := by
  obtain ⟨h1, h2, h3, h4, h5⟩ := w0.rd
  obtain ⟨k1, k2, k3, k4, k5⟩ := w1.rd
  by_cases h : 80 < len0 ∨ 20 < len1
  · exact filters_long w a0 a1 len0 cap0 len1 cap1 h (by omega) (by omega)
  · exact filters_short w a0 a1 len0 cap0 len1 cap1 _ _ h1 k1 (by omega) (by omega) h4 k4 (bytes_of_wf h5)
end Go.Proofs.Ytdaenekipbimgaa
