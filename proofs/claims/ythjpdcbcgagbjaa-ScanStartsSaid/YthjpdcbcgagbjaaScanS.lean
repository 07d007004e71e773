/- The walk of ScanStarts: pairs from the second place on are as those from the first one on behind a nought; for every input. -/
import Derived.Test.YthjpdcbcgagbjaaScanM
set_option linter.unusedVariables false
set_option linter.unusedSimpArgs false
namespace Go.Proofs.Ythjpdcbcgagbjaa
open Go.RowKit

set_option maxHeartbeats 1000000 in
theorem starts_long (w : World) (A : Option Addr) (n c : Nat) (h : n = 0 ∨ 60 < n) (hm : n ≤ maxLen) :
    Calls Try.prog 8 #[.slice A n c] w fun e w' => e = .returned (.bool true) ∧ Below w.heap.size w w' := by
  unfold maxLen at hm
  by_cases h1 : n = 0
  · have hd : ((n : Int) == 0) = true := by rw [beq_iff_eq]; omega
    clear h h1
    go_enter Try.func8, Try.ntmps8
    go_wp2_with fail
    refine (awakeF _).mono ?_
    rintro e w1 ⟨rfl, hb1⟩
    go_wp2
    go_ret
    exact ⟨rfl, hb1⟩
  · have hd : ((n : Int) == 0) = false := beq_eq_false_iff_ne.2 (by omega)
    have hd' : decide ((60 : Int) < n) = true := by simp; omega
    clear h
    go_enter Try.func8, Try.ntmps8
    go_wp2_with fail
    refine (awakeF _).mono ?_
    rintro e w1 ⟨rfl, hb1⟩
    go_wp2
    go_ret
    exact ⟨rfl, hb1⟩

/-- The first pair's run, one more. -/
theorem fresh_pairs {w : World} {g : Nat} {A : Option Addr} {l : List (Int × Int)} (hl : l ≠ []) (h : Fresh w g A (pairsV l)) : ∃ b, A = some ⟨b, 0, none⟩ ∧ g ≤ b ∧ Row w b (pairsV l) := by
  rcases h with ⟨_, h0⟩ | h
  · have := pairsV_len l
    rw [h0] at this
    exact absurd (List.eq_nil_of_length_eq_zero (by simp at this; omega)) hl
  · exact h
theorem row_first {w : World} {b : Nat} {r v : Int} {t : List (Int × Int)} (h : Row w b (pairsV ((r, v) :: t))) : Row (w.setCell ⟨b, 0, none⟩ (.int .i64 (r + 1))) b (pairsV ((r + 1, v) :: t)) := by
  have := h.set (i := 0) (by simp [pairsV]) (.int .i64 (r + 1))
  exact this

set_option maxHeartbeats 4000000 in
theorem starts_far (w : World) (A : Option Addr) (n c : Nat) (r v : Int) (t : List (Int × Int)) (hn : ((r, v) :: t).length = n) (hm : n ≤ 60) (hr : Rd w A (pairsV ((r, v) :: t))) (hfar : r < 0 ∨ 100 < r) :
    Calls Try.prog 8 #[.slice A n c] w fun e w' => e = .returned (.bool true) ∧ Below w.heap.size w w' := by
  have HR : Hid (∀ W, Below w.heap.size w W → Rd W A (pairsV ((r, v) :: t))) := Lib.hid fun W hW => hr.below hW
  have HN := Lib.hid hn
  have hn1 : 1 ≤ n := by rw [← hn]; simp
  have hd : ((n : Int) == 0) = false := beq_eq_false_iff_ne.2 (by omega)
  have hd' : decide ((60 : Int) < n) = false := by simp; omega
  obtain ⟨l, hl⟩ : ∃ l, l = (r, v) :: t := ⟨_, rfl⟩
  rw [← hl] at HR HN
  have HL := Lib.hid hl
  clear hr hn hl
  have hne : ((spreadOf l 1).2 != 0) = true := by
    rw [bne_iff_ne, HL.out]
    unfold spreadOf
    rw [if_pos (.inr rfl)]
    exact spread_far r v t zeros hfar
  by_cases h1 : r < 0
  · have d1 : decide (r < 0) = true := by rw [decide_eq_true_iff]; exact h1
    clear hfar
    go_enter Try.func8, Try.ntmps8
    go_wp2_with fail
    refine (awakeF _).mono ?_
    rintro e w1 ⟨rfl, hb1⟩
    have HB1 := Lib.hid hb1
    clear hb1
    go_wp2_with fail
    refine (spreadF _ A n c l HN.out (by omega) (HR.out _ HB1.out) 1).mono ?_
    rintro e w2 ⟨⟨A2, m2, c2, rfl, hl2, hf2⟩, hb2⟩
    have HB2 := Lib.hid (below_then HB1.out hb2)
    have HF2 := Lib.hid hf2.rd
    have HL2 : Hid ((spreadOf l 1).1.length = m2) := Lib.hid (by rw [← nums_length .i64]; exact hl2)
    have hm2 : m2 ≤ 64 := by rw [← HL2.out]; exact spreadOf_len _ _
    have HE := Lib.hid (OwnP.empty w2 w2.heap.size (Nat.le_refl _))
    have hb3 := below_new w2 (.cells #[] 39)
    have HF3 := Lib.hid (HF2.out.below hb3)
    have HB0 := Lib.hid (below_then HB2.out hb3)
    have HS2 := Lib.hid HB2.out.size
    have HFB : Hid (∀ a, A2 = some a → a.block < w2.heap.size) := Lib.hid (fun a ha => (hf2.blk a ha).2)
    clear HB1 hb2 hl2 hf2 hb3 HF2
    go_wp2_with (
      refine append_pairs rfl (.tmp 22) (.tmp 23) rfl w2.heap.size (.slice (some ⟨w2.heap.size, 0, none⟩) 0 0) [] A n c l rfl rfl HE.out HN.out (HR.out _ HB0.out) (by simp) (by simp; omega) ?_
      intro v1 w3 hown1 hg1
      have HB3 := Lib.hid (HB0.out.grown hg1 (by have := HS2.out; simp; omega) (fun k hk => by have := HS2.out; simp [Value.ownBlock] at hk; omega))
      have hm3 := (Mod.refl (· = w2.heap.size) (w2.alloc (.cells #[] 39))).grown hg1 (fun k hk => by simp [Value.ownBlock] at hk; right; omega)
      have HF4 := Lib.hid (HF3.out.mod hm3 (fun a ha e => by have := HFB.out a ha; have e : a.block = w2.heap.size := e; omega))
      obtain ⟨A3, c3, rfl, hf3⟩ := hown1.fresh
      rw [List.nil_append, HN.out]
      rw [List.nil_append] at hf3
      obtain ⟨b, rfl, hb, hrow⟩ := fresh_pairs (by rw [HL.out]; simp) hf3
      have HWB : Hid (w.heap.size ≤ b) := Lib.hid (Nat.le_trans HS2.out hb)
      have HB2b := Lib.hid hb
      have HROW := Lib.hid hrow
      have c0 : w3.cell? ⟨b, 0, none⟩ = some (.int .i64 r) := hrow.cell (by rw [HL.out]; rfl)
      have f0 := hrow.free 0
      have hn0 : 0 < n := by omega
      clear hown1 hg1 hm3 hf3 hrow hb)
    go_wp2
    go_ret
    exact ⟨rfl, HB3.out⟩
  · have d1 : decide (r < 0) = false := by rw [decide_eq_false_iff_not]; exact h1
    have d2 : decide (100 < r) = true := by rw [decide_eq_true_iff]; omega
    clear hfar h1
    go_enter Try.func8, Try.ntmps8
    go_wp2_with fail
    refine (awakeF _).mono ?_
    rintro e w1 ⟨rfl, hb1⟩
    have HB1 := Lib.hid hb1
    clear hb1
    go_wp2_with fail
    refine (spreadF _ A n c l HN.out (by omega) (HR.out _ HB1.out) 1).mono ?_
    rintro e w2 ⟨⟨A2, m2, c2, rfl, hl2, hf2⟩, hb2⟩
    have HB2 := Lib.hid (below_then HB1.out hb2)
    have HF2 := Lib.hid hf2.rd
    have HL2 : Hid ((spreadOf l 1).1.length = m2) := Lib.hid (by rw [← nums_length .i64]; exact hl2)
    have hm2 : m2 ≤ 64 := by rw [← HL2.out]; exact spreadOf_len _ _
    have HE := Lib.hid (OwnP.empty w2 w2.heap.size (Nat.le_refl _))
    have hb3 := below_new w2 (.cells #[] 39)
    have HF3 := Lib.hid (HF2.out.below hb3)
    have HB0 := Lib.hid (below_then HB2.out hb3)
    have HS2 := Lib.hid HB2.out.size
    have HFB : Hid (∀ a, A2 = some a → a.block < w2.heap.size) := Lib.hid (fun a ha => (hf2.blk a ha).2)
    clear HB1 hb2 hl2 hf2 hb3 HF2
    go_wp2_with (
      refine append_pairs rfl (.tmp 22) (.tmp 23) rfl w2.heap.size (.slice (some ⟨w2.heap.size, 0, none⟩) 0 0) [] A n c l rfl rfl HE.out HN.out (HR.out _ HB0.out) (by simp) (by simp; omega) ?_
      intro v1 w3 hown1 hg1
      have HB3 := Lib.hid (HB0.out.grown hg1 (by have := HS2.out; simp; omega) (fun k hk => by have := HS2.out; simp [Value.ownBlock] at hk; omega))
      have hm3 := (Mod.refl (· = w2.heap.size) (w2.alloc (.cells #[] 39))).grown hg1 (fun k hk => by simp [Value.ownBlock] at hk; right; omega)
      have HF4 := Lib.hid (HF3.out.mod hm3 (fun a ha e => by have := HFB.out a ha; have e : a.block = w2.heap.size := e; omega))
      obtain ⟨A3, c3, rfl, hf3⟩ := hown1.fresh
      rw [List.nil_append, HN.out]
      rw [List.nil_append] at hf3
      obtain ⟨b, rfl, hb, hrow⟩ := fresh_pairs (by rw [HL.out]; simp) hf3
      have HWB : Hid (w.heap.size ≤ b) := Lib.hid (Nat.le_trans HS2.out hb)
      have HB2b := Lib.hid hb
      have HROW := Lib.hid hrow
      have c0 : w3.cell? ⟨b, 0, none⟩ = some (.int .i64 r) := hrow.cell (by rw [HL.out]; rfl)
      have f0 := hrow.free 0
      have hn0 : 0 < n := by omega
      clear hown1 hg1 hm3 hf3 hrow hb)
    go_wp2
    go_ret
    exact ⟨rfl, HB3.out⟩

set_option maxHeartbeats 4000000 in
theorem starts_near (w : World) (A : Option Addr) (n c : Nat) (r v : Int) (t : List (Int × Int)) (hn : ((r, v) :: t).length = n) (hm : n ≤ 60) (hr : Rd w A (pairsV ((r, v) :: t))) (hfar : ¬ (r < 0 ∨ 100 < r)) :
    Calls Try.prog 8 #[.slice A n c] w fun e w' => e = .returned (.bool true) ∧ Below w.heap.size w w' := by
  have HR : Hid (∀ W, Below w.heap.size w W → Rd W A (pairsV ((r, v) :: t))) := Lib.hid fun W hW => hr.below hW
  have HN := Lib.hid hn
  have hn1 : 1 ≤ n := by rw [← hn]; simp
  have hd : ((n : Int) == 0) = false := beq_eq_false_iff_ne.2 (by omega)
  have hd' : decide ((60 : Int) < n) = false := by simp; omega
  obtain ⟨l, hl⟩ : ∃ l, l = (r, v) :: t := ⟨_, rfl⟩
  rw [← hl] at HR HN
  have HL := Lib.hid hl
  clear hr hn hl
  have hr0 : 0 ≤ r := by omega
  have hr1 : r ≤ 100 := by omega
  have d1 : decide (r < 0) = false := by rw [decide_eq_false_iff_not]; omega
  have d2 : decide (100 < r) = false := by rw [decide_eq_false_iff_not]; omega
  have e1 : IntKind.i64.wrap (r + 1) = r + 1 := IntWalk.i64_in _ (by omega)
  have HSP : Hid (spreadOf ((r + 1, v) :: t) 0 = ((spreadOf l 1).1, (spreadOf l 1).2)) := Lib.hid (by
    rw [HL.out]
    unfold spreadOf
    rw [if_pos (.inl rfl), if_pos (.inr rfl), spread_starts r v t zeros (by omega)])
  clear hfar
  go_enter Try.func8, Try.ntmps8
  go_wp2_with fail
  refine (awakeF _).mono ?_
  rintro e w1 ⟨rfl, hb1⟩
  have HB1 := Lib.hid hb1
  clear hb1
  go_wp2_with fail
  refine (spreadF _ A n c l HN.out (by omega) (HR.out _ HB1.out) 1).mono ?_
  rintro e w2 ⟨⟨A2, m2, c2, rfl, hl2, hf2⟩, hb2⟩
  have HB2 := Lib.hid (below_then HB1.out hb2)
  have HF2 := Lib.hid hf2.rd
  have HL2 : Hid ((spreadOf l 1).1.length = m2) := Lib.hid (by rw [← nums_length .i64]; exact hl2)
  have hm2 : m2 ≤ 64 := by rw [← HL2.out]; exact spreadOf_len _ _
  have HE := Lib.hid (OwnP.empty w2 w2.heap.size (Nat.le_refl _))
  have hb3 := below_new w2 (.cells #[] 39)
  have HF3 := Lib.hid (HF2.out.below hb3)
  have HB0 := Lib.hid (below_then HB2.out hb3)
  have HS2 := Lib.hid HB2.out.size
  have HFB : Hid (∀ a, A2 = some a → a.block < w2.heap.size) := Lib.hid (fun a ha => (hf2.blk a ha).2)
  clear HB1 hb2 hl2 hf2 hb3 HF2
  go_wp2_with (
    refine append_pairs rfl (.tmp 22) (.tmp 23) rfl w2.heap.size (.slice (some ⟨w2.heap.size, 0, none⟩) 0 0) [] A n c l rfl rfl HE.out HN.out (HR.out _ HB0.out) (by simp) (by simp; omega) ?_
    intro v1 w3 hown1 hg1
    have HB3 := Lib.hid (HB0.out.grown hg1 (by have := HS2.out; simp; omega) (fun k hk => by have := HS2.out; simp [Value.ownBlock] at hk; omega))
    have hm3 := (Mod.refl (· = w2.heap.size) (w2.alloc (.cells #[] 39))).grown hg1 (fun k hk => by simp [Value.ownBlock] at hk; right; omega)
    have HF4 := Lib.hid (HF3.out.mod hm3 (fun a ha e => by have := HFB.out a ha; have e : a.block = w2.heap.size := e; omega))
    obtain ⟨A3, c3, rfl, hf3⟩ := hown1.fresh
    rw [List.nil_append, HN.out]
    rw [List.nil_append] at hf3
    obtain ⟨b, rfl, hb, hrow⟩ := fresh_pairs (by rw [HL.out]; simp) hf3
    have HWB : Hid (w.heap.size ≤ b) := Lib.hid (Nat.le_trans HS2.out hb)
    have HB2b := Lib.hid hb
    have HROW := Lib.hid hrow
    have c0 : w3.cell? ⟨b, 0, none⟩ = some (.int .i64 r) := hrow.cell (by rw [HL.out]; rfl)
    have f0 := hrow.free 0
    have hn0 : 0 < n := by omega
    clear hown1 hg1 hm3 hf3 hrow hb)
  have HROW2 : Hid (Row (w3.setCell ⟨b, 0, none⟩ (.int .i64 (r + 1))) b (pairsV ((r + 1, v) :: t))) := Lib.hid (row_first (by rw [← HL.out]; exact HROW.out))
  have HB4 := Lib.hid (HB3.out.setCell (p := ⟨b, 0, none⟩) HWB.out (.int .i64 (r + 1)))
  have hm4 : Mod (· = b) w3 (w3.setCell ⟨b, 0, none⟩ (.int .i64 (r + 1))) := (Mod.refl _ _).set1 _
  have HF5 := Lib.hid (HF4.out.mod hm4 (fun a ha e => by have := HFB.out a ha; have := HB2b.out; have e : a.block = b := e; omega))
  clear hm4 HF4 HB3 HROW
  refine (lawSpreadsF _ (some ⟨b, 0, none⟩) n c3 ((r + 1, v) :: t) (by rw [← HN.out, HL.out]; rfl) (by omega) HROW2.out.rd 0 A2 m2 c2 (spreadOf l 1).1 (spreadOf l 1).2 HL2.out (by omega) HF5.out HSP.out).mono ?_
  rintro e w5 ⟨rfl, hb5⟩
  have HB5 := Lib.hid (below_then HB4.out hb5)
  go_wp2
  go_ret
  exact ⟨rfl, HB5.out⟩

theorem scanStarts_walk (a0 : Option Addr) (len0 cap0 : Nat) (z0 : List (Int × Int)) (w : World) (w0 : IsPairs w a0 len0 cap0 z0) :
    Calls Try.prog 8 #[.slice a0 len0 cap0] w fun e w' => e = .returned (.bool true) ∧ Below w.heap.size w w' := by
  obtain ⟨h1, h2, h3, h4, h5⟩ := w0
  by_cases h : len0 = 0 ∨ 60 < len0
  · exact starts_long w a0 len0 cap0 h (by omega)
  · cases z0 with
    | nil => simp at h1; omega
    | cons p t =>
      obtain ⟨r, v⟩ := p
      by_cases hf : r < 0 ∨ 100 < r
      · exact starts_far w a0 len0 cap0 r v t h1 (by omega) h4 hf
      · exact starts_near w a0 len0 cap0 r v t h1 (by omega) h4 hf
end Go.Proofs.Ythjpdcbcgagbjaa
