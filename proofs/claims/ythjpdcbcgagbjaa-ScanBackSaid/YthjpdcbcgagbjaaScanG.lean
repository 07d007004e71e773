/- The walk of scan.Runs; no conditions but a bound on the length. -/
import Derived.Test.YthjpdcbcgagbjaaScanF
import Derived.Deep.MidRow
set_option linter.unusedVariables false
set_option linter.unusedSimpArgs false
namespace Go.Proofs.Ythjpdcbcgagbjaa
open Go.RowKit

theorem num_one (l : List Int) : (nums .i64 l).toArray.all (·.oneCell') = true := by
  rw [Array.all_eq_true_iff_forall_mem]
  intro v hv
  have hv : v ∈ nums .i64 l := by simpa using hv
  obtain ⟨y, _, rfl⟩ := List.mem_map.1 hv
  rfl
theorem arr_info (l : List Int) (h : l.length = 64) : (Try.prog.info? 48).map (·.size) = some (nums .i64 l).toArray.size := by
  rw [List.size_toArray, nums_length, h]; kernel_rfl
theorem arr_info' (l : List Int) (h : l.length = 64) : (Try.prog.info? 48).map (·.size) = some (nums .i64 l).length := by
  rw [nums_length, h]; kernel_rfl
theorem laid_block {w W : World} {g : Nat} {l : List Int} (h1 : Blk W g 48 (nums .i64 zeros)) (h3 : Below w.heap.size w W) (hg2 : w.heap.size ≤ g)
    (W2 : World) (hW : W.setRow g (nums .i64 l).toArray = W2) : Hid (Blk W2 g 48 (nums .i64 l)) ∧ Hid (Below w.heap.size w W2) := by
  subst hW
  exact ⟨setRow_heap W g _ _ 48 (0, 0) h1, below_setRow h3 hg2 _⟩

theorem laid_two {w W : World} {g : Nat} {l : List Int} (h1 : Blk W g 48 (nums .i64 zeros)) (h2 : Blk W w.heap.size 48 (nums .i64 l)) (h3 : Below w.heap.size w W) (hg : g ≠ w.heap.size) (hg2 : w.heap.size ≤ g)
    (W2 : World) (hW : W.setRow g (nums .i64 orderL).toArray = W2) : Hid (Blk W2 g 48 (nums .i64 orderL)) ∧ Hid (Blk W2 w.heap.size 48 (nums .i64 l)) ∧ Hid (Below w.heap.size w W2) := by
  subst hW
  exact ⟨setRow_heap W g _ _ 48 (0, 0) h1, (setRow_other W g _ _ (Ne.symm hg)).trans h2, below_setRow h3 hg2 _⟩

set_option maxHeartbeats 1000000 in
theorem runs_range (w : World) (A : Option Addr) (n c : Nat) (f : Int) (h : ¬ (f = 0 ∨ f = 1)) :
    Calls Try.prog 18 #[.slice A n c, .int .i64 f] w (ToldP w [] 3) := by
  have h0 : (f == 0) = false := beq_eq_false_iff_ne.2 (by omega)
  have h1 : (f == 1) = false := beq_eq_false_iff_ne.2 (by omega)
  have h2 : (f != 0) = true := by rw [bne_iff_ne]; omega
  have h3 : (f != 1) = true := by rw [bne_iff_ne]; omega
  clear h
  go_enter Try.func18, Try.ntmps18
  go_wp2
  go_ret2
  exact toldP_nil rfl (Below.refl _ _)

set_option maxHeartbeats 1000000 in
theorem runs_len (w : World) (A : Option Addr) (n c : Nat) (f : Nat) (hf : f ≤ 1) (h : n ≠ 64) :
    Calls Try.prog 18 #[.slice A n c, .int .i64 f] w (ToldP w [] 2) := by
  have h1 : ((n : Int) == 64) = false := beq_eq_false_iff_ne.2 (by omega)
  have h2 : ((n : Int) != 64) = true := by rw [bne_iff_ne]; omega
  clear h
  rcases (by omega : f = 0 ∨ f = 1) with rfl | rfl
  · go_enter Try.func18, Try.ntmps18
    go_wp2
    go_ret2
    exact toldP_nil rfl (Below.refl _ _)
  · go_enter Try.func18, Try.ntmps18
    go_wp2
    go_ret2
    exact toldP_nil rfl (Below.refl _ _)

set_option maxHeartbeats 1000000 in
theorem runs_first (w : World) (A : Option Addr) (c : Nat) (l : List Int) (hl : l.length = 64) (hr : Rd w A (nums .i64 l)) (h0 : el l 0 ≠ 0) :
    Calls Try.prog 18 #[.slice A 64 c, .int .i64 1] w (ToldP w [] 2) := by
  obtain ⟨b, o, rfl, hlt, hc⟩ := hr.at_ (i := 0) (by rw [nums_length]; omega)
  have hc0 : w.cell? ⟨b, o, none⟩ = some (.int .i64 (el l 0)) := hc 0 _ (nums_get (by omega))
  have h1 : (el l 0 == 0) = false := beq_eq_false_iff_ne.2 h0
  have h2 : (el l 0 != 0) = true := by rw [bne_iff_ne]; exact h0
  clear hc hr h0 hl
  go_enter Try.func18, Try.ntmps18
  go_wp2
  go_ret2
  exact toldP_nil rfl (Below.refl _ _)

set_option maxHeartbeats 4000000 in
set_option maxRecDepth 100000 in
theorem runs_ok (w : World) (A : Option Addr) (c : Nat) (l : List Int) (hl : l.length = 64) (hr : Rd w A (nums .i64 l)) (f : Nat) (hf : f ≤ 1) (h0 : f = 1 → el l 0 = 0) :
    Calls Try.prog 18 #[.slice A 64 c, .int .i64 f] w (RunsPost w l f) := by
  obtain ⟨b, o, rfl, hlt, hc⟩ := hr.at_ (i := 0) (by rw [nums_length]; omega)
  have HC : Hid (∀ k W, k < 64 → Below w.heap.size w W → W.cell? ⟨b, o + k, none⟩ = some (.int .i64 (el l k))) := Lib.hid (fun k W hk hb => (hb.cell (by exact hlt)).trans (hc k _ (nums_get (by rw [hl]; exact hk))))
  have hcz : w.cell? ⟨b, o, none⟩ = some (.int .i64 (el l 0)) := hc 0 _ (nums_get (by omega))
  have HL := Lib.hid hl
  have HRG : Hid (w.rangeAt b o (nums .i64 l)) := Lib.hid hc
  have hZ := Lib.hid (Blk.new w 48 (nums .i64 zeros))
  clear hc hr hl
  rcases (by omega : f = 0 ∨ f = 1) with rfl | rfl
  · have hap : ∀ W : World, (Instr.arrayAt 48 (.slice (some ⟨b, o, none⟩) 64 c)).run Try.prog W = .ok (.pointer (some ⟨b, o, none⟩)) W := fun W => by
      simp [Instr.arrayAt, go_sem, run_underlying Try.underlying48]
    go_enter Try.func18, Try.ntmps18
    go_wp2_with (first
      | (refine wpList_load_mid rfl 48 (.tmp 36) rfl b o rfl (nums .i64 l) _ HRG.out Try.underlying48 rfl (arr_info' l HL.out) ?_)
      | (refine wpList_store_row rfl 48 (.tmp 6) (.tmp 37) rfl w.heap.size (nums .i64 l).toArray rfl rfl 48 (nums .i64 zeros).toArray hZ.out (arr_info l HL.out) (by simp [nums_length, HL.out, zeros]) (num_one l) ?_; generalize hW2 : World.setRow _ _ _ = W2; obtain ⟨hB2, hbel2⟩ := laid_block (l := l) hZ.out (below_alloc (Below.refl w.heap.size w) _) (Nat.le_refl _) W2 hW2; clear hW2)
      | (refine wpList_load_row rfl 48 (.tmp 6) rfl w.heap.size rfl 48 (nums .i64 l).toArray (0, 0) _ hB2.out Try.underlying48 rfl (arr_info l HL.out) ?_))
    clear hap hcz hZ HC HRG
    go_loopw [8, 39] (fun _ i wr => ∃ k : Nat, k ≤ 64 ∧ i = .int .i64 k ∧ Hid (∀ j, j < k → -127 ≤ el l j ∧ el l j ≤ 127) ∧ Hid (Blk wr w.heap.size 48 (nums .i64 l)) ∧ Hid (Below w.heap.size w wr)) (fun _ i _ => 64 - (intOf i).toNat)
    case atStart => exact ⟨0, by omega, rfl, Lib.hid (fun j hj => by omega), hB2, hbel2⟩
    case round =>
      clear hB2 hbel2
      obtain ⟨k, hk, rfl, hok, hblk, hbel⟩ := hrel
      by_cases hlt' : k < 64
      · have hd : decide ((k : Int) < 64) = true := by simp; omega
        have hix := run_index_agg (P := Try.prog) 48 3 64 (nums .i64 l) .i64 .i64 k _ Try.underlying48 (by rw [nums_length, HL.out]) Try.underlying3 (by kernel_rfl) (nums_get (by rw [HL.out]; exact hlt'))
        by_cases hin : -127 ≤ el l k ∧ el l k ≤ 127
        · have dl : decide (-127 ≤ el l k ∧ el l k ≤ 127) = true := by rw [decide_eq_true_iff]; exact hin
          have HOK : Hid (∀ j, j < k + 1 → -127 ≤ el l j ∧ el l j ≤ 127) := Lib.hid (fun j hj => by
            by_cases h : j = k
            · subst h; exact hin
            · exact hok.out j (by omega))
          clear hin hok
          go_wp2_with fail
          refine (levelF _ (el l k)).mono ?_
          rintro e w3 ⟨rfl, rfl⟩
          rw [dl]
          go_wp2
          go_roundw
          case rel => exact ⟨k + 1, by omega, by go_num, HOK, hblk, hbel⟩
          case measure => simp [intOf]; omega
        · have dl : decide (-127 ≤ el l k ∧ el l k ≤ 127) = false := by rw [decide_eq_false_iff_not]; exact hin
          have HNO : Hid (¬ okB l) := Lib.hid (fun h => hin (h k hlt'))
          clear hin hok
          go_wp2_with fail
          refine (levelF _ (el l k)).mono ?_
          rintro e w3 ⟨rfl, rfl⟩
          rw [dl]
          go_wp2
          go_ret2
          exact .inr ⟨HNO.out, toldP_nil rfl hbel.out⟩
      · have hk64 : k = 64 := by omega
        rw [hk64] at hok
        have hd : decide ((k : Int) < 64) = false := by simp; omega
        clear hk64
        go_wp2_with fail
        refine (placesF _).mono ?_
        rintro e w1 ⟨rfl, hb1⟩
        have hblk1 := Lib.hid (hblk.out.below hb1)
        have hbel1 := Lib.hid (below_then hbel.out hb1)
        have hZ := Lib.hid (Blk.new w1 48 (nums .i64 zeros))
        have hblk2 := Lib.hid (hblk1.out.alloc (.cells (nums .i64 zeros).toArray 48))
        have hgz : w1.heap.size ≠ w.heap.size := by have := hblk1.out.lt; omega
        have hgz2 := hbel1.out.size
        clear hblk hbel hb1
        go_wp2_with (refine wpList_store_row rfl 48 (.tmp 11) (.tmp 46) rfl w1.heap.size (nums .i64 orderL).toArray rfl rfl 48 (nums .i64 zeros).toArray hZ.out order_info rfl order_one ?_; generalize hW4 : World.setRow _ _ _ = W4; obtain ⟨hOrd, hBlk, hBel⟩ := laid_two (l := l) hZ.out hblk2.out (below_alloc hbel1.out _) hgz hgz2 W4 hW4; clear hW4)
        obtain ⟨g, hg⟩ : ∃ g : Nat, g = w1.heap.size := ⟨_, rfl⟩
        rw [← hg] at hOrd hgz hgz2 ⊢
        clear hZ hblk2 hblk1 hbel1 hg
        obtain ⟨wo, rfl⟩ : ∃ wo : World, wo = W4 := ⟨_, rfl⟩
        go_loopw [9, 10, 13, 50] (fun v r _ i wr => ∃ (m : Nat) (run : Nat) (out : List (Int × Int)), m ≤ 64 ∧ i = .int .i64 m ∧ r = .int .i64 run ∧ run ≤ m ∧ out.length ≤ m ∧ Hid (runsGo l (orderL.drop (m + 0)) run out = runsGo l (orderL.drop 0) 0 []) ∧ Hid (OwnP wr (g + 1) v out) ∧ Hid (Blk wr g 48 (nums .i64 orderL)) ∧ Hid (Blk wr w.heap.size 48 (nums .i64 l)) ∧ Hid (Below w.heap.size w wr)) (fun _ _ _ i _ => 64 - (intOf i).toNat)
        case atStart => exact ⟨0, 0, [], by omega, rfl, rfl, by omega, by simp, Lib.hid rfl, Lib.hid (OwnP.nil _ _), hOrd, hBlk, hBel⟩
        case round =>
          clear hOrd hBlk hBel
          obtain ⟨m, run, out, hm, rfl, rfl, hrm, hol, hsp, hown, hord, hblk, hbel⟩ := hrel
          by_cases hlt2 : m < 64
          · have hd : decide ((m : Int) < 64) = true := by simp; omega
            have hk64 : m + 0 < 64 := by omega
            obtain ⟨P, hP⟩ : ∃ P : Nat, el orderL (m + 0) = (P : Int) := ⟨(el orderL (m + 0)).toNat, by have := order_bd _ hk64; omega⟩
            have hP64 : P < 64 := by have := order_bd _ hk64; omega
            have cO : wr.cell? ⟨g, m, none⟩ = some (.int .i64 P) := hord.out.cell (by rw [show m = m + 0 by omega, nums_get (by rw [orderL_len]; exact hk64), hP])
            have cX : wr.cell? ⟨w.heap.size, P, none⟩ = some (.int .i64 (el l P)) := hblk.out.cell (nums_get (by rw [HL.out]; exact hP64))
            have i2 : (P : Int) < 64 := by omega
            have hst := runsGo_step l (m + 0) hk64 run out
            rw [hP, Int.toNat_natCast] at hst
            have eR : IntKind.i64.wrap ((run : Int) + 1) = (run : Int) + 1 := IntWalk.i64_in _ (by omega)
            by_cases hz : el l P = 0
            · have hd3 : (el l P == 0) = true := by rw [beq_iff_eq]; exact hz
              have HSP : Hid (runsGo l (orderL.drop (m + 1 + 0)) ((run + 1 : Nat) : Int) out = runsGo l (orderL.drop 0) 0 []) := Lib.hid (by rw [← hsp.out, hst, if_pos hz, show m + 1 + 0 = m + 0 + 1 by omega]; rfl)
              clear hst hz hP hsp
              go_wp2
              go_roundw
              case rel => exact ⟨m + 1, run + 1, out, by omega, by go_num, by go_num, by omega, by omega, HSP, hown, hord, hblk, hbel⟩
              case measure => simp [intOf]; omega
            · have hd3 : (el l P == 0) = false := beq_eq_false_iff_ne.2 hz
              have HSP : Hid (runsGo l (orderL.drop (m + 1 + 0)) ((0 : Nat) : Int) (out ++ [((run : Int), el l P)]) = runsGo l (orderL.drop 0) 0 []) := Lib.hid (by rw [← hsp.out, hst, if_neg hz, show m + 1 + 0 = m + 0 + 1 by omega]; rfl)
              have hgl2 := hord.out.lt
              have hwl2 := hblk.out.lt
              clear hst hz hP hsp
              go_wp2_with (refine append_pair rfl (.tmp 60) (.tmp 66) rfl (g + 1) _ out run (el l P) rfl rfl hown.out hgl2 (by omega) ?_; intro v' w1 hown1 hg1)
              have hne : ∀ q, u9.ownBlock = some q → g + 1 ≤ q := fun q hq => (hown.out.base q hq).1
              have hg1 : wr.grownBy w1 u9.ownBlock := hg1
              have hord1 : Hid (Blk w1 g 48 (nums .i64 orderL)) := Lib.hid ((hg1.block _ hgl2 (fun h => by have := hne _ h.symm; omega)).trans hord.out)
              have hblk1 : Hid (Blk w1 w.heap.size 48 (nums .i64 l)) := Lib.hid ((hg1.block _ hwl2 (fun h => by have := hne _ h.symm; omega)).trans hblk.out)
              have hbel1 := Lib.hid (hbel.out.grown hg1 hbel.out.size (fun q hq => by have := hne q hq; omega))
              have hown1 := Lib.hid hown1
              clear hown hord hblk hbel hne hg1
              go_wp2
              go_roundw
              case rel => exact ⟨m + 1, 0, _, by omega, by go_num, rfl, by omega, by simp; omega, HSP, hown1, hord1, hblk1, hbel1⟩
              case measure => simp [intOf]; omega
          · have hm64 : m = 64 := by omega
            have hd : decide ((m : Int) < 64) = false := by simp; omega
            have hsp : Hid (runsGo l (orderL.drop 0) 0 [] = out) := Lib.hid (by rw [← hsp.out, hm64]; exact runsGo_end l run out)
            clear hm64
            obtain ⟨A, cc, rfl, hfr⟩ := hown.out.fresh
            go_wp2
            go_ret2
            refine .inl ⟨hok.out, ⟨A, cc, ?_, ?_⟩, hbel.out⟩
            · rw [hsp.out]; rfl
            · rw [hsp.out]; exact hfr.lower (by omega)
  · have h1 : (el l 0 == 0) = true := by rw [beq_iff_eq]; exact h0 rfl
    have h2 : (el l 0 != 0) = false := by rw [bne_eq_false_iff_eq]; exact h0 rfl
    have hap : ∀ W : World, (Instr.arrayAt 48 (.slice (some ⟨b, o, none⟩) 64 c)).run Try.prog W = .ok (.pointer (some ⟨b, o, none⟩)) W := fun W => by
      simp [Instr.arrayAt, go_sem, run_underlying Try.underlying48]
    go_enter Try.func18, Try.ntmps18
    go_wp2_with (first
      | (refine wpList_load_mid rfl 48 (.tmp 36) rfl b o rfl (nums .i64 l) _ HRG.out Try.underlying48 rfl (arr_info' l HL.out) ?_)
      | (refine wpList_store_row rfl 48 (.tmp 6) (.tmp 37) rfl w.heap.size (nums .i64 l).toArray rfl rfl 48 (nums .i64 zeros).toArray hZ.out (arr_info l HL.out) (by simp [nums_length, HL.out, zeros]) (num_one l) ?_; generalize hW2 : World.setRow _ _ _ = W2; obtain ⟨hB2, hbel2⟩ := laid_block (l := l) hZ.out (below_alloc (Below.refl w.heap.size w) _) (Nat.le_refl _) W2 hW2; clear hW2)
      | (refine wpList_load_row rfl 48 (.tmp 6) rfl w.heap.size rfl 48 (nums .i64 l).toArray (0, 0) _ hB2.out Try.underlying48 rfl (arr_info l HL.out) ?_))
    clear hap hcz hZ HC HRG
    go_loopw [8, 39] (fun _ i wr => ∃ k : Nat, k ≤ 64 ∧ i = .int .i64 k ∧ Hid (∀ j, j < k → -127 ≤ el l j ∧ el l j ≤ 127) ∧ Hid (Blk wr w.heap.size 48 (nums .i64 l)) ∧ Hid (Below w.heap.size w wr)) (fun _ i _ => 64 - (intOf i).toNat)
    case atStart => exact ⟨0, by omega, rfl, Lib.hid (fun j hj => by omega), hB2, hbel2⟩
    case round =>
      clear hB2 hbel2
      obtain ⟨k, hk, rfl, hok, hblk, hbel⟩ := hrel
      by_cases hlt' : k < 64
      · have hd : decide ((k : Int) < 64) = true := by simp; omega
        have hix := run_index_agg (P := Try.prog) 48 3 64 (nums .i64 l) .i64 .i64 k _ Try.underlying48 (by rw [nums_length, HL.out]) Try.underlying3 (by kernel_rfl) (nums_get (by rw [HL.out]; exact hlt'))
        by_cases hin : -127 ≤ el l k ∧ el l k ≤ 127
        · have dl : decide (-127 ≤ el l k ∧ el l k ≤ 127) = true := by rw [decide_eq_true_iff]; exact hin
          have HOK : Hid (∀ j, j < k + 1 → -127 ≤ el l j ∧ el l j ≤ 127) := Lib.hid (fun j hj => by
            by_cases h : j = k
            · subst h; exact hin
            · exact hok.out j (by omega))
          clear hin hok
          go_wp2_with fail
          refine (levelF _ (el l k)).mono ?_
          rintro e w3 ⟨rfl, rfl⟩
          rw [dl]
          go_wp2
          go_roundw
          case rel => exact ⟨k + 1, by omega, by go_num, HOK, hblk, hbel⟩
          case measure => simp [intOf]; omega
        · have dl : decide (-127 ≤ el l k ∧ el l k ≤ 127) = false := by rw [decide_eq_false_iff_not]; exact hin
          have HNO : Hid (¬ okB l) := Lib.hid (fun h => hin (h k hlt'))
          clear hin hok
          go_wp2_with fail
          refine (levelF _ (el l k)).mono ?_
          rintro e w3 ⟨rfl, rfl⟩
          rw [dl]
          go_wp2
          go_ret2
          exact .inr ⟨HNO.out, toldP_nil rfl hbel.out⟩
      · have hk64 : k = 64 := by omega
        rw [hk64] at hok
        have hd : decide ((k : Int) < 64) = false := by simp; omega
        clear hk64
        go_wp2_with fail
        refine (placesF _).mono ?_
        rintro e w1 ⟨rfl, hb1⟩
        have hblk1 := Lib.hid (hblk.out.below hb1)
        have hbel1 := Lib.hid (below_then hbel.out hb1)
        have hZ := Lib.hid (Blk.new w1 48 (nums .i64 zeros))
        have hblk2 := Lib.hid (hblk1.out.alloc (.cells (nums .i64 zeros).toArray 48))
        have hgz : w1.heap.size ≠ w.heap.size := by have := hblk1.out.lt; omega
        have hgz2 := hbel1.out.size
        clear hblk hbel hb1
        go_wp2_with (refine wpList_store_row rfl 48 (.tmp 11) (.tmp 46) rfl w1.heap.size (nums .i64 orderL).toArray rfl rfl 48 (nums .i64 zeros).toArray hZ.out order_info rfl order_one ?_; generalize hW4 : World.setRow _ _ _ = W4; obtain ⟨hOrd, hBlk, hBel⟩ := laid_two (l := l) hZ.out hblk2.out (below_alloc hbel1.out _) hgz hgz2 W4 hW4; clear hW4)
        obtain ⟨g, hg⟩ : ∃ g : Nat, g = w1.heap.size := ⟨_, rfl⟩
        rw [← hg] at hOrd hgz hgz2 ⊢
        clear hZ hblk2 hblk1 hbel1 hg
        obtain ⟨wo, rfl⟩ : ∃ wo : World, wo = W4 := ⟨_, rfl⟩
        go_loopw [9, 10, 13, 50] (fun v r _ i wr => ∃ (m : Nat) (run : Nat) (out : List (Int × Int)), m ≤ 63 ∧ i = .int .i64 m ∧ r = .int .i64 run ∧ run ≤ m ∧ out.length ≤ m ∧ Hid (runsGo l (orderL.drop (m + 1)) run out = runsGo l (orderL.drop 1) 0 []) ∧ Hid (OwnP wr (g + 1) v out) ∧ Hid (Blk wr g 48 (nums .i64 orderL)) ∧ Hid (Blk wr w.heap.size 48 (nums .i64 l)) ∧ Hid (Below w.heap.size w wr)) (fun _ _ _ i _ => 63 - (intOf i).toNat)
        case atStart => exact ⟨0, 0, [], by omega, rfl, rfl, by omega, by simp, Lib.hid rfl, Lib.hid (OwnP.nil _ _), hOrd, hBlk, hBel⟩
        case round =>
          clear hOrd hBlk hBel
          obtain ⟨m, run, out, hm, rfl, rfl, hrm, hol, hsp, hown, hord, hblk, hbel⟩ := hrel
          by_cases hlt2 : m < 63
          · have hd : decide ((m : Int) < 63) = true := by simp; omega
            have hk64 : m + 1 < 64 := by omega
            obtain ⟨P, hP⟩ : ∃ P : Nat, el orderL (m + 1) = (P : Int) := ⟨(el orderL (m + 1)).toNat, by have := order_bd _ hk64; omega⟩
            have hP64 : P < 64 := by have := order_bd _ hk64; omega
            have cO : wr.cell? ⟨g, 1 + m, none⟩ = some (.int .i64 P) := hord.out.cell (by rw [show 1 + m = m + 1 by omega, nums_get (by rw [orderL_len]; exact hk64), hP])
            have cX : wr.cell? ⟨w.heap.size, P, none⟩ = some (.int .i64 (el l P)) := hblk.out.cell (nums_get (by rw [HL.out]; exact hP64))
            have i2 : (P : Int) < 64 := by omega
            have hst := runsGo_step l (m + 1) hk64 run out
            rw [hP, Int.toNat_natCast] at hst
            have eR : IntKind.i64.wrap ((run : Int) + 1) = (run : Int) + 1 := IntWalk.i64_in _ (by omega)
            by_cases hz : el l P = 0
            · have hd3 : (el l P == 0) = true := by rw [beq_iff_eq]; exact hz
              have HSP : Hid (runsGo l (orderL.drop (m + 1 + 1)) ((run + 1 : Nat) : Int) out = runsGo l (orderL.drop 1) 0 []) := Lib.hid (by rw [← hsp.out, hst, if_pos hz, show m + 1 + 1 = m + 1 + 1 by omega]; rfl)
              clear hst hz hP hsp
              go_wp2
              go_roundw
              case rel => exact ⟨m + 1, run + 1, out, by omega, by go_num, by go_num, by omega, by omega, HSP, hown, hord, hblk, hbel⟩
              case measure => simp [intOf]; omega
            · have hd3 : (el l P == 0) = false := beq_eq_false_iff_ne.2 hz
              have HSP : Hid (runsGo l (orderL.drop (m + 1 + 1)) ((0 : Nat) : Int) (out ++ [((run : Int), el l P)]) = runsGo l (orderL.drop 1) 0 []) := Lib.hid (by rw [← hsp.out, hst, if_neg hz, show m + 1 + 1 = m + 1 + 1 by omega]; rfl)
              have hgl2 := hord.out.lt
              have hwl2 := hblk.out.lt
              clear hst hz hP hsp
              go_wp2_with (refine append_pair rfl (.tmp 60) (.tmp 66) rfl (g + 1) _ out run (el l P) rfl rfl hown.out hgl2 (by omega) ?_; intro v' w1 hown1 hg1)
              have hne : ∀ q, u9.ownBlock = some q → g + 1 ≤ q := fun q hq => (hown.out.base q hq).1
              have hg1 : wr.grownBy w1 u9.ownBlock := hg1
              have hord1 : Hid (Blk w1 g 48 (nums .i64 orderL)) := Lib.hid ((hg1.block _ hgl2 (fun h => by have := hne _ h.symm; omega)).trans hord.out)
              have hblk1 : Hid (Blk w1 w.heap.size 48 (nums .i64 l)) := Lib.hid ((hg1.block _ hwl2 (fun h => by have := hne _ h.symm; omega)).trans hblk.out)
              have hbel1 := Lib.hid (hbel.out.grown hg1 hbel.out.size (fun q hq => by have := hne q hq; omega))
              have hown1 := Lib.hid hown1
              clear hown hord hblk hbel hne hg1
              go_wp2
              go_roundw
              case rel => exact ⟨m + 1, 0, _, by omega, by go_num, rfl, by omega, by simp; omega, HSP, hown1, hord1, hblk1, hbel1⟩
              case measure => simp [intOf]; omega
          · have hm64 : m = 63 := by omega
            have hd : decide ((m : Int) < 63) = false := by simp; omega
            have hsp : Hid (runsGo l (orderL.drop 1) 0 [] = out) := Lib.hid (by rw [← hsp.out, hm64]; exact runsGo_end l run out)
            clear hm64
            obtain ⟨A, cc, rfl, hfr⟩ := hown.out.fresh
            go_wp2
            go_ret2
            refine .inl ⟨hok.out, ⟨A, cc, ?_, ?_⟩, hbel.out⟩
            · rw [hsp.out]; rfl
            · rw [hsp.out]; exact hfr.lower (by omega)
end Go.Proofs.Ythjpdcbcgagbjaa
