/- The walk of scan.Spread; no conditions but a bound on the length. -/
import Derived.Test.YthjpdcbcgagbjaaScanC
import Derived.Test.YthjpdcbcgagbjaaScanP
import Derived.BigRegion
import Derived.Laws.CopyOwn
set_option linter.unusedVariables false
set_option linter.unusedSimpArgs false
namespace Go.Proofs.Ythjpdcbcgagbjaa
open Go.RowKit

def Told (w : World) (r : List Value) (er : Int) (e : Ending) (w' : World) : Prop :=
  (∃ A m c, e = .returned (.tuple #[.slice A m c, .int .i64 er]) ∧ r.length = m ∧ Fresh w' w.heap.size A r) ∧ Below w.heap.size w w'

theorem order_one : (nums .i64 orderL).toArray.all (·.oneCell') = true := by
  rw [Array.all_eq_true_iff_forall_mem]
  intro v hv
  have hv : v ∈ nums .i64 orderL := by simpa using hv
  obtain ⟨y, _, rfl⟩ := List.mem_map.1 hv
  rfl
theorem order_size : (nums .i64 orderL).toArray.size = 64 := by rw [List.size_toArray, nums_length, orderL_len]
theorem order_info : (Try.prog.info? 48).map (·.size) = some (nums .i64 orderL).toArray.size := by rw [order_size]; kernel_rfl
theorem laid_order {w W : World} {g : Nat} (h1 : Blk W g 48 (nums .i64 zeros)) (h2 : Blk W w.heap.size 48 (nums .i64 zeros)) (h3 : Below w.heap.size w W) (hg : g ≠ w.heap.size) (hg2 : w.heap.size ≤ g)
    (W2 : World) (hW : W.setRow g (nums .i64 orderL).toArray = W2) : Hid (Blk W2 g 48 (nums .i64 orderL)) ∧ Hid (Blk W2 w.heap.size 48 (nums .i64 zeros)) ∧ Hid (Below w.heap.size w W2) := by
  subst hW
  exact ⟨setRow_heap W g _ _ 48 (0, 0) h1, (setRow_other W g _ _ (Ne.symm hg)).trans h2, below_setRow h3 hg2 _⟩

set_option maxHeartbeats 1000000 in
theorem spread_range (w : World) (A : Option Addr) (n c : Nat) (f : Int) (h : ¬ (f = 0 ∨ f = 1)) :
    Calls Try.prog 10 #[.slice A n c, .int .i64 f] w (Told w [] 3) := by
  have h0 : (f == 0) = false := beq_eq_false_iff_ne.2 (by omega)
  have h1 : (f == 1) = false := beq_eq_false_iff_ne.2 (by omega)
  have h2 : (f != 0) = true := by rw [bne_iff_ne]; omega
  have h3 : (f != 1) = true := by rw [bne_iff_ne]; omega
  clear h
  go_enter Try.func10, Try.ntmps10
  go_wp2
  go_ret2
  exact ⟨⟨none, 0, 0, rfl, rfl, .inl ⟨rfl, rfl⟩⟩, Below.refl _ _⟩

set_option maxHeartbeats 4000000 in
set_option maxRecDepth 100000 in
theorem spread_ok (w : World) (A : Option Addr) (n c : Nat) (l : List (Int × Int)) (hn : l.length = n) (hm : n ≤ 1000000) (hr : Rd w A (pairsV l)) (f : Nat) (hf : f ≤ 1) :
    Calls Try.prog 10 #[.slice A n c, .int .i64 f] w (Told w (nums .i64 (spreadGo l f zeros).1) (spreadGo l f zeros).2) := by
  have HR : Hid (∀ W, Below w.heap.size w W → Rd W A (pairsV l)) := Lib.hid fun W hW => hr.below hW
  have HN := Lib.hid hn
  clear hr hn
  have hA := Lib.hid (Blk.new w 48 (nums .i64 zeros))
  have hA1 := Lib.hid (below_alloc (Below.refl w.heap.size w) (.cells (nums .i64 zeros).toArray 48))
  have hf2 : f = 0 ∨ f = 1 := by omega
  rcases hf2 with hf0 | hf1
  rotate_left
  · have g0 : ((f : Int) == 0) = false := beq_eq_false_iff_ne.2 (by omega)
    have g1 : ((f : Int) == 1) = true := by rw [beq_iff_eq]; omega
    have g2 : ((f : Int) != 0) = true := by rw [bne_iff_ne]; omega
    have g3 : ((f : Int) != 1) = false := by rw [bne_eq_false_iff_eq]; omega
    clear hf1
    go_enter Try.func10, Try.ntmps10
    go_wp2_with fail
    refine (placesF _).mono ?_
    rintro e w1 ⟨rfl, hb1⟩
    have hOut1 := Lib.hid (hA.out.below hb1)
    have hbel1 := Lib.hid (below_then hA1.out hb1)
    have hOrd := Lib.hid (Blk.new w1 48 (nums .i64 zeros))
    have hOut2 := Lib.hid (hOut1.out.alloc (.cells (nums .i64 zeros).toArray 48))
    have hbel2 := Lib.hid (below_alloc hbel1.out (.cells (nums .i64 zeros).toArray 48))
    have hgz : w1.heap.size ≠ w.heap.size := by have := hOut1.out.lt; omega
    have hgz2 := hbel1.out.size
    clear hA hA1 hb1
    go_wp2_with (refine wpList_store_row rfl 48 _ _ rfl w1.heap.size (nums .i64 orderL).toArray rfl rfl 48 (nums .i64 zeros).toArray hOrd.out order_info rfl order_one ?_; generalize hW2 : World.setRow _ _ _ = W2; obtain ⟨hOrd2, hOut3, hbel3⟩ := laid_order hOrd.out hOut2.out hbel2.out hgz hgz2 W2 hW2; clear hW2)
    obtain ⟨g, hg⟩ : ∃ g : Nat, g = w1.heap.size := ⟨_, rfl⟩
    rw [← hg] at hOrd2 hgz hgz2 ⊢
    clear hOut1 hbel1 hOrd hOut2 hbel2 hg
    go_loopw [7, 21] (fun a i wr => ∃ (k t : Nat) (out : List Int), k ≤ n ∧ a = .int .i64 t ∧ i = .int .i64 k ∧ t ≤ 64 ∧ Hid (out.length = 64) ∧ Hid (spreadGo (l.drop k) t out = spreadGo l f zeros) ∧ Hid (Blk wr w.heap.size 48 (nums .i64 out)) ∧ Hid (Blk wr g 48 (nums .i64 orderL)) ∧ Hid (Below w.heap.size w wr)) (fun _ i _ => n - (intOf i).toNat)
    case atStart => exact ⟨0, f, zeros, by omega, rfl, rfl, by omega, Lib.hid (by decide), Lib.hid rfl, hOut3, hOrd2, hbel3⟩
    case round =>
      clear hOut3 hOrd2 hbel3
      obtain ⟨k, t, out, hk, rfl, rfl, ht, hol, hsp, hout, hord, hbel⟩ := hrel
      by_cases hlt : k < n
      · have hdk : decide ((k : Int) < n) = true := by simp; omega
        obtain ⟨ru, lv, hkl, hdr⟩ : ∃ ru lv, l[k]? = some (ru, lv) ∧ l.drop k = (ru, lv) :: l.drop (k + 1) := by
          have hkn : k < l.length := by rw [HN.out]; exact hlt
          exact ⟨l[k].1, l[k].2, by rw [List.getElem?_eq_getElem hkn], by rw [List.drop_eq_getElem_cons hkn]⟩
        obtain ⟨ab, ao, rfl, _, hac⟩ := (HR.out wr hbel.out).at_ (i := 0) (by rw [pairsV_len, HN.out]; omega)
        have hp := pairsV_get l k _ hkl
        have hc0 := hac _ _ hp.1
        have hc1 := hac _ _ hp.2
        rw [show ao + 2 * k = ao + k * 2 by omega] at hc0
        rw [show ao + (2 * k + 1) = ao + k * 2 + 1 by omega] at hc1
        rw [hdr] at hsp
        have HPB := Lib.hid (Blk.new wr 39 [.int .i64 ru, .int .i64 lv])
        have hc0 : wr.cell? ⟨ab, ao + k * 2, none⟩ = some (.int .i64 ru) := hc0
        have hc1 : wr.cell? ⟨ab, ao + k * 2 + 1, none⟩ = some (.int .i64 lv) := hc1
        have hb1 := Lib.hid (below_alloc hbel.out (.cells #[.int .i64 ru, .int .i64 lv] 39))
        clear hac hp hkl hdr
        by_cases hbad : lv = 0 ∨ lv < -127 ∨ 127 < lv
        · have hsp : Hid (([], 10) = spreadGo l f zeros) := Lib.hid (by rw [← hsp.out, spreadGo, if_pos hbad])
          by_cases h0 : lv = 0
          · have d0 : (lv == 0) = true := by rw [beq_iff_eq]; exact h0
            clear hbad h0
            go_wp2
            go_ret2
            rw [← hsp.out]
            exact ⟨⟨none, 0, 0, rfl, rfl, .inl ⟨rfl, rfl⟩⟩, hb1.out⟩
          · have d0 : (lv == 0) = false := beq_eq_false_iff_ne.2 h0
            have dl : decide (-127 ≤ lv ∧ lv ≤ 127) = false := by rw [decide_eq_false_iff_not]; omega
            clear hbad h0
            go_wp2_with fail
            refine (levelF _ lv).mono ?_
            rintro e w3 ⟨rfl, rfl⟩
            rw [dl]
            go_wp2
            go_ret2
            rw [← hsp.out]
            exact ⟨⟨none, 0, 0, rfl, rfl, .inl ⟨rfl, rfl⟩⟩, hb1.out⟩
        · have d0 : (lv == 0) = false := beq_eq_false_iff_ne.2 (by omega)
          have dl : decide (-127 ≤ lv ∧ lv ≤ 127) = true := by rw [decide_eq_true_iff]; omega
          have eT : IntKind.i64.wrap (63 - (t : Int)) = 63 - (t : Int) := IntWalk.i64_in _ (by omega)
          by_cases hrun : ru < 0 ∨ 63 - (t : Int) < ru
          · have hsp : Hid (([], 11) = spreadGo l f zeros) := Lib.hid (by rw [← hsp.out, spreadGo, if_neg hbad, if_pos hrun])
            clear hbad
            by_cases h0 : ru < 0
            · have d1 : decide (ru < 0) = true := by rw [decide_eq_true_iff]; exact h0
              clear hrun h0
              go_wp2_with fail
              refine (levelF _ lv).mono ?_
              rintro e w3 ⟨rfl, rfl⟩
              rw [dl]
              go_wp2
              go_ret2
              rw [← hsp.out]
              exact ⟨⟨none, 0, 0, rfl, rfl, .inl ⟨rfl, rfl⟩⟩, hb1.out⟩
            · have d1 : decide (ru < 0) = false := by rw [decide_eq_false_iff_not]; exact h0
              have d2 : decide (63 - (t : Int) < ru) = true := by rw [decide_eq_true_iff]; omega
              clear hrun h0
              go_wp2_with fail
              refine (levelF _ lv).mono ?_
              rintro e w3 ⟨rfl, rfl⟩
              rw [dl]
              go_wp2
              go_ret2
              rw [← hsp.out]
              exact ⟨⟨none, 0, 0, rfl, rfl, .inl ⟨rfl, rfl⟩⟩, hb1.out⟩
          · obtain ⟨R, rfl⟩ : ∃ R : Nat, ru = (R : Int) := ⟨ru.toNat, by omega⟩
            have hT : t + R < 64 := by omega
            obtain ⟨P, hP⟩ : ∃ P : Nat, el orderL (t + R) = (P : Int) := ⟨(el orderL (t + R)).toNat, by have := order_bd _ hT; omega⟩
            have hP64 : P < 64 := by have := order_bd _ hT; omega
            have hsp : Hid (spreadGo (l.drop (k + 1)) ((t + R + 1 : Nat) : Int) (out.set P lv) = spreadGo l f zeros) := Lib.hid (by
              rw [← hsp.out, spreadGo, if_neg hbad, if_neg hrun]
              have e1 : ((t : Int) + R).toNat = t + R := by omega
              show _ = spreadGo (l.drop (k + 1)) ((t : Int) + R + 1) (out.set (el orderL ((t : Int) + R).toNat).toNat lv)
              rw [e1, hP, Int.toNat_natCast, show ((t + R + 1 : Nat) : Int) = (t : Int) + R + 1 by omega])
            have d1 : decide ((R : Int) < 0) = false := by rw [decide_eq_false_iff_not]; omega
            have d2 : decide (63 - (t : Int) < (R : Int)) = false := by rw [decide_eq_false_iff_not]; omega
            have eA : IntKind.i64.wrap ((t : Int) + R) = (t : Int) + R := IntWalk.i64_in _ (by omega)
            have eB : IntKind.i64.wrap ((t : Int) + R + 1) = (t : Int) + R + 1 := IntWalk.i64_in _ (by omega)
            have i1 : (t : Int) + R < 64 := by omega
            have i2 : (P : Int) < 64 := by omega
            have hwl := hout.out.lt
            have hgl := hord.out.lt
            clear hbad hrun
            go_wp2_with fail
            refine (levelF _ lv).mono ?_
            rintro e w3 ⟨rfl, rfl⟩
            rw [dl]
            have cO : (wr.alloc (.cells #[.int .i64 R, .int .i64 lv] 39)).drew.cell? ⟨g, t + R, none⟩ = some (.int .i64 P) := (hord.out.alloc _).cell (by rw [nums_get (by rw [orderL_len]; exact hT), hP])
            have cB : (wr.alloc (.cells #[.int .i64 R, .int .i64 lv] 39)).drew.cell? ⟨wr.heap.size, 1, none⟩ = some (.int .i64 lv) := HPB.out.cell rfl
            have cU : (wr.alloc (.cells #[.int .i64 R, .int .i64 lv] 39)).drew.cell? ⟨w.heap.size, P, none⟩ = some (.int .i64 (el out P)) := (hout.out.alloc _).cell (nums_get (by rw [hol.out]; exact hP64))
            have cF : (wr.alloc (.cells #[.int .i64 R, .int .i64 lv] 39)).drew.frozen? ⟨w.heap.size, P, none⟩ = false := (hout.out.alloc (.cells #[.int .i64 R, .int .i64 lv] 39)).free P
            go_wp2_with fail
            go_region
            go_wp2
            go_roundw
            case rel =>
              refine ⟨k + 1, t + R + 1, out.set P lv, by omega, by go_num, by go_num, by omega, Lib.hid (by rw [List.length_set]; exact hol.out), hsp, Lib.hid ?_, Lib.hid ((hord.out.far (a := ⟨w.heap.size, P, none⟩) hgz _).alloc _).drew, Lib.hid (below_drewN (below_alloc (hbel.out.setCell (p := ⟨w.heap.size, P, none⟩) (Nat.le_refl _) _) _) 1)⟩
              rw [← nums_set]
              exact ((hout.out.set P (.int .i64 lv)).alloc _).drew
            case measure => simp [intOf]; omega
      · have hdk : decide ((k : Int) < n) = false := by simp; omega
        have hkn : k = n := by omega
        have hsp : Hid ((out, 0) = spreadGo l f zeros) := Lib.hid (by rw [← hsp.out, hkn, ← HN.out, List.drop_length]; rfl)
        clear hkn
        go_wp2
        go_ret2
        rw [← hsp.out]
        exact ⟨⟨_, 64, 64, rfl, by rw [nums_length, hol.out], .inr ⟨w.heap.size, rfl, Nat.le_refl _, hout.out.row_⟩⟩, hbel.out⟩
  · have g0 : ((f : Int) == 0) = true := by rw [beq_iff_eq]; omega
    have g2 : ((f : Int) != 0) = false := by rw [bne_eq_false_iff_eq]; omega
    clear hf0
    go_enter Try.func10, Try.ntmps10
    go_wp2_with fail
    refine (placesF _).mono ?_
    rintro e w1 ⟨rfl, hb1⟩
    have hOut1 := Lib.hid (hA.out.below hb1)
    have hbel1 := Lib.hid (below_then hA1.out hb1)
    have hOrd := Lib.hid (Blk.new w1 48 (nums .i64 zeros))
    have hOut2 := Lib.hid (hOut1.out.alloc (.cells (nums .i64 zeros).toArray 48))
    have hbel2 := Lib.hid (below_alloc hbel1.out (.cells (nums .i64 zeros).toArray 48))
    have hgz : w1.heap.size ≠ w.heap.size := by have := hOut1.out.lt; omega
    have hgz2 := hbel1.out.size
    clear hA hA1 hb1
    go_wp2_with (refine wpList_store_row rfl 48 _ _ rfl w1.heap.size (nums .i64 orderL).toArray rfl rfl 48 (nums .i64 zeros).toArray hOrd.out order_info rfl order_one ?_; generalize hW2 : World.setRow _ _ _ = W2; obtain ⟨hOrd2, hOut3, hbel3⟩ := laid_order hOrd.out hOut2.out hbel2.out hgz hgz2 W2 hW2; clear hW2)
    obtain ⟨g, hg⟩ : ∃ g : Nat, g = w1.heap.size := ⟨_, rfl⟩
    rw [← hg] at hOrd2 hgz hgz2 ⊢
    clear hOut1 hbel1 hOrd hOut2 hbel2 hg
    go_loopw [7, 21] (fun a i wr => ∃ (k t : Nat) (out : List Int), k ≤ n ∧ a = .int .i64 t ∧ i = .int .i64 k ∧ t ≤ 64 ∧ Hid (out.length = 64) ∧ Hid (spreadGo (l.drop k) t out = spreadGo l f zeros) ∧ Hid (Blk wr w.heap.size 48 (nums .i64 out)) ∧ Hid (Blk wr g 48 (nums .i64 orderL)) ∧ Hid (Below w.heap.size w wr)) (fun _ i _ => n - (intOf i).toNat)
    case atStart => exact ⟨0, f, zeros, by omega, rfl, rfl, by omega, Lib.hid (by decide), Lib.hid rfl, hOut3, hOrd2, hbel3⟩
    case round =>
      clear hOut3 hOrd2 hbel3
      obtain ⟨k, t, out, hk, rfl, rfl, ht, hol, hsp, hout, hord, hbel⟩ := hrel
      by_cases hlt : k < n
      · have hdk : decide ((k : Int) < n) = true := by simp; omega
        obtain ⟨ru, lv, hkl, hdr⟩ : ∃ ru lv, l[k]? = some (ru, lv) ∧ l.drop k = (ru, lv) :: l.drop (k + 1) := by
          have hkn : k < l.length := by rw [HN.out]; exact hlt
          exact ⟨l[k].1, l[k].2, by rw [List.getElem?_eq_getElem hkn], by rw [List.drop_eq_getElem_cons hkn]⟩
        obtain ⟨ab, ao, rfl, _, hac⟩ := (HR.out wr hbel.out).at_ (i := 0) (by rw [pairsV_len, HN.out]; omega)
        have hp := pairsV_get l k _ hkl
        have hc0 := hac _ _ hp.1
        have hc1 := hac _ _ hp.2
        rw [show ao + 2 * k = ao + k * 2 by omega] at hc0
        rw [show ao + (2 * k + 1) = ao + k * 2 + 1 by omega] at hc1
        rw [hdr] at hsp
        have HPB := Lib.hid (Blk.new wr 39 [.int .i64 ru, .int .i64 lv])
        have hc0 : wr.cell? ⟨ab, ao + k * 2, none⟩ = some (.int .i64 ru) := hc0
        have hc1 : wr.cell? ⟨ab, ao + k * 2 + 1, none⟩ = some (.int .i64 lv) := hc1
        have hb1 := Lib.hid (below_alloc hbel.out (.cells #[.int .i64 ru, .int .i64 lv] 39))
        clear hac hp hkl hdr
        by_cases hbad : lv = 0 ∨ lv < -127 ∨ 127 < lv
        · have hsp : Hid (([], 10) = spreadGo l f zeros) := Lib.hid (by rw [← hsp.out, spreadGo, if_pos hbad])
          by_cases h0 : lv = 0
          · have d0 : (lv == 0) = true := by rw [beq_iff_eq]; exact h0
            clear hbad h0
            go_wp2
            go_ret2
            rw [← hsp.out]
            exact ⟨⟨none, 0, 0, rfl, rfl, .inl ⟨rfl, rfl⟩⟩, hb1.out⟩
          · have d0 : (lv == 0) = false := beq_eq_false_iff_ne.2 h0
            have dl : decide (-127 ≤ lv ∧ lv ≤ 127) = false := by rw [decide_eq_false_iff_not]; omega
            clear hbad h0
            go_wp2_with fail
            refine (levelF _ lv).mono ?_
            rintro e w3 ⟨rfl, rfl⟩
            rw [dl]
            go_wp2
            go_ret2
            rw [← hsp.out]
            exact ⟨⟨none, 0, 0, rfl, rfl, .inl ⟨rfl, rfl⟩⟩, hb1.out⟩
        · have d0 : (lv == 0) = false := beq_eq_false_iff_ne.2 (by omega)
          have dl : decide (-127 ≤ lv ∧ lv ≤ 127) = true := by rw [decide_eq_true_iff]; omega
          have eT : IntKind.i64.wrap (63 - (t : Int)) = 63 - (t : Int) := IntWalk.i64_in _ (by omega)
          by_cases hrun : ru < 0 ∨ 63 - (t : Int) < ru
          · have hsp : Hid (([], 11) = spreadGo l f zeros) := Lib.hid (by rw [← hsp.out, spreadGo, if_neg hbad, if_pos hrun])
            clear hbad
            by_cases h0 : ru < 0
            · have d1 : decide (ru < 0) = true := by rw [decide_eq_true_iff]; exact h0
              clear hrun h0
              go_wp2_with fail
              refine (levelF _ lv).mono ?_
              rintro e w3 ⟨rfl, rfl⟩
              rw [dl]
              go_wp2
              go_ret2
              rw [← hsp.out]
              exact ⟨⟨none, 0, 0, rfl, rfl, .inl ⟨rfl, rfl⟩⟩, hb1.out⟩
            · have d1 : decide (ru < 0) = false := by rw [decide_eq_false_iff_not]; exact h0
              have d2 : decide (63 - (t : Int) < ru) = true := by rw [decide_eq_true_iff]; omega
              clear hrun h0
              go_wp2_with fail
              refine (levelF _ lv).mono ?_
              rintro e w3 ⟨rfl, rfl⟩
              rw [dl]
              go_wp2
              go_ret2
              rw [← hsp.out]
              exact ⟨⟨none, 0, 0, rfl, rfl, .inl ⟨rfl, rfl⟩⟩, hb1.out⟩
          · obtain ⟨R, rfl⟩ : ∃ R : Nat, ru = (R : Int) := ⟨ru.toNat, by omega⟩
            have hT : t + R < 64 := by omega
            obtain ⟨P, hP⟩ : ∃ P : Nat, el orderL (t + R) = (P : Int) := ⟨(el orderL (t + R)).toNat, by have := order_bd _ hT; omega⟩
            have hP64 : P < 64 := by have := order_bd _ hT; omega
            have hsp : Hid (spreadGo (l.drop (k + 1)) ((t + R + 1 : Nat) : Int) (out.set P lv) = spreadGo l f zeros) := Lib.hid (by
              rw [← hsp.out, spreadGo, if_neg hbad, if_neg hrun]
              have e1 : ((t : Int) + R).toNat = t + R := by omega
              show _ = spreadGo (l.drop (k + 1)) ((t : Int) + R + 1) (out.set (el orderL ((t : Int) + R).toNat).toNat lv)
              rw [e1, hP, Int.toNat_natCast, show ((t + R + 1 : Nat) : Int) = (t : Int) + R + 1 by omega])
            have d1 : decide ((R : Int) < 0) = false := by rw [decide_eq_false_iff_not]; omega
            have d2 : decide (63 - (t : Int) < (R : Int)) = false := by rw [decide_eq_false_iff_not]; omega
            have eA : IntKind.i64.wrap ((t : Int) + R) = (t : Int) + R := IntWalk.i64_in _ (by omega)
            have eB : IntKind.i64.wrap ((t : Int) + R + 1) = (t : Int) + R + 1 := IntWalk.i64_in _ (by omega)
            have i1 : (t : Int) + R < 64 := by omega
            have i2 : (P : Int) < 64 := by omega
            have hwl := hout.out.lt
            have hgl := hord.out.lt
            clear hbad hrun
            go_wp2_with fail
            refine (levelF _ lv).mono ?_
            rintro e w3 ⟨rfl, rfl⟩
            rw [dl]
            have cO : (wr.alloc (.cells #[.int .i64 R, .int .i64 lv] 39)).drew.cell? ⟨g, t + R, none⟩ = some (.int .i64 P) := (hord.out.alloc _).cell (by rw [nums_get (by rw [orderL_len]; exact hT), hP])
            have cB : (wr.alloc (.cells #[.int .i64 R, .int .i64 lv] 39)).drew.cell? ⟨wr.heap.size, 1, none⟩ = some (.int .i64 lv) := HPB.out.cell rfl
            have cU : (wr.alloc (.cells #[.int .i64 R, .int .i64 lv] 39)).drew.cell? ⟨w.heap.size, P, none⟩ = some (.int .i64 (el out P)) := (hout.out.alloc _).cell (nums_get (by rw [hol.out]; exact hP64))
            have cF : (wr.alloc (.cells #[.int .i64 R, .int .i64 lv] 39)).drew.frozen? ⟨w.heap.size, P, none⟩ = false := (hout.out.alloc (.cells #[.int .i64 R, .int .i64 lv] 39)).free P
            go_wp2_with fail
            go_region
            go_wp2
            go_roundw
            case rel =>
              refine ⟨k + 1, t + R + 1, out.set P lv, by omega, by go_num, by go_num, by omega, Lib.hid (by rw [List.length_set]; exact hol.out), hsp, Lib.hid ?_, Lib.hid ((hord.out.far (a := ⟨w.heap.size, P, none⟩) hgz _).alloc _).drew, Lib.hid (below_drewN (below_alloc (hbel.out.setCell (p := ⟨w.heap.size, P, none⟩) (Nat.le_refl _) _) _) 1)⟩
              rw [← nums_set]
              exact ((hout.out.set P (.int .i64 lv)).alloc _).drew
            case measure => simp [intOf]; omega
      · have hdk : decide ((k : Int) < n) = false := by simp; omega
        have hkn : k = n := by omega
        have hsp : Hid ((out, 0) = spreadGo l f zeros) := Lib.hid (by rw [← hsp.out, hkn, ← HN.out, List.drop_length]; rfl)
        clear hkn
        go_wp2
        go_ret2
        rw [← hsp.out]
        exact ⟨⟨_, 64, 64, rfl, by rw [nums_length, hol.out], .inr ⟨w.heap.size, rfl, Nat.le_refl _, hout.out.row_⟩⟩, hbel.out⟩
end Go.Proofs.Ythjpdcbcgagbjaa
