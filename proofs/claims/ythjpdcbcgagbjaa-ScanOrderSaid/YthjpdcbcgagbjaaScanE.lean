/- The walk of the reference's Spread; no conditions but a bound on the length. -/
import Derived.Test.YthjpdcbcgagbjaaScanD
import Derived.Deep.RegionWith
import Derived.BigRegion
set_option linter.unusedVariables false
set_option linter.unusedSimpArgs false
namespace Go.Proofs.Ythjpdcbcgagbjaa
open Go.RowKit

theorem below_new (w : World) (o : Obj) : Below w.heap.size w (w.alloc o) := below_alloc (Below.refl _ _) o
theorem makeZ : ∀ w : World, (Instr.makeSlice 24 (.int .i64 64) (.int .i64 64)).run Try.prog w = .ok (.slice (some ⟨w.heap.size, 0, none⟩) 64 64) (w.alloc (.cells (nums .i64 zeros).toArray 3)) := fun _ => by kernel_rfl

set_option maxHeartbeats 1000000 in
theorem refSpread_range (w : World) (A : Option Addr) (n c : Nat) (f : Int) (h : ¬ (f = 0 ∨ f = 1)) :
    Calls Try.prog 11 #[.slice A n c, .int .i64 f] w (Told w [] 3) := by
  have h0 : (f == 0) = false := beq_eq_false_iff_ne.2 (by omega)
  have h1 : (f == 1) = false := beq_eq_false_iff_ne.2 (by omega)
  have h2 : (f != 0) = true := by rw [bne_iff_ne]; omega
  have h3 : (f != 1) = true := by rw [bne_iff_ne]; omega
  clear h
  go_enter Try.func11, Try.ntmps11
  go_wp2
  go_ret2
  exact ⟨⟨none, 0, 0, rfl, rfl, .inl ⟨rfl, rfl⟩⟩, Below.refl _ _⟩

set_option maxHeartbeats 8000000 in
set_option maxRecDepth 100000 in
theorem refSpread_ok (w : World) (A : Option Addr) (n c : Nat) (l : List (Int × Int)) (hn : l.length = n) (hm : n ≤ 1000000) (hr : Rd w A (pairsV l)) (f : Nat) (hf : f ≤ 1) :
    Calls Try.prog 11 #[.slice A n c, .int .i64 f] w (Told w (nums .i64 (spreadGo l f zeros).1) (spreadGo l f zeros).2) := by
  have HR : Hid (∀ W, Below w.heap.size w W → Rd W A (pairsV l)) := Lib.hid fun W hW => hr.below hW
  have HN := Lib.hid hn
  clear hr hn
  have hmk := makeZ
  have hf2 : f = 0 ∨ f = 1 := by omega
  rcases hf2 with hf0 | hf1
  rotate_left
  · have g0 : ((f : Int) == 0) = false := beq_eq_false_iff_ne.2 (by omega)
    have g1 : ((f : Int) == 1) = true := by rw [beq_iff_eq]; omega
    have g2 : ((f : Int) != 0) = true := by rw [bne_iff_ne]; omega
    have g3 : ((f : Int) != 1) = false := by rw [bne_eq_false_iff_eq]; omega
    clear hf1
    go_enter Try.func11, Try.ntmps11
    go_wp2_with fail
    go_region_with (go_at_call 27; refine (refOrderF _).mono ?_; rintro e w1 ⟨rfl, hord, hb1⟩)
    · have hOut3 := Lib.hid ((show Blk (w.alloc (.cells (nums .i64 zeros).toArray 3)).drew w.heap.size 3 (nums .i64 zeros) from Blk.new w 3 (nums .i64 zeros)).below hb1)
      have hOrd2 : Hid (Blk w1 (w.heap.size + 1) 3 (nums .i64 orderL)) := Lib.hid (by have h := hord; rw [show (w.alloc (.cells (nums .i64 zeros).toArray 3)).drew.heap.size = w.heap.size + 1 from World.size_alloc _ _] at h; exact h)
      have hbel3 := Lib.hid (below_then (below_drewN (below_new w (.cells (nums .i64 zeros).toArray 3)) 1) hb1)
      have hgz : w.heap.size + 1 ≠ w.heap.size := by omega
      have hgz2 : w.heap.size ≤ w.heap.size := Nat.le_refl _
      clear hord hb1 hmk
      go_wp2
      go_loopw [7, 9] (fun a i wr => ∃ (k t : Nat) (out : List Int), k ≤ n ∧ a = .int .i64 t ∧ i = .int .i64 k ∧ t ≤ 64 ∧ Hid (out.length = 64) ∧ Hid (spreadGo (l.drop k) t out = spreadGo l f zeros) ∧ Hid (Blk wr (w.heap.size) 3 (nums .i64 out)) ∧ Hid (Blk wr (w.heap.size + 1) 3 (nums .i64 orderL)) ∧ Hid (Below w.heap.size w wr)) (fun _ i _ => n - (intOf i).toNat)
      case atStart => exact ⟨0, f, zeros, by omega, rfl, rfl, by omega, Lib.hid (by decide), Lib.hid rfl, hOut3, hOrd2, hbel3⟩
      case round =>
        clear hOut3 hOrd2 hbel3
        obtain ⟨k, t, out, hk, rfl, rfl, ht, hol, hsp, hout, hord, hbel⟩ := hrel
        by_cases hlt : k < n
        · have hdk : decide ((k : Int) < n) = true := by simp; omega
          obtain ⟨ru, lv, hkl, hdr⟩ : ∃ ru lv, l[k]? = some (ru, lv) ∧ l.drop k = (ru, lv) :: l.drop (k + 1) := by
            have hkn : k < l.length := by rw [HN.out]; exact hlt
            exact ⟨l[k].1, l[k].2, by rw [List.getElem?_eq_getElem hkn], by rw [List.drop_eq_getElem_cons hkn]⟩
          obtain ⟨ab, ao, rfl, _, hac⟩ := (HR.out wr hbel.out).at_ (i := 0) (by rw [pairsV_len, HN.out]; omega)
          have hp := pairsV_get l k _ hkl
          have hc0 := hac _ _ hp.1
          have hc1 := hac _ _ hp.2
          rw [show ao + 2 * k = ao + k * 2 by omega] at hc0
          rw [show ao + (2 * k + 1) = ao + k * 2 + 1 by omega] at hc1
          rw [hdr] at hsp
          have hc0 : wr.cell? ⟨ab, ao + k * 2, none⟩ = some (.int .i64 ru) := hc0
          have hc1 : wr.cell? ⟨ab, ao + k * 2 + 1, none⟩ = some (.int .i64 lv) := hc1
          clear hac hp hkl hdr
          by_cases hbad : lv = 0 ∨ lv < -127 ∨ 127 < lv
          · have hsp : Hid (([], 10) = spreadGo l f zeros) := Lib.hid (by rw [← hsp.out, spreadGo, if_pos hbad])
            by_cases h0 : lv = 0
            · have d0 : (lv == 0) = true := by rw [beq_iff_eq]; exact h0
              clear hbad h0
              go_wp2
              go_ret2
              rw [← hsp.out]
              exact ⟨⟨none, 0, 0, rfl, rfl, .inl ⟨rfl, rfl⟩⟩, hbel.out⟩
            · have d0 : (lv == 0) = false := beq_eq_false_iff_ne.2 h0
              by_cases hlo : lv < -127
              · have d1 : decide (lv < -127) = true := by rw [decide_eq_true_iff]; exact hlo
                clear hbad h0
                go_wp2
                go_ret2
                rw [← hsp.out]
                exact ⟨⟨none, 0, 0, rfl, rfl, .inl ⟨rfl, rfl⟩⟩, hbel.out⟩
              · have d1 : decide (lv < -127) = false := by rw [decide_eq_false_iff_not]; exact hlo
                have d2 : decide (127 < lv) = true := by rw [decide_eq_true_iff]; omega
                clear hbad h0 hlo
                go_wp2
                go_ret2
                rw [← hsp.out]
                exact ⟨⟨none, 0, 0, rfl, rfl, .inl ⟨rfl, rfl⟩⟩, hbel.out⟩
          · have d0 : (lv == 0) = false := beq_eq_false_iff_ne.2 (by omega)
            have d1 : decide (lv < -127) = false := by rw [decide_eq_false_iff_not]; omega
            have d2 : decide (127 < lv) = false := by rw [decide_eq_false_iff_not]; omega
            have eT : IntKind.i64.wrap (63 - (t : Int)) = 63 - (t : Int) := IntWalk.i64_in _ (by omega)
            by_cases hrun : ru < 0 ∨ 63 - (t : Int) < ru
            · have hsp : Hid (([], 11) = spreadGo l f zeros) := Lib.hid (by rw [← hsp.out, spreadGo, if_neg hbad, if_pos hrun])
              clear hbad
              by_cases h0 : ru < 0
              · have d3 : decide (ru < 0) = true := by rw [decide_eq_true_iff]; exact h0
                clear hrun h0
                go_wp2
                go_ret2
                rw [← hsp.out]
                exact ⟨⟨none, 0, 0, rfl, rfl, .inl ⟨rfl, rfl⟩⟩, hbel.out⟩
              · have d3 : decide (ru < 0) = false := by rw [decide_eq_false_iff_not]; exact h0
                have d4 : decide (63 - (t : Int) < ru) = true := by rw [decide_eq_true_iff]; omega
                clear hrun h0
                go_wp2
                go_ret2
                rw [← hsp.out]
                exact ⟨⟨none, 0, 0, rfl, rfl, .inl ⟨rfl, rfl⟩⟩, hbel.out⟩
            · obtain ⟨R, rfl⟩ : ∃ R : Nat, ru = (R : Int) := ⟨ru.toNat, by omega⟩
              have hT : t + R < 64 := by omega
              obtain ⟨P, hP⟩ : ∃ P : Nat, el orderL (t + R) = (P : Int) := ⟨(el orderL (t + R)).toNat, by have := order_bd _ hT; omega⟩
              have hP64 : P < 64 := by have := order_bd _ hT; omega
              have hsp : Hid (spreadGo (l.drop (k + 1)) ((t + R + 1 : Nat) : Int) (out.set P lv) = spreadGo l f zeros) := Lib.hid (by
                rw [← hsp.out, spreadGo, if_neg hbad, if_neg hrun]
                have e1 : ((t : Int) + R).toNat = t + R := by omega
                show _ = spreadGo (l.drop (k + 1)) ((t : Int) + R + 1) (out.set (el orderL ((t : Int) + R).toNat).toNat lv)
                rw [e1, hP, Int.toNat_natCast, show ((t + R + 1 : Nat) : Int) = (t : Int) + R + 1 by omega])
              have d3 : decide ((R : Int) < 0) = false := by rw [decide_eq_false_iff_not]; omega
              have d4 : decide (63 - (t : Int) < (R : Int)) = false := by rw [decide_eq_false_iff_not]; omega
              have eA : IntKind.i64.wrap ((t : Int) + R) = (t : Int) + R := IntWalk.i64_in _ (by omega)
              have eB : IntKind.i64.wrap ((t : Int) + R + 1) = (t : Int) + R + 1 := IntWalk.i64_in _ (by omega)
              have i1 : (t : Int) + R < 64 := by omega
              have i2 : (P : Int) < 64 := by omega
              have cO : wr.drew.cell? ⟨w.heap.size + 1, t + R, none⟩ = some (.int .i64 P) := hord.out.cell (by rw [nums_get (by rw [orderL_len]; exact hT), hP])
              have cU : wr.drew.cell? ⟨w.heap.size, P, none⟩ = some (.int .i64 (el out P)) := hout.out.cell (nums_get (by rw [hol.out]; exact hP64))
              have cF : wr.drew.frozen? ⟨w.heap.size, P, none⟩ = false := hout.out.free P
              have cL : wr.drew.cell? ⟨ab, ao + k * 2 + 1, none⟩ = some (.int .i64 lv) := hc1
              clear hbad hrun
              go_wp2_with fail
              go_region
              go_wp2
              go_roundw
              case rel =>
                refine ⟨k + 1, t + R + 1, out.set P lv, by omega, by go_num, by go_num, by omega, Lib.hid (by rw [List.length_set]; exact hol.out), hsp, Lib.hid ?_, Lib.hid (hord.out.far (a := ⟨w.heap.size, P, none⟩) hgz _).drew, Lib.hid (below_drewN (hbel.out.setCell (p := ⟨w.heap.size, P, none⟩) hgz2 _) 1)⟩
                rw [← nums_set]
                exact (hout.out.set P (.int .i64 lv)).drew
              case measure => simp [intOf]; omega
        · have hdk : decide ((k : Int) < n) = false := by simp; omega
          have hkn : k = n := by omega
          have hsp : Hid ((out, 0) = spreadGo l f zeros) := Lib.hid (by rw [← hsp.out, hkn, ← HN.out, List.drop_length]; rfl)
          clear hkn
          go_wp2
          go_ret2
          rw [← hsp.out]
          exact ⟨⟨_, 64, 64, rfl, by rw [nums_length, hol.out], .inr ⟨w.heap.size, rfl, hgz2, hout.out.row_⟩⟩, hbel.out⟩
    · have hOut3 := Lib.hid (Blk.new w1 3 (nums .i64 zeros))
      have hOrd2 := Lib.hid ((show Blk w1 w.heap.size 3 (nums .i64 orderL) from hord).alloc (.cells (nums .i64 zeros).toArray 3))
      have hbel3 := Lib.hid (below_alloc (below_then (below_drewN (Below.refl w.heap.size w) 1) hb1) (.cells (nums .i64 zeros).toArray 3))
      have hgl := (show Blk w1 w.heap.size 3 (nums .i64 orderL) from hord).lt
      obtain ⟨bo, hbo⟩ : ∃ bo : Nat, bo = w1.heap.size := ⟨_, rfl⟩
      rw [← hbo] at hOut3 hgl ⊢
      have hgz : w.heap.size ≠ bo := by omega
      have hgz2 : w.heap.size ≤ bo := by omega
      clear hord hb1 hmk hbo
      go_wp2
      go_loopw [7, 9] (fun a i wr => ∃ (k t : Nat) (out : List Int), k ≤ n ∧ a = .int .i64 t ∧ i = .int .i64 k ∧ t ≤ 64 ∧ Hid (out.length = 64) ∧ Hid (spreadGo (l.drop k) t out = spreadGo l f zeros) ∧ Hid (Blk wr (bo) 3 (nums .i64 out)) ∧ Hid (Blk wr (w.heap.size) 3 (nums .i64 orderL)) ∧ Hid (Below w.heap.size w wr)) (fun _ i _ => n - (intOf i).toNat)
      case atStart => exact ⟨0, f, zeros, by omega, rfl, rfl, by omega, Lib.hid (by decide), Lib.hid rfl, hOut3, hOrd2, hbel3⟩
      case round =>
        clear hOut3 hOrd2 hbel3
        obtain ⟨k, t, out, hk, rfl, rfl, ht, hol, hsp, hout, hord, hbel⟩ := hrel
        by_cases hlt : k < n
        · have hdk : decide ((k : Int) < n) = true := by simp; omega
          obtain ⟨ru, lv, hkl, hdr⟩ : ∃ ru lv, l[k]? = some (ru, lv) ∧ l.drop k = (ru, lv) :: l.drop (k + 1) := by
            have hkn : k < l.length := by rw [HN.out]; exact hlt
            exact ⟨l[k].1, l[k].2, by rw [List.getElem?_eq_getElem hkn], by rw [List.drop_eq_getElem_cons hkn]⟩
          obtain ⟨ab, ao, rfl, _, hac⟩ := (HR.out wr hbel.out).at_ (i := 0) (by rw [pairsV_len, HN.out]; omega)
          have hp := pairsV_get l k _ hkl
          have hc0 := hac _ _ hp.1
          have hc1 := hac _ _ hp.2
          rw [show ao + 2 * k = ao + k * 2 by omega] at hc0
          rw [show ao + (2 * k + 1) = ao + k * 2 + 1 by omega] at hc1
          rw [hdr] at hsp
          have hc0 : wr.cell? ⟨ab, ao + k * 2, none⟩ = some (.int .i64 ru) := hc0
          have hc1 : wr.cell? ⟨ab, ao + k * 2 + 1, none⟩ = some (.int .i64 lv) := hc1
          clear hac hp hkl hdr
          by_cases hbad : lv = 0 ∨ lv < -127 ∨ 127 < lv
          · have hsp : Hid (([], 10) = spreadGo l f zeros) := Lib.hid (by rw [← hsp.out, spreadGo, if_pos hbad])
            by_cases h0 : lv = 0
            · have d0 : (lv == 0) = true := by rw [beq_iff_eq]; exact h0
              clear hbad h0
              go_wp2
              go_ret2
              rw [← hsp.out]
              exact ⟨⟨none, 0, 0, rfl, rfl, .inl ⟨rfl, rfl⟩⟩, hbel.out⟩
            · have d0 : (lv == 0) = false := beq_eq_false_iff_ne.2 h0
              by_cases hlo : lv < -127
              · have d1 : decide (lv < -127) = true := by rw [decide_eq_true_iff]; exact hlo
                clear hbad h0
                go_wp2
                go_ret2
                rw [← hsp.out]
                exact ⟨⟨none, 0, 0, rfl, rfl, .inl ⟨rfl, rfl⟩⟩, hbel.out⟩
              · have d1 : decide (lv < -127) = false := by rw [decide_eq_false_iff_not]; exact hlo
                have d2 : decide (127 < lv) = true := by rw [decide_eq_true_iff]; omega
                clear hbad h0 hlo
                go_wp2
                go_ret2
                rw [← hsp.out]
                exact ⟨⟨none, 0, 0, rfl, rfl, .inl ⟨rfl, rfl⟩⟩, hbel.out⟩
          · have d0 : (lv == 0) = false := beq_eq_false_iff_ne.2 (by omega)
            have d1 : decide (lv < -127) = false := by rw [decide_eq_false_iff_not]; omega
            have d2 : decide (127 < lv) = false := by rw [decide_eq_false_iff_not]; omega
            have eT : IntKind.i64.wrap (63 - (t : Int)) = 63 - (t : Int) := IntWalk.i64_in _ (by omega)
            by_cases hrun : ru < 0 ∨ 63 - (t : Int) < ru
            · have hsp : Hid (([], 11) = spreadGo l f zeros) := Lib.hid (by rw [← hsp.out, spreadGo, if_neg hbad, if_pos hrun])
              clear hbad
              by_cases h0 : ru < 0
              · have d3 : decide (ru < 0) = true := by rw [decide_eq_true_iff]; exact h0
                clear hrun h0
                go_wp2
                go_ret2
                rw [← hsp.out]
                exact ⟨⟨none, 0, 0, rfl, rfl, .inl ⟨rfl, rfl⟩⟩, hbel.out⟩
              · have d3 : decide (ru < 0) = false := by rw [decide_eq_false_iff_not]; exact h0
                have d4 : decide (63 - (t : Int) < ru) = true := by rw [decide_eq_true_iff]; omega
                clear hrun h0
                go_wp2
                go_ret2
                rw [← hsp.out]
                exact ⟨⟨none, 0, 0, rfl, rfl, .inl ⟨rfl, rfl⟩⟩, hbel.out⟩
            · obtain ⟨R, rfl⟩ : ∃ R : Nat, ru = (R : Int) := ⟨ru.toNat, by omega⟩
              have hT : t + R < 64 := by omega
              obtain ⟨P, hP⟩ : ∃ P : Nat, el orderL (t + R) = (P : Int) := ⟨(el orderL (t + R)).toNat, by have := order_bd _ hT; omega⟩
              have hP64 : P < 64 := by have := order_bd _ hT; omega
              have hsp : Hid (spreadGo (l.drop (k + 1)) ((t + R + 1 : Nat) : Int) (out.set P lv) = spreadGo l f zeros) := Lib.hid (by
                rw [← hsp.out, spreadGo, if_neg hbad, if_neg hrun]
                have e1 : ((t : Int) + R).toNat = t + R := by omega
                show _ = spreadGo (l.drop (k + 1)) ((t : Int) + R + 1) (out.set (el orderL ((t : Int) + R).toNat).toNat lv)
                rw [e1, hP, Int.toNat_natCast, show ((t + R + 1 : Nat) : Int) = (t : Int) + R + 1 by omega])
              have d3 : decide ((R : Int) < 0) = false := by rw [decide_eq_false_iff_not]; omega
              have d4 : decide (63 - (t : Int) < (R : Int)) = false := by rw [decide_eq_false_iff_not]; omega
              have eA : IntKind.i64.wrap ((t : Int) + R) = (t : Int) + R := IntWalk.i64_in _ (by omega)
              have eB : IntKind.i64.wrap ((t : Int) + R + 1) = (t : Int) + R + 1 := IntWalk.i64_in _ (by omega)
              have i1 : (t : Int) + R < 64 := by omega
              have i2 : (P : Int) < 64 := by omega
              have cO : wr.drew.cell? ⟨w.heap.size, t + R, none⟩ = some (.int .i64 P) := hord.out.cell (by rw [nums_get (by rw [orderL_len]; exact hT), hP])
              have cU : wr.drew.cell? ⟨bo, P, none⟩ = some (.int .i64 (el out P)) := hout.out.cell (nums_get (by rw [hol.out]; exact hP64))
              have cF : wr.drew.frozen? ⟨bo, P, none⟩ = false := hout.out.free P
              have cL : wr.drew.cell? ⟨ab, ao + k * 2 + 1, none⟩ = some (.int .i64 lv) := hc1
              clear hbad hrun
              go_wp2_with fail
              go_region
              go_wp2
              go_roundw
              case rel =>
                refine ⟨k + 1, t + R + 1, out.set P lv, by omega, by go_num, by go_num, by omega, Lib.hid (by rw [List.length_set]; exact hol.out), hsp, Lib.hid ?_, Lib.hid (hord.out.far (a := ⟨bo, P, none⟩) hgz _).drew, Lib.hid (below_drewN (hbel.out.setCell (p := ⟨bo, P, none⟩) hgz2 _) 1)⟩
                rw [← nums_set]
                exact (hout.out.set P (.int .i64 lv)).drew
              case measure => simp [intOf]; omega
        · have hdk : decide ((k : Int) < n) = false := by simp; omega
          have hkn : k = n := by omega
          have hsp : Hid ((out, 0) = spreadGo l f zeros) := Lib.hid (by rw [← hsp.out, hkn, ← HN.out, List.drop_length]; rfl)
          clear hkn
          go_wp2
          go_ret2
          rw [← hsp.out]
          exact ⟨⟨_, 64, 64, rfl, by rw [nums_length, hol.out], .inr ⟨bo, rfl, hgz2, hout.out.row_⟩⟩, hbel.out⟩
  · have g0 : ((f : Int) == 0) = true := by rw [beq_iff_eq]; omega
    have g2 : ((f : Int) != 0) = false := by rw [bne_eq_false_iff_eq]; omega
    clear hf0
    go_enter Try.func11, Try.ntmps11
    go_wp2_with fail
    go_region_with (go_at_call 27; refine (refOrderF _).mono ?_; rintro e w1 ⟨rfl, hord, hb1⟩)
    · have hOut3 := Lib.hid ((show Blk (w.alloc (.cells (nums .i64 zeros).toArray 3)).drew w.heap.size 3 (nums .i64 zeros) from Blk.new w 3 (nums .i64 zeros)).below hb1)
      have hOrd2 : Hid (Blk w1 (w.heap.size + 1) 3 (nums .i64 orderL)) := Lib.hid (by have h := hord; rw [show (w.alloc (.cells (nums .i64 zeros).toArray 3)).drew.heap.size = w.heap.size + 1 from World.size_alloc _ _] at h; exact h)
      have hbel3 := Lib.hid (below_then (below_drewN (below_new w (.cells (nums .i64 zeros).toArray 3)) 1) hb1)
      have hgz : w.heap.size + 1 ≠ w.heap.size := by omega
      have hgz2 : w.heap.size ≤ w.heap.size := Nat.le_refl _
      clear hord hb1 hmk
      go_wp2
      go_loopw [7, 9] (fun a i wr => ∃ (k t : Nat) (out : List Int), k ≤ n ∧ a = .int .i64 t ∧ i = .int .i64 k ∧ t ≤ 64 ∧ Hid (out.length = 64) ∧ Hid (spreadGo (l.drop k) t out = spreadGo l f zeros) ∧ Hid (Blk wr (w.heap.size) 3 (nums .i64 out)) ∧ Hid (Blk wr (w.heap.size + 1) 3 (nums .i64 orderL)) ∧ Hid (Below w.heap.size w wr)) (fun _ i _ => n - (intOf i).toNat)
      case atStart => exact ⟨0, f, zeros, by omega, rfl, rfl, by omega, Lib.hid (by decide), Lib.hid rfl, hOut3, hOrd2, hbel3⟩
      case round =>
        clear hOut3 hOrd2 hbel3
        obtain ⟨k, t, out, hk, rfl, rfl, ht, hol, hsp, hout, hord, hbel⟩ := hrel
        by_cases hlt : k < n
        · have hdk : decide ((k : Int) < n) = true := by simp; omega
          obtain ⟨ru, lv, hkl, hdr⟩ : ∃ ru lv, l[k]? = some (ru, lv) ∧ l.drop k = (ru, lv) :: l.drop (k + 1) := by
            have hkn : k < l.length := by rw [HN.out]; exact hlt
            exact ⟨l[k].1, l[k].2, by rw [List.getElem?_eq_getElem hkn], by rw [List.drop_eq_getElem_cons hkn]⟩
          obtain ⟨ab, ao, rfl, _, hac⟩ := (HR.out wr hbel.out).at_ (i := 0) (by rw [pairsV_len, HN.out]; omega)
          have hp := pairsV_get l k _ hkl
          have hc0 := hac _ _ hp.1
          have hc1 := hac _ _ hp.2
          rw [show ao + 2 * k = ao + k * 2 by omega] at hc0
          rw [show ao + (2 * k + 1) = ao + k * 2 + 1 by omega] at hc1
          rw [hdr] at hsp
          have hc0 : wr.cell? ⟨ab, ao + k * 2, none⟩ = some (.int .i64 ru) := hc0
          have hc1 : wr.cell? ⟨ab, ao + k * 2 + 1, none⟩ = some (.int .i64 lv) := hc1
          clear hac hp hkl hdr
          by_cases hbad : lv = 0 ∨ lv < -127 ∨ 127 < lv
          · have hsp : Hid (([], 10) = spreadGo l f zeros) := Lib.hid (by rw [← hsp.out, spreadGo, if_pos hbad])
            by_cases h0 : lv = 0
            · have d0 : (lv == 0) = true := by rw [beq_iff_eq]; exact h0
              clear hbad h0
              go_wp2
              go_ret2
              rw [← hsp.out]
              exact ⟨⟨none, 0, 0, rfl, rfl, .inl ⟨rfl, rfl⟩⟩, hbel.out⟩
            · have d0 : (lv == 0) = false := beq_eq_false_iff_ne.2 h0
              by_cases hlo : lv < -127
              · have d1 : decide (lv < -127) = true := by rw [decide_eq_true_iff]; exact hlo
                clear hbad h0
                go_wp2
                go_ret2
                rw [← hsp.out]
                exact ⟨⟨none, 0, 0, rfl, rfl, .inl ⟨rfl, rfl⟩⟩, hbel.out⟩
              · have d1 : decide (lv < -127) = false := by rw [decide_eq_false_iff_not]; exact hlo
                have d2 : decide (127 < lv) = true := by rw [decide_eq_true_iff]; omega
                clear hbad h0 hlo
                go_wp2
                go_ret2
                rw [← hsp.out]
                exact ⟨⟨none, 0, 0, rfl, rfl, .inl ⟨rfl, rfl⟩⟩, hbel.out⟩
          · have d0 : (lv == 0) = false := beq_eq_false_iff_ne.2 (by omega)
            have d1 : decide (lv < -127) = false := by rw [decide_eq_false_iff_not]; omega
            have d2 : decide (127 < lv) = false := by rw [decide_eq_false_iff_not]; omega
            have eT : IntKind.i64.wrap (63 - (t : Int)) = 63 - (t : Int) := IntWalk.i64_in _ (by omega)
            by_cases hrun : ru < 0 ∨ 63 - (t : Int) < ru
            · have hsp : Hid (([], 11) = spreadGo l f zeros) := Lib.hid (by rw [← hsp.out, spreadGo, if_neg hbad, if_pos hrun])
              clear hbad
              by_cases h0 : ru < 0
              · have d3 : decide (ru < 0) = true := by rw [decide_eq_true_iff]; exact h0
                clear hrun h0
                go_wp2
                go_ret2
                rw [← hsp.out]
                exact ⟨⟨none, 0, 0, rfl, rfl, .inl ⟨rfl, rfl⟩⟩, hbel.out⟩
              · have d3 : decide (ru < 0) = false := by rw [decide_eq_false_iff_not]; exact h0
                have d4 : decide (63 - (t : Int) < ru) = true := by rw [decide_eq_true_iff]; omega
                clear hrun h0
                go_wp2
                go_ret2
                rw [← hsp.out]
                exact ⟨⟨none, 0, 0, rfl, rfl, .inl ⟨rfl, rfl⟩⟩, hbel.out⟩
            · obtain ⟨R, rfl⟩ : ∃ R : Nat, ru = (R : Int) := ⟨ru.toNat, by omega⟩
              have hT : t + R < 64 := by omega
              obtain ⟨P, hP⟩ : ∃ P : Nat, el orderL (t + R) = (P : Int) := ⟨(el orderL (t + R)).toNat, by have := order_bd _ hT; omega⟩
              have hP64 : P < 64 := by have := order_bd _ hT; omega
              have hsp : Hid (spreadGo (l.drop (k + 1)) ((t + R + 1 : Nat) : Int) (out.set P lv) = spreadGo l f zeros) := Lib.hid (by
                rw [← hsp.out, spreadGo, if_neg hbad, if_neg hrun]
                have e1 : ((t : Int) + R).toNat = t + R := by omega
                show _ = spreadGo (l.drop (k + 1)) ((t : Int) + R + 1) (out.set (el orderL ((t : Int) + R).toNat).toNat lv)
                rw [e1, hP, Int.toNat_natCast, show ((t + R + 1 : Nat) : Int) = (t : Int) + R + 1 by omega])
              have d3 : decide ((R : Int) < 0) = false := by rw [decide_eq_false_iff_not]; omega
              have d4 : decide (63 - (t : Int) < (R : Int)) = false := by rw [decide_eq_false_iff_not]; omega
              have eA : IntKind.i64.wrap ((t : Int) + R) = (t : Int) + R := IntWalk.i64_in _ (by omega)
              have eB : IntKind.i64.wrap ((t : Int) + R + 1) = (t : Int) + R + 1 := IntWalk.i64_in _ (by omega)
              have i1 : (t : Int) + R < 64 := by omega
              have i2 : (P : Int) < 64 := by omega
              have cO : wr.drew.cell? ⟨w.heap.size + 1, t + R, none⟩ = some (.int .i64 P) := hord.out.cell (by rw [nums_get (by rw [orderL_len]; exact hT), hP])
              have cU : wr.drew.cell? ⟨w.heap.size, P, none⟩ = some (.int .i64 (el out P)) := hout.out.cell (nums_get (by rw [hol.out]; exact hP64))
              have cF : wr.drew.frozen? ⟨w.heap.size, P, none⟩ = false := hout.out.free P
              have cL : wr.drew.cell? ⟨ab, ao + k * 2 + 1, none⟩ = some (.int .i64 lv) := hc1
              clear hbad hrun
              go_wp2_with fail
              go_region
              go_wp2
              go_roundw
              case rel =>
                refine ⟨k + 1, t + R + 1, out.set P lv, by omega, by go_num, by go_num, by omega, Lib.hid (by rw [List.length_set]; exact hol.out), hsp, Lib.hid ?_, Lib.hid (hord.out.far (a := ⟨w.heap.size, P, none⟩) hgz _).drew, Lib.hid (below_drewN (hbel.out.setCell (p := ⟨w.heap.size, P, none⟩) hgz2 _) 1)⟩
                rw [← nums_set]
                exact (hout.out.set P (.int .i64 lv)).drew
              case measure => simp [intOf]; omega
        · have hdk : decide ((k : Int) < n) = false := by simp; omega
          have hkn : k = n := by omega
          have hsp : Hid ((out, 0) = spreadGo l f zeros) := Lib.hid (by rw [← hsp.out, hkn, ← HN.out, List.drop_length]; rfl)
          clear hkn
          go_wp2
          go_ret2
          rw [← hsp.out]
          exact ⟨⟨_, 64, 64, rfl, by rw [nums_length, hol.out], .inr ⟨w.heap.size, rfl, hgz2, hout.out.row_⟩⟩, hbel.out⟩
    · have hOut3 := Lib.hid (Blk.new w1 3 (nums .i64 zeros))
      have hOrd2 := Lib.hid ((show Blk w1 w.heap.size 3 (nums .i64 orderL) from hord).alloc (.cells (nums .i64 zeros).toArray 3))
      have hbel3 := Lib.hid (below_alloc (below_then (below_drewN (Below.refl w.heap.size w) 1) hb1) (.cells (nums .i64 zeros).toArray 3))
      have hgl := (show Blk w1 w.heap.size 3 (nums .i64 orderL) from hord).lt
      obtain ⟨bo, hbo⟩ : ∃ bo : Nat, bo = w1.heap.size := ⟨_, rfl⟩
      rw [← hbo] at hOut3 hgl ⊢
      have hgz : w.heap.size ≠ bo := by omega
      have hgz2 : w.heap.size ≤ bo := by omega
      clear hord hb1 hmk hbo
      go_wp2
      go_loopw [7, 9] (fun a i wr => ∃ (k t : Nat) (out : List Int), k ≤ n ∧ a = .int .i64 t ∧ i = .int .i64 k ∧ t ≤ 64 ∧ Hid (out.length = 64) ∧ Hid (spreadGo (l.drop k) t out = spreadGo l f zeros) ∧ Hid (Blk wr (bo) 3 (nums .i64 out)) ∧ Hid (Blk wr (w.heap.size) 3 (nums .i64 orderL)) ∧ Hid (Below w.heap.size w wr)) (fun _ i _ => n - (intOf i).toNat)
      case atStart => exact ⟨0, f, zeros, by omega, rfl, rfl, by omega, Lib.hid (by decide), Lib.hid rfl, hOut3, hOrd2, hbel3⟩
      case round =>
        clear hOut3 hOrd2 hbel3
        obtain ⟨k, t, out, hk, rfl, rfl, ht, hol, hsp, hout, hord, hbel⟩ := hrel
        by_cases hlt : k < n
        · have hdk : decide ((k : Int) < n) = true := by simp; omega
          obtain ⟨ru, lv, hkl, hdr⟩ : ∃ ru lv, l[k]? = some (ru, lv) ∧ l.drop k = (ru, lv) :: l.drop (k + 1) := by
            have hkn : k < l.length := by rw [HN.out]; exact hlt
            exact ⟨l[k].1, l[k].2, by rw [List.getElem?_eq_getElem hkn], by rw [List.drop_eq_getElem_cons hkn]⟩
          obtain ⟨ab, ao, rfl, _, hac⟩ := (HR.out wr hbel.out).at_ (i := 0) (by rw [pairsV_len, HN.out]; omega)
          have hp := pairsV_get l k _ hkl
          have hc0 := hac _ _ hp.1
          have hc1 := hac _ _ hp.2
          rw [show ao + 2 * k = ao + k * 2 by omega] at hc0
          rw [show ao + (2 * k + 1) = ao + k * 2 + 1 by omega] at hc1
          rw [hdr] at hsp
          have hc0 : wr.cell? ⟨ab, ao + k * 2, none⟩ = some (.int .i64 ru) := hc0
          have hc1 : wr.cell? ⟨ab, ao + k * 2 + 1, none⟩ = some (.int .i64 lv) := hc1
          clear hac hp hkl hdr
          by_cases hbad : lv = 0 ∨ lv < -127 ∨ 127 < lv
          · have hsp : Hid (([], 10) = spreadGo l f zeros) := Lib.hid (by rw [← hsp.out, spreadGo, if_pos hbad])
            by_cases h0 : lv = 0
            · have d0 : (lv == 0) = true := by rw [beq_iff_eq]; exact h0
              clear hbad h0
              go_wp2
              go_ret2
              rw [← hsp.out]
              exact ⟨⟨none, 0, 0, rfl, rfl, .inl ⟨rfl, rfl⟩⟩, hbel.out⟩
            · have d0 : (lv == 0) = false := beq_eq_false_iff_ne.2 h0
              by_cases hlo : lv < -127
              · have d1 : decide (lv < -127) = true := by rw [decide_eq_true_iff]; exact hlo
                clear hbad h0
                go_wp2
                go_ret2
                rw [← hsp.out]
                exact ⟨⟨none, 0, 0, rfl, rfl, .inl ⟨rfl, rfl⟩⟩, hbel.out⟩
              · have d1 : decide (lv < -127) = false := by rw [decide_eq_false_iff_not]; exact hlo
                have d2 : decide (127 < lv) = true := by rw [decide_eq_true_iff]; omega
                clear hbad h0 hlo
                go_wp2
                go_ret2
                rw [← hsp.out]
                exact ⟨⟨none, 0, 0, rfl, rfl, .inl ⟨rfl, rfl⟩⟩, hbel.out⟩
          · have d0 : (lv == 0) = false := beq_eq_false_iff_ne.2 (by omega)
            have d1 : decide (lv < -127) = false := by rw [decide_eq_false_iff_not]; omega
            have d2 : decide (127 < lv) = false := by rw [decide_eq_false_iff_not]; omega
            have eT : IntKind.i64.wrap (63 - (t : Int)) = 63 - (t : Int) := IntWalk.i64_in _ (by omega)
            by_cases hrun : ru < 0 ∨ 63 - (t : Int) < ru
            · have hsp : Hid (([], 11) = spreadGo l f zeros) := Lib.hid (by rw [← hsp.out, spreadGo, if_neg hbad, if_pos hrun])
              clear hbad
              by_cases h0 : ru < 0
              · have d3 : decide (ru < 0) = true := by rw [decide_eq_true_iff]; exact h0
                clear hrun h0
                go_wp2
                go_ret2
                rw [← hsp.out]
                exact ⟨⟨none, 0, 0, rfl, rfl, .inl ⟨rfl, rfl⟩⟩, hbel.out⟩
              · have d3 : decide (ru < 0) = false := by rw [decide_eq_false_iff_not]; exact h0
                have d4 : decide (63 - (t : Int) < ru) = true := by rw [decide_eq_true_iff]; omega
                clear hrun h0
                go_wp2
                go_ret2
                rw [← hsp.out]
                exact ⟨⟨none, 0, 0, rfl, rfl, .inl ⟨rfl, rfl⟩⟩, hbel.out⟩
            · obtain ⟨R, rfl⟩ : ∃ R : Nat, ru = (R : Int) := ⟨ru.toNat, by omega⟩
              have hT : t + R < 64 := by omega
              obtain ⟨P, hP⟩ : ∃ P : Nat, el orderL (t + R) = (P : Int) := ⟨(el orderL (t + R)).toNat, by have := order_bd _ hT; omega⟩
              have hP64 : P < 64 := by have := order_bd _ hT; omega
              have hsp : Hid (spreadGo (l.drop (k + 1)) ((t + R + 1 : Nat) : Int) (out.set P lv) = spreadGo l f zeros) := Lib.hid (by
                rw [← hsp.out, spreadGo, if_neg hbad, if_neg hrun]
                have e1 : ((t : Int) + R).toNat = t + R := by omega
                show _ = spreadGo (l.drop (k + 1)) ((t : Int) + R + 1) (out.set (el orderL ((t : Int) + R).toNat).toNat lv)
                rw [e1, hP, Int.toNat_natCast, show ((t + R + 1 : Nat) : Int) = (t : Int) + R + 1 by omega])
              have d3 : decide ((R : Int) < 0) = false := by rw [decide_eq_false_iff_not]; omega
              have d4 : decide (63 - (t : Int) < (R : Int)) = false := by rw [decide_eq_false_iff_not]; omega
              have eA : IntKind.i64.wrap ((t : Int) + R) = (t : Int) + R := IntWalk.i64_in _ (by omega)
              have eB : IntKind.i64.wrap ((t : Int) + R + 1) = (t : Int) + R + 1 := IntWalk.i64_in _ (by omega)
              have i1 : (t : Int) + R < 64 := by omega
              have i2 : (P : Int) < 64 := by omega
              have cO : wr.drew.cell? ⟨w.heap.size, t + R, none⟩ = some (.int .i64 P) := hord.out.cell (by rw [nums_get (by rw [orderL_len]; exact hT), hP])
              have cU : wr.drew.cell? ⟨bo, P, none⟩ = some (.int .i64 (el out P)) := hout.out.cell (nums_get (by rw [hol.out]; exact hP64))
              have cF : wr.drew.frozen? ⟨bo, P, none⟩ = false := hout.out.free P
              have cL : wr.drew.cell? ⟨ab, ao + k * 2 + 1, none⟩ = some (.int .i64 lv) := hc1
              clear hbad hrun
              go_wp2_with fail
              go_region
              go_wp2
              go_roundw
              case rel =>
                refine ⟨k + 1, t + R + 1, out.set P lv, by omega, by go_num, by go_num, by omega, Lib.hid (by rw [List.length_set]; exact hol.out), hsp, Lib.hid ?_, Lib.hid (hord.out.far (a := ⟨bo, P, none⟩) hgz _).drew, Lib.hid (below_drewN (hbel.out.setCell (p := ⟨bo, P, none⟩) hgz2 _) 1)⟩
                rw [← nums_set]
                exact (hout.out.set P (.int .i64 lv)).drew
              case measure => simp [intOf]; omega
        · have hdk : decide ((k : Int) < n) = false := by simp; omega
          have hkn : k = n := by omega
          have hsp : Hid ((out, 0) = spreadGo l f zeros) := Lib.hid (by rw [← hsp.out, hkn, ← HN.out, List.drop_length]; rfl)
          clear hkn
          go_wp2
          go_ret2
          rw [← hsp.out]
          exact ⟨⟨_, 64, 64, rfl, by rw [nums_length, hol.out], .inr ⟨bo, rfl, hgz2, hout.out.row_⟩⟩, hbel.out⟩
end Go.Proofs.Ythjpdcbcgagbjaa
