/- The walk of scan's iterator order: the places, diagonal by diagonal; no conditions. -/
import Derived.RangeFuncBox
import Derived.RangeFuncLeaves
import Derived.RangeFuncBound
import Derived.Shelf.Abstract
import Derived.Shelf.RegionOpen
import Derived.OwnWalkIn
import Derived.TacticsInMore
import Derived.LoopNIn
import Derived.LoopIn
import Derived.BigRegionIn
import Derived.WalkMore
import Derived.Maps.AppendAt
import Derived.Test.YthjpdcbcgagbjaaTailIn
import Derived.Test.YthjpdcbcgagbjaaKit
import Derived.Test.YthjpdcbcgagbjaaProg
set_option linter.unusedVariables false
set_option linter.unusedSimpArgs false
namespace Go.Proofs.Ythjpdcbcgagbjaa
open Go.RowKit Go.Shelf

attribute [local go_sem] Oper.semAt_some

/-- Column and row of the i-th try on diagonal d; the place, where there is one. -/
def colOf (d i : Nat) : Int := if d % 2 = 1 then 7 - (i : Int) else i
def rowOf (d i : Nat) : Int := (d : Int) - colOf d i
def tryOf (d i : Nat) : List Int := if 7 < rowOf d i ∨ rowOf d i < 0 then [] else [8 * rowOf d i + colOf d i]
def partOf (d : Nat) : Nat → List Int
  | 0 => []
  | i + 1 => partOf d i ++ tryOf d i
def doneOf : Nat → List Int
  | 0 => []
  | d + 1 => doneOf d ++ partOf d 8
def orderL : List Int := doneOf 15
theorem orderL_eq : orderL = [0, 1, 8, 16, 9, 2, 3, 10, 17, 24, 32, 25, 18, 11, 4, 5,
    12, 19, 26, 33, 40, 48, 41, 34, 27, 20, 13, 6, 7, 14, 21, 28,
    35, 42, 49, 56, 57, 50, 43, 36, 29, 22, 15, 23, 30, 37, 44, 51,
    58, 59, 52, 45, 38, 31, 39, 46, 53, 60, 61, 54, 47, 55, 62, 63] := by decide +kernel
/-- Behind the last place of a diagonal nothing comes. -/
theorem part_rest (d i : Nat) (hd : d < 15) (hi : i < 8) (h : d % 2 = 0 ∧ rowOf d i = 0 ∨ d % 2 = 1 ∧ colOf d i = 0) : partOf d (i + 1) = partOf d 8 := by
  have : ∀ d : Fin 15, ∀ i : Fin 8, (d.1 % 2 = 0 ∧ rowOf d.1 i.1 = 0 ∨ d.1 % 2 = 1 ∧ colOf d.1 i.1 = 0) → partOf d.1 (i.1 + 1) = partOf d.1 8 := by decide +kernel
  exact this ⟨d, hd⟩ ⟨i, hi⟩ h
/-- What has come is the order's beginning. -/
theorem come_prefix (d i : Nat) (hd : d < 15) (hi : i ≤ 8) : doneOf d ++ partOf d i <+: orderL := by
  have : ∀ d : Fin 15, ∀ i : Fin 9, doneOf d.1 ++ partOf d.1 i.1 <+: orderL := by
    intro d i
    rw [← List.isPrefixOf_iff_prefix]
    revert d i
    decide +kernel
  exact this ⟨d, hd⟩ ⟨i, by omega⟩
theorem come_len (d i : Nat) (hd : d < 15) (hi : i ≤ 8) : (doneOf d ++ partOf d i).length ≤ 64 := by
  have h := (come_prefix d i hd hi).length_le
  have : orderL.length = 64 := by rw [orderL_eq]; rfl
  omega
theorem try_lt (d i : Nat) (hd : d < 15) (hi : i < 8) (h : ¬ (7 < rowOf d i ∨ rowOf d i < 0)) : (doneOf d ++ partOf d i).length < 64 := by
  have := come_len d (i + 1) hd (by omega)
  rw [partOf, tryOf, if_neg h] at this
  simp at this ⊢
  omega

set_option maxRecDepth 100000 in
set_option maxHeartbeats 4000000 in
theorem order1_in (n : Nat) (hn : 1 ≤ n) (l : Nat) (Kp : World → World → Prop) (J Jx : List Int → World → Prop)
    (hY : ∀ pre x W, J pre W → pre.length < 64 → YieldAt Fence.wide (n - 1) Try.prog l #[.int .i64 x] W fun e W' =>
      (e = .returned (.bool true) ∧ J (pre ++ [x]) W' ∧ Kp W W') ∨ (e = .returned (.bool false) ∧ Jx (pre ++ [x]) W'))
    (W : World) (h0 : J [] W) :
    CallsIn Fence.wide n Try.prog 29 #[.func (.yield l) #[] #[]] W fun e W' => (∃ v, e = .returned v) ∧
      ((∃ ys, ys = orderL ∧ J ys W') ∨ (∃ pre, pre <+: orderL ∧ Jx pre W')) := by
  refine callsIn_of_wp Try.func29 rfl trivial ?_ rfl
  simp only [Try.ntmps29, List.size_toArray, List.length_cons, List.length_nil, Nat.reduceAdd, Nat.reduceSub, Array.replicate_succ, Array.replicate_zero, List.push_toArray, List.append_toArray, List.nil_append, List.cons_append]
  refine wpIn_wide.2 (wp_scope_straight ((wpIn_wide (n := n)).1 ?_))
  refine wpIn_seq (wpIn_label ?_)
  gi_wp2
  have H0 := Lib.hid h0
  clear h0
  gi_loopw [6] (fun i wr => ∃ d : Nat, d ≤ 15 ∧ i = .int .i64 d ∧ Hid (J (doneOf d) wr)) (fun i _ => 15 - (intOf i).toNat)
  case atStart => exact ⟨0, by omega, rfl, H0⟩
  case round =>
    clear H0
    obtain ⟨d, hd, rfl, hj⟩ := hrel
    by_cases hlt : d < 15
    · have hdd : decide ((d : Int) < 15) = true := by simp; omega
      gi_wp2
      obtain ⟨wo, rfl⟩ : ∃ wo : World, wo = wr := ⟨_, rfl⟩
      gi_loopw [9] (fun i wr => ∃ k : Nat, k ≤ 8 ∧ i = .int .i64 k ∧ Hid (J (doneOf d ++ partOf d k) wr)) (fun i _ => 8 - (intOf i).toNat)
      case atStart => exact ⟨0, by omega, rfl, Lib.hid (by rw [partOf, List.append_nil]; exact hj.out)⟩
      case round =>
        clear hj
        obtain ⟨k, hk, rfl, hj⟩ := hrel
        by_cases hlk : k < 8
        · have hdk : decide ((k : Int) < 8) = true := by simp; omega
          by_cases hodd : d % 2 = 1
          · have hpar : (d : Int) % 2 = 1 := by omega
            have hpar2 : (d : Int).tmod 2 = 1 := by rw [Int.tmod_eq_emod_of_nonneg (by omega)]; exact hpar
            have hcol : colOf d k = 7 - (k : Int) := by unfold colOf; rw [if_pos (by omega)]
            have hrow : rowOf d k = (d : Int) - (7 - (k : Int)) := by unfold rowOf; rw [hcol]
            by_cases hbad : 7 < (d : Int) - (7 - (k : Int)) ∨ (d : Int) - (7 - (k : Int)) < 0
            · have htry : partOf d (k + 1) = partOf d k := by rw [partOf, tryOf, hrow, if_pos hbad, List.append_nil]
              have HT := Lib.hid htry
              clear htry hcol hrow
              by_cases h7 : 7 < (d : Int) - (7 - (k : Int))
              · have hd7 : decide (7 < (d : Int) - (7 - (k : Int))) = true := by rw [decide_eq_true_iff]; exact h7
                clear hbad
                gi_wp2
                go_roundw
                case rel => exact ⟨k + 1, by omega, by go_num, Lib.hid (by rw [HT.out]; exact hj.out)⟩
                case measure => simp [intOf]; omega
              · have hd7 : decide (7 < (d : Int) - (7 - (k : Int))) = false := by rw [decide_eq_false_iff_not]; exact h7
                have hd0 : decide ((d : Int) - (7 - (k : Int)) < 0) = true := by rw [decide_eq_true_iff]; omega
                clear hbad
                gi_wp2
                go_roundw
                case rel => exact ⟨k + 1, by omega, by go_num, Lib.hid (by rw [HT.out]; exact hj.out)⟩
                case measure => simp [intOf]; omega
            · have hd7 : decide (7 < (d : Int) - (7 - (k : Int))) = false := by rw [decide_eq_false_iff_not]; omega
              have hd0 : decide ((d : Int) - (7 - (k : Int)) < 0) = false := by rw [decide_eq_false_iff_not]; omega
              have htry : doneOf d ++ partOf d (k + 1) = (doneOf d ++ partOf d k) ++ [8 * ((d : Int) - (7 - (k : Int))) + (7 - (k : Int))] := by rw [partOf, tryOf, hrow, hcol, if_neg hbad, List.append_assoc]
              obtain ⟨fn, tmps, assign, body, hy, hR⟩ := hY (doneOf d ++ partOf d k) (8 * ((d : Int) - (7 - (k : Int))) + (7 - (k : Int))) wr hj.out (try_lt d k hlt hlk (by rw [hrow]; exact hbad))
              have HT := Lib.hid htry
              have HC := Lib.hid hcol
              have HR := Lib.hid hrow
              clear htry hcol hrow hbad
              gi_wp2
              refine hR.mono ?_
              rintro e W3 (⟨rfl, hJ3, hk3⟩ | ⟨rfl, hJx3⟩)
              · rw [← HT.out] at hJ3
                have HJ3 := Lib.hid hJ3
                clear hJ3 hk3 hj hR
                by_cases hend : 7 - (k : Int) = 0
                · have hde : ((7 - (k : Int) == 0) : Bool) = true := by rw [beq_iff_eq]; exact hend
                  have hfin : partOf d (k + 1) = partOf d 8 := part_rest d k hlt hlk (.inr ⟨hodd, by rw [HC.out]; exact hend⟩)
                  have HF := Lib.hid hfin
                  clear hfin hend
                  gi_wp2
                  go_roundw
                  case rel => exact ⟨d + 1, by omega, by go_num, Lib.hid (by rw [doneOf, ← HF.out]; exact HJ3.out)⟩
                  case measure => simp [intOf]; omega
                · have hde : ((7 - (k : Int) == 0) : Bool) = false := by rw [beq_eq_false_iff_ne]; exact hend
                  clear hend
                  gi_wp2
                  go_roundw
                  case rel => exact ⟨k + 1, by omega, by go_num, HJ3⟩
                  case measure => simp [intOf]; omega
              · rw [← HT.out] at hJx3
                have HJ3 := Lib.hid hJx3
                clear hJx3 hj hR
                gi_wp2
                rw [Exit.noGoto_ret]
                refine bodyPost_ret (results_none rfl _ _ _) rfl ?_
                exact ⟨⟨_, rfl⟩, .inr ⟨_, come_prefix d (k + 1) hlt (by omega), HJ3.out⟩⟩
          · have hpar : (d : Int) % 2 = 0 := by omega
            have hpar2 : (d : Int).tmod 2 = 0 := by rw [Int.tmod_eq_emod_of_nonneg (by omega)]; exact hpar
            have hcol : colOf d k = (k : Int) := by unfold colOf; rw [if_neg (by omega)]
            have hrow : rowOf d k = (d : Int) - (k : Int) := by unfold rowOf; rw [hcol]
            by_cases hbad : 7 < (d : Int) - (k : Int) ∨ (d : Int) - (k : Int) < 0
            · have htry : partOf d (k + 1) = partOf d k := by rw [partOf, tryOf, hrow, if_pos hbad, List.append_nil]
              have HT := Lib.hid htry
              clear htry hcol hrow
              by_cases h7 : 7 < (d : Int) - (k : Int)
              · have hd7 : decide (7 < (d : Int) - (k : Int)) = true := by rw [decide_eq_true_iff]; exact h7
                clear hbad
                gi_wp2
                go_roundw
                case rel => exact ⟨k + 1, by omega, by go_num, Lib.hid (by rw [HT.out]; exact hj.out)⟩
                case measure => simp [intOf]; omega
              · have hd7 : decide (7 < (d : Int) - (k : Int)) = false := by rw [decide_eq_false_iff_not]; exact h7
                have hd0 : decide ((d : Int) - (k : Int) < 0) = true := by rw [decide_eq_true_iff]; omega
                clear hbad
                gi_wp2
                go_roundw
                case rel => exact ⟨k + 1, by omega, by go_num, Lib.hid (by rw [HT.out]; exact hj.out)⟩
                case measure => simp [intOf]; omega
            · have hd7 : decide (7 < (d : Int) - (k : Int)) = false := by rw [decide_eq_false_iff_not]; omega
              have hd0 : decide ((d : Int) - (k : Int) < 0) = false := by rw [decide_eq_false_iff_not]; omega
              have htry : doneOf d ++ partOf d (k + 1) = (doneOf d ++ partOf d k) ++ [8 * ((d : Int) - (k : Int)) + (k : Int)] := by rw [partOf, tryOf, hrow, hcol, if_neg hbad, List.append_assoc]
              obtain ⟨fn, tmps, assign, body, hy, hR⟩ := hY (doneOf d ++ partOf d k) (8 * ((d : Int) - (k : Int)) + (k : Int)) wr hj.out (try_lt d k hlt hlk (by rw [hrow]; exact hbad))
              have HT := Lib.hid htry
              have HC := Lib.hid hcol
              have HR := Lib.hid hrow
              clear htry hcol hrow hbad
              gi_wp2
              refine hR.mono ?_
              rintro e W3 (⟨rfl, hJ3, hk3⟩ | ⟨rfl, hJx3⟩)
              · rw [← HT.out] at hJ3
                have HJ3 := Lib.hid hJ3
                clear hJ3 hk3 hj hR
                by_cases hend : (d : Int) - (k : Int) = 0
                · have hde : (((d : Int) - (k : Int) == 0) : Bool) = true := by rw [beq_iff_eq]; exact hend
                  have hfin : partOf d (k + 1) = partOf d 8 := part_rest d k hlt hlk (.inl ⟨by omega, by rw [HR.out]; exact hend⟩)
                  have HF := Lib.hid hfin
                  clear hfin hend
                  gi_wp2
                  go_roundw
                  case rel => exact ⟨d + 1, by omega, by go_num, Lib.hid (by rw [doneOf, ← HF.out]; exact HJ3.out)⟩
                  case measure => simp [intOf]; omega
                · have hde : (((d : Int) - (k : Int) == 0) : Bool) = false := by rw [beq_eq_false_iff_ne]; exact hend
                  clear hend
                  gi_wp2
                  go_roundw
                  case rel => exact ⟨k + 1, by omega, by go_num, HJ3⟩
                  case measure => simp [intOf]; omega
              · rw [← HT.out] at hJx3
                have HJ3 := Lib.hid hJx3
                clear hJx3 hj hR
                gi_wp2
                rw [Exit.noGoto_ret]
                refine bodyPost_ret (results_none rfl _ _ _) rfl ?_
                exact ⟨⟨_, rfl⟩, .inr ⟨_, come_prefix d (k + 1) hlt (by omega), HJ3.out⟩⟩
        · have hk8 : k = 8 := by omega
          have hdk : decide ((k : Int) < 8) = false := by simp; omega
          rw [hk8] at hj
          clear hk8
          gi_wp2
          go_roundw
          case rel => exact ⟨d + 1, by omega, by go_num, hj⟩
          case measure => simp [intOf]; omega
    · have hd15 : d = 15 := by omega
      have hdd : decide ((d : Int) < 15) = false := by simp; omega
      rw [hd15] at hj
      clear hd15
      gi_wp2
      rw [Exit.noGoto_normal]
      go_end0
      exact ⟨⟨_, rfl⟩, .inl ⟨_, rfl, hj.out⟩⟩
end Go.Proofs.Ythjpdcbcgagbjaa
