/- The walk of praxinoscopekit.SamePairs: are both lists of pairs the same; no conditions but a bound on the length. -/
import Derived.Test.YthjpdcbcgagbjaaKit
import Derived.Test.YthjpdcbcgagbjaaScanP
import Derived.Test.YthjpdcbcgagbjaaProg
import Derived.Laws.StructEq
set_option linter.unusedVariables false
set_option linter.unusedSimpArgs false
namespace Go.Proofs.Ythjpdcbcgagbjaa
open Go.RowKit

theorem neq_pair (x y u v : Int) (w : World) : (binOp .neq 39 (.agg #[.int .i64 x, .int .i64 y]) (.agg #[.int .i64 u, .int .i64 v])).run Try.prog w = .ok (.bool (!(x == u && y == v))) w := by
  have hf : (Try.prog.fieldsOf 39).toList = [⟨ "Run", 3, 0, false, "", "", 0⟩, ⟨ "Level", 3, 1, false, "", "", 8⟩] := by simp [Program.fieldsOf, Try.underlying39]
  have hi1 : (Try.prog.info? 3).map (·.size) = some 1 := by kernel_rfl
  rw [run_neq_struct, run_equalIn_agg _ _ _ _ _ (by kernel_rfl) (by kernel_rfl), hf]
  cases hq : Try.prog.info? 3 with
  | none => simp [hq] at hi1
  | some inf =>
    simp [hq] at hi1
    by_cases h1 : x = u
    · by_cases h2 : y = v
      · subst h1 h2
        simp [Op.eqFields, part, go_sem, sizeOf, typeInfo, hq, hi1, Try.underlying3]
      · subst h1
        simp [Op.eqFields, part, go_sem, sizeOf, typeInfo, hq, hi1, Try.underlying3, h2]
    · simp [Op.eqFields, part, go_sem, sizeOf, typeInfo, hq, hi1, Try.underlying3, h1]

set_option maxHeartbeats 1000000 in
theorem samePairs_ne (w : World) (A A' : Option Addr) (n n' c c' : Nat) (h : n ≠ n') :
    Calls Try.prog 16 #[.slice A n c, .slice A' n' c'] w fun e w' => e = .returned (.bool false) ∧ Below w.heap.size w w' := by
  have h1 : ((n : Int) == n') = false := beq_eq_false_iff_ne.2 (by omega)
  have h2 : ((n : Int) != n') = true := by rw [bne_iff_ne]; omega
  clear h
  go_enter Try.func16, Try.ntmps16
  go_wp2
  go_ret
  exact ⟨rfl, Below.refl _ _⟩

set_option maxHeartbeats 2000000 in
theorem samePairs_eq (w : World) (A A' : Option Addr) (n c c' : Nat) (a b : List (Int × Int)) (hn : a.length = n) (hn' : b.length = n) (hm : n ≤ 1000000) (ha : Rd w A (pairsV a)) (hb : Rd w A' (pairsV b)) :
    Calls Try.prog 16 #[.slice A n c, .slice A' n c'] w fun e w' => e = .returned (.bool (decide (a = b))) ∧ Below w.heap.size w w' := by
  have HA : Hid (∀ W, Below w.heap.size w W → Rd W A (pairsV a)) := Lib.hid fun W hW => ha.below hW
  have HB : Hid (∀ W, Below w.heap.size w W → Rd W A' (pairsV b)) := Lib.hid fun W hW => hb.below hW
  have HN := Lib.hid hn
  have HN' := Lib.hid hn'
  clear ha hb hn hn'
  go_enter Try.func16, Try.ntmps16
  go_wp2
  go_loopw [5] (fun i wr => ∃ k : Nat, k ≤ n ∧ i = .int .i64 k ∧ Hid (a.take k = b.take k) ∧ Below w.heap.size w wr) (fun i _ => n - (intOf i).toNat)
  case atStart => exact ⟨0, by omega, rfl, Lib.hid rfl, Below.refl _ _⟩
  case round =>
    obtain ⟨k, hk, rfl, hs, hbel⟩ := hrel
    by_cases hlt : k < n
    · have hdk : decide ((k : Int) < n) = true := by simp; omega
      have hka : k < a.length := by rw [HN.out]; exact hlt
      have hkb : k < b.length := by rw [HN'.out]; exact hlt
      obtain ⟨x, y, hx⟩ : ∃ x y, a[k]? = some (x, y) := ⟨a[k].1, a[k].2, by rw [List.getElem?_eq_getElem hka]⟩
      obtain ⟨u, v, hu⟩ : ∃ u v, b[k]? = some (u, v) := ⟨b[k].1, b[k].2, by rw [List.getElem?_eq_getElem hkb]⟩
      obtain ⟨ab, ao, rfl, _, hac⟩ := (HA.out wr hbel).at_ (i := 0) (by rw [pairsV_len, HN.out]; omega)
      obtain ⟨bb, bo, rfl, _, hbc⟩ := (HB.out wr hbel).at_ (i := 0) (by rw [pairsV_len, HN'.out]; omega)
      have hp := pairsV_get a k _ hx
      have hq := pairsV_get b k _ hu
      have c0 : wr.cell? ⟨ab, ao + k * 2, none⟩ = some (.int .i64 x) := by have := hac _ _ hp.1; rwa [show ao + 2 * k = ao + k * 2 by omega] at this
      have c1 : wr.cell? ⟨ab, ao + k * 2 + 1, none⟩ = some (.int .i64 y) := by have := hac _ _ hp.2; rwa [show ao + (2 * k + 1) = ao + k * 2 + 1 by omega] at this
      have c2 : wr.cell? ⟨bb, bo + k * 2, none⟩ = some (.int .i64 u) := by have := hbc _ _ hq.1; rwa [show bo + 2 * k = bo + k * 2 by omega] at this
      have c3 : wr.cell? ⟨bb, bo + k * 2 + 1, none⟩ = some (.int .i64 v) := by have := hbc _ _ hq.2; rwa [show bo + (2 * k + 1) = bo + k * 2 + 1 by omega] at this
      clear hac hbc hp hq
      have hgd : Try.prog.eqGuardType Try.prog.depth 39 = false := by kernel_rfl
      have hne := neq_pair x y u v
      by_cases he : x = u ∧ y = v
      · have hb : (x == u && y == v) = true := by simp [he.1, he.2]
        rw [hb, Bool.not_true] at hne
        have HT : Hid (a.take (k + 1) = b.take (k + 1)) := Lib.hid (by rw [List.take_add_one, List.take_add_one, hs.out, hx, hu, he.1, he.2])
        clear he hb hx hu
        go_wp2
        go_quiet (fail)
        go_wp2
        go_roundw
        case rel => exact ⟨k + 1, by omega, by go_num, HT, below_drewN hbel _⟩
        case measure => simp [intOf]; omega
      · have hb : (x == u && y == v) = false := by
          rw [Bool.eq_false_iff]
          intro h
          simp at h
          exact he h
        rw [hb, Bool.not_false] at hne
        have hab : a ≠ b := fun h => by
          subst h
          rw [hx] at hu
          injection hu with hu
          injection hu with h1 h2
          exact he ⟨h1, h2⟩
        have HAB := Lib.hid hab
        clear he hb hx hu hab
        go_wp2
        go_quiet (fail)
        go_wp2
        go_ret
        exact ⟨by rw [decide_eq_false HAB.out]; rfl, below_drewN hbel _⟩
    · have hdk : decide ((k : Int) < n) = false := by simp; omega
      have hkn : k = n := by omega
      have hab : a = b := by
        have h := hs.out
        rw [hkn, List.take_of_length_le (by rw [HN.out]; omega), List.take_of_length_le (by rw [HN'.out]; omega)] at h
        exact h
      have HAB := Lib.hid hab
      clear hkn hab
      go_wp2
      go_ret
      exact ⟨by rw [decide_eq_true HAB.out]; rfl, hbel⟩

/-- SamePairs tells whether two lists are one. -/
theorem samePairs (w : World) (A A' : Option Addr) (n n' c c' : Nat) (a b : List (Int × Int)) (hn : a.length = n) (hn' : b.length = n') (hm : n' ≤ 1000000) (ha : Rd w A (pairsV a)) (hb : Rd w A' (pairsV b)) :
    Calls Try.prog 16 #[.slice A n c, .slice A' n' c'] w fun e w' => e = .returned (.bool (decide (a = b))) ∧ Below w.heap.size w w' := by
  by_cases h : n = n'
  · subst h; exact samePairs_eq w A A' n c c' a b hn hn' hm ha hb
  · rw [decide_eq_false (fun h' => h (by rw [← hn, ← hn', h']))]
    exact samePairs_ne w A A' _ _ c c' h
end Go.Proofs.Ythjpdcbcgagbjaa
