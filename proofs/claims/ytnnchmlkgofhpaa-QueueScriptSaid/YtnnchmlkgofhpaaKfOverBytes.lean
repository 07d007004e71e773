/- The walk of praxinoscopekit.OverBytes: a list is written over: its own block alone turns; no conditions. -/
import Derived.Test.YtnnchmlkgofhpaaKit
import Derived.Test.YtnnchmlkgofhpaaProg
set_option linter.unusedVariables false
set_option linter.unusedSimpArgs false
namespace Go.Proofs.Ytnnchmlkgofhpaa
open Go.RowKit

set_option maxHeartbeats 1000000 in
theorem overBytesF_nil (w : World) (A : Option Addr) (c : Nat) :
    Calls Try.prog 28 #[.slice A 0 c] w fun e w' => e = .returned (.tuple #[]) ∧ w = w' := by
  go_enter Try.func28, Try.ntmps28
  go_wp2
  refine wp_loop_rounds 1 ?_
  rw [rounds_succ]
  go_wp2
  go_end0
  exact ⟨rfl, rfl⟩

theorem overBytes_rest {l : List Int} {vs : List Value} {k : Nat} (h : ∀ j, k ≤ j → vs[j]? = (nums .u8 l)[j]?) (v : Value) : ∀ j, k + 1 ≤ j → (vs.set k v)[j]? = (nums .u8 l)[j]? := fun j hj => by
  rw [List.getElem?_set_ne (by omega)]
  exact h j (by omega)

set_option maxHeartbeats 1000000 in
theorem overBytesF (w : World) (b c : Nat) (l : List Int) (n : Nat) (hn : l.length = n) (hm : n ≤ 1000000) (hr : Row w b (nums .u8 l)) :
    Calls Try.prog 28 #[.slice (some ⟨b, 0, none⟩) n c] w fun e w' => e = .returned (.tuple #[]) ∧ Mod (· = b) w w' := by
  have HN := Lib.hid hn
  have HR := Lib.hid hr
  clear hn hr
  go_enter Try.func28, Try.ntmps28
  go_wp2
  go_loopw [2] (fun i wr => ∃ (k : Nat) (vs : List Value), k ≤ n ∧ i = .int .i64 k ∧ Hid (vs.length = n) ∧ Hid (∀ j, k ≤ j → vs[j]? = (nums .u8 l)[j]?) ∧ Row wr b vs ∧ Mod (· = b) w wr) (fun i _ => n - (intOf i).toNat)
  case atStart => exact ⟨0, nums .u8 l, by omega, rfl, Lib.hid (by rw [nums_length]; exact HN.out), Lib.hid (fun _ _ => rfl), HR.out, Mod.refl _ _⟩
  case round =>
    obtain ⟨k, vs, hk, rfl, hl, hsame, hrow, hmod⟩ := hrel
    by_cases hlt : k < n
    · have hc := hrow.cell (i := k) ((hsame.out k (Nat.le_refl _)).trans (nums_get (i := k) (by rw [HN.out]; exact hlt)))
      have hf := hrow.free k
      go_wp2
      go_roundw
      case rel => exact ⟨k + 1, _, by omega, by go_num, Lib.hid (by rw [List.length_set]; exact hl.out), Lib.hid (overBytes_rest hsame.out _), hrow.set (by rw [hl.out]; exact hlt) _, hmod.set1 _⟩
      case measure => simp [intOf]; omega
    · go_wp2
      go_end0
      exact ⟨rfl, hmod⟩

theorem overBytes (w : World) (base : Nat) (A : Option Addr) (c n : Nat) (l : List Int) (hn : l.length = n) (hm : n ≤ 1000000) (h : Fresh w base A (nums .u8 l)) :
    Calls Try.prog 28 #[.slice A n c] w fun e w' => e = .returned (.tuple #[]) ∧ Mod (fun i => ∃ a, A = some a ∧ a.block = i) w w' := by
  rcases h with ⟨rfl, h⟩ | ⟨b, rfl, h1, h2⟩
  · obtain rfl : l = [] := by simpa [nums] using h
    obtain rfl : n = 0 := by simpa using hn.symm
    refine (overBytesF_nil w none c).mono ?_
    rintro e w' ⟨h3, rfl⟩
    exact ⟨h3, Mod.refl _ _⟩
  · exact (overBytesF w b c l n hn hm h2).mono fun e w' ⟨h3, h4⟩ => ⟨h3, h4.mono fun i _ hi => ⟨_, rfl, hi.symm⟩⟩
end Go.Proofs.Ytnnchmlkgofhpaa
