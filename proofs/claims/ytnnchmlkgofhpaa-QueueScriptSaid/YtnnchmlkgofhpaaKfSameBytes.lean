/- The walk of praxinoscopekit.SameBytes: are both lists of bytes the same; no conditions. -/
import Derived.Test.YtnnchmlkgofhpaaKit
import Derived.Test.YtnnchmlkgofhpaaProg
import Derived.Laws.BytesArg
set_option linter.unusedVariables false
set_option linter.unusedSimpArgs false
namespace Go.Proofs.Ytnnchmlkgofhpaa
open Go.RowKit

theorem strOf_inj {a b : List Int} (ha : bytes a) (hb : bytes b) (h : (strOfNums a).toList = (strOfNums b).toList) : a = b := by
  have h2 : (a.map fun n => UInt8.ofNat n.toNat) = b.map fun n => UInt8.ofNat n.toNat := by rw [← strOfNums_data, ← strOfNums_data, ← ByteArray.toList_eq, ← ByteArray.toList_eq, h]
  have hl : a.length = b.length := by simpa using congrArg List.length h2
  apply List.ext_getElem hl
  intro i h3 h4
  have := congrArg (fun l => l[i]?) h2
  simp [h3, h4] at this
  have h5 := ha _ (List.getElem_mem h3)
  have h6 := hb _ (List.getElem_mem h4)
  have := congrArg UInt8.toNat this
  simp at this
  omega
theorem convert_rd {P : Program} {w : World} {src dst e : TypeId} (hs : P.underlying src = some (.slice e)) (he : P.underlying e = some (.int .u8)) (hd : P.underlying dst = some .string) {A : Option Addr} {c : Nat} {l : List Int} (h : Rd w A (nums .u8 l)) :
    (convert src dst (.slice A l.length c)).run P w = .ok (.string (strOfNums l)) w := by
  rcases h with h | ⟨b, o, rfl, _, hc⟩
  · obtain rfl : l = [] := by simpa [nums] using h
    show (convert src dst (.slice A 0 c)).run P w = _
    rw [run_convert_bytes_string w src dst e A 0 c hs he hd]
    cases A <;> simp [Conv.bytesToString, loadCells, strOfNums, ByteArray.empty, ByteArray.emptyWithCapacity] <;> rfl
  · exact run_convert_bytes_arg w src e hs he b o _ c l rfl (fun i hi => by
      have := hc i _ (nums_get hi)
      simpa [el] using this) dst hd

set_option maxHeartbeats 1000000 in
theorem sameBytes (w : World) (A A' : Option Addr) (n n' c c' : Nat) (a b : List Int) (hn : a.length = n) (hn' : b.length = n') (ha : Rd w A (nums .u8 a)) (hb : Rd w A' (nums .u8 b)) (ba : bytes a) (bb : bytes b) :
    Calls Try.prog 35 #[.slice A n c, .slice A' n' c'] w fun e w' => e = .returned (.bool (decide (a = b))) ∧ w = w' := by
  subst hn hn'
  have h1 := convert_rd (c := c) Try.underlying22 Try.underlying5 Try.underlying9 ha
  have h2 := convert_rd (c := c') Try.underlying22 Try.underlying5 Try.underlying9 hb
  clear ha hb
  go_enter Try.func35, Try.ntmps35
  go_wp2
  go_ret
  refine ⟨?_, rfl⟩
  by_cases h : a = b
  · subst h
    simp
  · have h3 : ((strOfNums a).toList == (strOfNums b).toList) = false := by
      rw [beq_eq_false_iff_ne]
      exact fun h' => h (strOf_inj ba bb h')
    simp [h, h3]
end Go.Proofs.Ytnnchmlkgofhpaa
