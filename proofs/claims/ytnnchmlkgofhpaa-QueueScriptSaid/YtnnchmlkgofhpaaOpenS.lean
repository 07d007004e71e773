/- A slice of structs of one-cell fields that came in, opened at every element; no conditions. -/
import Derived.Deep.Slices
import Derived.Deep.Fields
import Derived.ChangeArms
import Derived.Test.YtnnchmlkgofhpaaKit
set_option linter.unusedVariables false
set_option linter.unusedSimpArgs false
namespace Go.Proofs.Ytnnchmlkgofhpaa
open Go.Deep Go.ChangeShapes Go.WideShapes

/-- The cells of rows of k cells, one behind the other. -/
def rowsV (n k : Nat) (V : Nat → Nat → Value) : List Value := (List.range n).flatMap fun i => (List.range k).map fun j => V i j
theorem rowsV_succ (n k : Nat) (V : Nat → Nat → Value) : rowsV (n + 1) k V = rowsV n k V ++ (List.range k).map (V n) := by
  unfold rowsV
  rw [List.range_succ, List.flatMap_append]
  simp
theorem rowsV_len (n k : Nat) (V : Nat → Nat → Value) : (rowsV n k V).length = n * k := by
  induction n with
  | zero => simp [rowsV]
  | succ n ih => rw [rowsV_succ, List.length_append, ih, List.length_map, List.length_range, Nat.add_mul, Nat.one_mul]
theorem rowsV_get (n k : Nat) (V : Nat → Nat → Value) (p : Nat) (hp : p < n * k) : (rowsV n k V)[p]? = some (V (p / k) (p % k)) := by
  induction n with
  | zero => omega
  | succ n ih =>
    rw [rowsV_succ]
    by_cases h : p < n * k
    · rw [List.getElem?_append_left (by rw [rowsV_len]; exact h), ih h]
    · have hk : 0 < k := by
        rcases Nat.eq_zero_or_pos k with h0 | h0
        · subst h0; simp at hp
        · exact h0
      have hq : p - n * k < k := by rw [Nat.add_mul, Nat.one_mul] at hp; omega
      have e : p = (p - n * k) + k * n := by rw [Nat.mul_comm k n]; omega
      have e1 : p / k = n := by rw [e, Nat.add_mul_div_left _ _ hk, Nat.div_eq_of_lt hq, Nat.zero_add]
      have e2 : p % k = p - n * k := by rw [e, Nat.add_mul_mod_self_left, Nat.mod_eq_of_lt hq, Nat.mul_comm k n]; omega
      rw [List.getElem?_append_right (by rw [rowsV_len]; omega), rowsV_len, List.getElem?_map, List.getElem?_range hq, e1, e2]
      rfl

theorem open_structs {H : Type} {enc : TypeId × Value → H} {P : Program} {w : World} {base : Nat} {spare : Nat → Bool} {held : Bool} {t e : TypeId} {fs : Array Field} {fuel : Nat} {cs : List Value} {x : DataW H × List MemPlace}
    (ht : P.underlying t = some (.slice e)) (he : P.underlying e = some (.struct fs)) (hone : oneCellFields P fs = true) (hC : P.cellsOf e = fs.size) (hpos : 0 < fs.size) (h : DataW.trod enc P w base spare held fuel t cs = some x) :
    cs = [.slice none 0 0] ∨ ∃ (a : Addr) (len cap n : Nat) (V : Nat → Nat → Value), cs = [.slice (some a) len cap] ∧ len ≤ cap ∧ cap ≤ maxLen ∧ Rd w (some a) (rowsV len fs.size V) ∧
      ∀ i, i < len → ∀ (j : Nat) (f : Field), fs[j]? = some f → ∃ y, DataW.trod enc P w base spare held n f.type [V i j] = some y := by
  rcases open_slice ht h with ⟨h0, _⟩ | ⟨a, len, cap, m, n, D, Pl, rfl, hb, hl, hm, hmm, rfl, hx⟩
  · exact .inl h0
  right
  have hlm : len ≤ m := by rw [hmm]; split <;> omega
  obtain ⟨q, hq⟩ := choose_lt hx
  have key : ∀ i, i < len → ∀ (j : Nat) (f : Field), fs[j]? = some f → w.cell? (a.add (i * fs.size + j)) = some ((q i).getD j undef) ∧ ∃ y, DataW.trod enc P w base spare held (n - 1) f.type [(q i).getD j undef] = some y := by
    intro i hi j f hj
    obtain ⟨h1, h2⟩ := hq i (by omega)
    rw [hC] at h1
    obtain ⟨_, hlen, hcell⟩ := World.cells?_some h1
    obtain ⟨xs, k, hk, hxy, _, hxl, hf⟩ := DataW.trod_struct he h2
    obtain rfl : k = n - 1 := by omega
    have hlt : j < fs.size := (Array.getElem?_eq_some_iff.1 hj).1
    obtain ⟨ho, hc1⟩ := hone_of hone j f hj
    have g := hf j f hj
    rw [ho, hc1, take1_drop _ _ undef (by omega), List.getElem?_eq_getElem (by omega)] at g
    have e0 := hcell j (by omega)
    rw [add_add, List.getElem?_eq_getElem (by omega)] at e0
    refine ⟨?_, _, g⟩
    rw [e0, List.getD_eq_getElem?_getD, List.getElem?_eq_getElem (by omega)]
    rfl
  refine ⟨a, len, cap, n - 1, fun i j => (q i).getD j undef, rfl, hl, hm, ?_, fun i hi j f hj => (key i hi j f hj).2⟩
  by_cases h0 : len = 0
  · exact .inl (by rw [h0]; rfl)
  · have c0 := (key 0 (by omega) 0 fs[0] (by rw [Array.getElem?_eq_getElem hpos])).1
    have h00 : a.add (0 * fs.size + 0) = a := by unfold Addr.add; simp
    rw [h00] at c0
    have hsp := World.cell?_spot c0
    obtain ⟨b, o, sp⟩ := a
    have hsp : sp = none := hsp
    subst hsp
    have hadd : ∀ i, (⟨b, o, none⟩ : Addr).add i = ⟨b, o + i, none⟩ := fun i => by unfold Addr.add; split <;> simp_all
    refine .inr ⟨b, o, rfl, World.block_lt_of_cell? w _ c0, fun p v hp => ?_⟩
    have hpl : p < len * fs.size := by
      have := (List.getElem?_eq_some_iff.1 hp).1
      rwa [rowsV_len] at this
    rw [rowsV_get _ _ _ _ hpl] at hp
    injection hp with hp
    have hi : p / fs.size < len := (Nat.div_lt_iff_lt_mul hpos).2 hpl
    have hj : p % fs.size < fs.size := Nat.mod_lt _ hpos
    have := (key (p / fs.size) hi (p % fs.size) fs[p % fs.size] (by rw [Array.getElem?_eq_getElem hj])).1
    rw [hadd, Nat.mul_comm, Nat.div_add_mod] at this
    rw [this, ← hp]

/-- A whole number's cell. -/
theorem open_num {H : Type} {enc : TypeId × Value → H} {P : Program} {w : World} {base : Nat} {spare : Nat → Bool} {held : Bool} {t : TypeId} {k : IntKind} {n : Nat} {v : Value} (ht : P.underlying t = some (.int k))
    (h : ∃ y, DataW.trod enc P w base spare held n t [v] = some y) : ∃ z : Int, v = .int k z ∧ (Lit.int k z).wf = true := by
  obtain ⟨y, h⟩ := h
  obtain ⟨z, h1, _, h2⟩ := DataW.trod_int ht h
  exact ⟨z, by simpa using h1, h2⟩
end Go.Proofs.Ytnnchmlkgofhpaa
