/- A list's number at a place, nought beyond; no conditions. -/
import Derived.Below
set_option linter.unusedVariables false
set_option linter.unusedSimpArgs false
namespace Go.Proofs.Ytnnchmlkgofhpaa
/-- The number at place i; 0 beyond the list. -/
def el (xs : List Int) (i : Nat) : Int := xs.getD i 0
theorem el_lt {xs : List Int} {i : Nat} (h : i < xs.length) : el xs i = xs[i] := by simp [el, List.getD_eq_getElem?_getD, h]
theorem el_ge {xs : List Int} {i : Nat} (h : xs.length ≤ i) : el xs i = 0 := by simp [el, List.getD_eq_getElem?_getD, List.getElem?_eq_none h]
theorem el_mem {xs : List Int} {i : Nat} (h : i < xs.length) : el xs i ∈ xs := by rw [el_lt h]; exact List.getElem_mem h
theorem el_set (xs : List Int) (i j : Nat) (v : Int) : el (xs.set i v) j = if i = j ∧ i < xs.length then v else el xs j := by
  simp only [el, List.getD_eq_getElem?_getD, List.getElem?_set]
  by_cases h : i = j
  · subst h
    by_cases h2 : i < xs.length
    · simp [h2]
    · simp [h2]
  · simp [h]
theorem el_map_range (f : Nat → Int) (n i : Nat) (h : i < n) : el ((List.range n).map f) i = f i := by simp [el, List.getD_eq_getElem?_getD, h]
theorem el_replicate (n i : Nat) : el (List.replicate n 0) i = 0 := by
  rcases Nat.lt_or_ge i n with h | h
  · rw [el_lt (by simpa using h)]; simp
  · rw [el_ge (by simpa using h)]
theorem list_ext {xs ys : List Int} (hl : xs.length = ys.length) (h : ∀ j, j < xs.length → el xs j = el ys j) : xs = ys := by
  apply List.ext_getElem hl
  intro i h1 h2
  have := h i h1
  rwa [el_lt h1, el_lt h2] at this
theorem el_append (xs ys : List Int) (i : Nat) : el (xs ++ ys) i = if i < xs.length then el xs i else el ys (i - xs.length) := by
  simp only [el, List.getD_eq_getElem?_getD, List.getElem?_append]
  split <;> rfl
theorem el_take (xs : List Int) (n i : Nat) (h : i < n) : el (xs.take n) i = el xs i := by simp [el, List.getD_eq_getElem?_getD, List.getElem?_take, h]
theorem el_drop (xs : List Int) (n i : Nat) : el (xs.drop n) i = el xs (n + i) := by simp [el, List.getD_eq_getElem?_getD, List.getElem?_drop]
theorem take_succ_el (xs : List Int) (k : Nat) (h : k < xs.length) : xs.take (k + 1) = xs.take k ++ [el xs k] := by
  rw [List.take_succ_eq_append_getElem h, el_lt h]
/-- Bytes: numbers from 0 to 255. -/
def bytes (l : List Int) : Prop := ∀ x ∈ l, 0 ≤ x ∧ x ≤ 255
theorem bytes_el {l : List Int} (h : bytes l) (i : Nat) : 0 ≤ el l i ∧ el l i ≤ 255 := by
  rcases Nat.lt_or_ge i l.length with hi | hi
  · exact h _ (el_mem hi)
  · rw [el_ge hi]; omega
theorem bytes_of_el {l : List Int} (h : ∀ i, i < l.length → 0 ≤ el l i ∧ el l i ≤ 255) : bytes l := by
  intro x hx
  obtain ⟨i, hi, rfl⟩ := List.mem_iff_getElem.1 hx
  rw [← el_lt hi]
  exact h i hi
/-- The first k of n numbers; noughts behind. -/
def part (f : Nat → Int) (n k : Nat) : List Int := (List.range n).map fun j => if j < k then f j else 0
theorem part_len (f : Nat → Int) (n k : Nat) : (part f n k).length = n := by simp [part]
theorem part_set (f : Nat → Int) (n k : Nat) : (part f n k).set k (f k) = part f n (k + 1) := by
  apply List.ext_getElem
  · simp [part]
  · intro i h1 h2
    rw [List.getElem_set]
    simp only [part, List.getElem_map, List.getElem_range]
    by_cases h : k = i
    · subst h; simp
    · rw [if_neg h]
      by_cases h3 : i < k
      · rw [if_pos h3, if_pos (by omega)]
      · rw [if_neg h3, if_neg (by omega)]
theorem part_zero (f : Nat → Int) (n : Nat) : part f n 0 = List.replicate n 0 := by
  apply List.ext_getElem
  · simp [part]
  · intro i h1 h2
    simp [part]
theorem part_all (f : Nat → Int) (n : Nat) : part f n n = (List.range n).map f := by
  unfold part
  refine List.map_congr_left (fun j hj => ?_)
  rw [if_pos (List.mem_range.1 hj)]
theorem range_el (xs : List Int) : (List.range xs.length).map (el xs) = xs := by
  apply list_ext (by simp)
  intro j hj
  rw [el_map_range _ _ _ (by simpa using hj)]
end Go.Proofs.Ytnnchmlkgofhpaa
