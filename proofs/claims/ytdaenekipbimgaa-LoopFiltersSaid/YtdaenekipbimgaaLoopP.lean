/- What the filter computes, over lists and numbers alone; no conditions. -/
import Derived.Test.YtdaenekipbimgaaEl
set_option linter.unusedVariables false
set_option linter.unusedSimpArgs false
namespace Go.Proofs.Ytdaenekipbimgaa

def soft8 (g : Nat → Int) (i : Nat) : Int := if i = 0 ∨ i = 7 then 4 * g i else g (i - 1) + 2 * g i + g (i + 1)
def line (xs : List Int) (s t : Nat) (i : Nat) : Int := el xs (s + i * t)
def outs (g : Nat → Int) (k : Nat) : List Int := (List.range 8).map fun i => if i < k then soft8 g i else 0
theorem outs_len (g : Nat → Int) (k : Nat) : (outs g k).length = 8 := by simp [outs]
theorem outs_set (g : Nat → Int) (k : Nat) : (outs g k).set k (soft8 g k) = outs g (k + 1) := by
  apply List.ext_getElem
  · simp [outs]
  · intro i h1 h2
    rw [List.getElem_set]
    simp only [outs, List.getElem_map, List.getElem_range]
    by_cases h : k = i
    · subst h; simp
    · rw [if_neg h]
      by_cases h3 : i < k
      · rw [if_pos h3, if_pos (by omega)]
      · rw [if_neg h3, if_neg (by omega)]
theorem outs_zero (g : Nat → Int) : outs g 0 = List.replicate 8 0 := by rfl
theorem outs_el (g : Nat → Int) (k : Nat) (hk : k < 8) : el (outs g 8) k = soft8 g k := by
  rw [outs, el_map_range _ _ _ hk, if_pos hk]

/-- Eight (or k) numbers are put, t apart, from s on. -/
def putf (f : Nat → Int) (xs : List Int) (s t : Nat) : Nat → List Int
  | 0 => xs
  | k + 1 => (putf f xs s t k).set (s + k * t) (f k)
theorem putf_len (f : Nat → Int) (xs : List Int) (s t k : Nat) : (putf f xs s t k).length = xs.length := by
  induction k with
  | zero => rfl
  | succ k ih => simp [putf, ih]
theorem putf_get (f : Nat → Int) (xs : List Int) (s t j : Nat) (ht : 0 < t) : ∀ k, (∀ i, i < k → s + i * t < xs.length) →
    el (putf f xs s t k) j = if s ≤ j ∧ (j - s) % t = 0 ∧ (j - s) / t < k then f ((j - s) / t) else el xs j := by
  intro k
  induction k with
  | zero => intro _; simp [putf]
  | succ k ih =>
    intro hb
    rw [putf, el_set, putf_len, ih (fun i hi => hb i (by omega))]
    by_cases h : s + k * t = j
    · subst h
      have h1 : (s + k * t - s) = k * t := by omega
      rw [if_pos ⟨rfl, hb k (by omega)⟩, if_pos (by rw [h1, Nat.mul_mod_left, Nat.mul_div_cancel _ ht]; omega), h1, Nat.mul_div_cancel _ ht]
    · rw [if_neg (fun h' => h h'.1)]
      by_cases h2 : s ≤ j ∧ (j - s) % t = 0 ∧ (j - s) / t < k
      · rw [if_pos h2, if_pos (by omega)]
      · rw [if_neg h2, if_neg (fun h3 => h2 ⟨h3.1, h3.2.1, by
          have hne : (j - s) / t ≠ k := by
            intro he
            have := Nat.div_add_mod (j - s) t
            rw [h3.2.1, he, Nat.mul_comm] at this
            omega
          omega⟩)]
def puts (xs : List Int) (s t k : Nat) : List Int := putf (soft8 (line xs s t)) xs s t k
theorem puts_zero (xs : List Int) (s t : Nat) : puts xs s t 0 = xs := rfl
theorem puts_succ (xs : List Int) (s t k : Nat) : puts xs s t (k + 1) = (puts xs s t k).set (s + k * t) (soft8 (line xs s t) k) := rfl
theorem puts_len (xs : List Int) (s t k : Nat) : (puts xs s t k).length = xs.length := putf_len _ _ _ _ _
theorem puts_get (xs : List Int) (s t j : Nat) (ht : 0 < t) (k : Nat) (h : ∀ i, i < k → s + i * t < xs.length) :
    el (puts xs s t k) j = if s ≤ j ∧ (j - s) % t = 0 ∧ (j - s) / t < k then soft8 (line xs s t) ((j - s) / t) else el xs j := putf_get _ _ _ _ _ ht k h

/-- 64 numbers, by a function of row and column. -/
def grid (g : Nat → Nat → Int) : List Int := (List.range 64).map fun j => g (j / 8) (j % 8)
theorem grid_len (g : Nat → Nat → Int) : (grid g).length = 64 := by simp [grid]
theorem grid_el (g : Nat → Nat → Int) (j : Nat) (hj : j < 64) : el (grid g) j = g (j / 8) (j % 8) := by rw [grid, el_map_range _ _ _ hj]
theorem grid_at (g : Nat → Nat → Int) (y x : Nat) (hy : y < 8) (hx : x < 8) : el (grid g) (8 * y + x) = g y x := by
  rw [grid_el _ _ (by omega), show (8 * y + x) / 8 = y by omega, show (8 * y + x) % 8 = x by omega]
def cell (l : List Int) (y x : Nat) : Int := el l (8 * y + x)
theorem grid_cell (l : List Int) (hl : l.length = 64) : grid (cell l) = l := by
  apply list_ext (by rw [grid_len, hl])
  intro j hj
  rw [grid_len] at hj
  rw [grid_el _ _ hj, cell, show 8 * (j / 8) + j % 8 = j by omega]
def rowsDone (g : Nat → Nat → Int) (k : Nat) : Nat → Nat → Int := fun y x => if y < k then soft8 (g y) x else g y x
def colsDone (g : Nat → Nat → Int) (k : Nat) : Nat → Nat → Int := fun y x => if x < k then soft8 (fun z => g z x) y else g y x
theorem soft8_congr {f g : Nat → Int} (h : ∀ i, i < 8 → f i = g i) (i : Nat) (hi : i < 8) : soft8 f i = soft8 g i := by
  unfold soft8
  by_cases h0 : i = 0 ∨ i = 7
  · rw [if_pos h0, if_pos h0, h i hi]
  · rw [if_neg h0, if_neg h0, h i hi, h (i - 1) (by omega), h (i + 1) (by omega)]
theorem puts_row (g : Nat → Nat → Int) (k : Nat) (hk : k < 8) : puts (grid (rowsDone g k)) (8 * k) 1 8 = grid (rowsDone g (k + 1)) := by
  apply list_ext (by rw [puts_len, grid_len, grid_len])
  intro j hj
  rw [puts_len, grid_len] at hj
  rw [puts_get _ _ _ _ (by omega) _ (fun i hi => by rw [grid_len]; omega), grid_el _ _ hj, grid_el _ _ hj]
  simp only [Nat.mod_one, Nat.div_one, true_and]
  by_cases h : 8 * k ≤ j ∧ j - 8 * k < 8
  · rw [if_pos h]
    have hy : j / 8 = k := by omega
    have hx : j % 8 = j - 8 * k := by omega
    rw [hy, hx, rowsDone, if_pos (by omega)]
    refine soft8_congr (fun i hi => ?_) _ h.2
    rw [line, Nat.mul_one, grid_at _ _ _ hk hi, rowsDone, if_neg (by omega)]
  · rw [if_neg h]
    unfold rowsDone
    by_cases h2 : j / 8 < k
    · rw [if_pos h2, if_pos (by omega)]
    · rw [if_neg h2, if_neg (by omega)]
theorem puts_col (g : Nat → Nat → Int) (k : Nat) (hk : k < 8) : puts (grid (colsDone g k)) k 8 8 = grid (colsDone g (k + 1)) := by
  apply list_ext (by rw [puts_len, grid_len, grid_len])
  intro j hj
  rw [puts_len, grid_len] at hj
  rw [puts_get _ _ _ _ (by omega) _ (fun i hi => by rw [grid_len]; omega), grid_el _ _ hj, grid_el _ _ hj]
  by_cases h : k ≤ j ∧ (j - k) % 8 = 0 ∧ (j - k) / 8 < 8
  · rw [if_pos h]
    have hx : j % 8 = k := by omega
    have hy : j / 8 = (j - k) / 8 := by omega
    rw [hx, hy, colsDone, if_pos (by omega)]
    refine soft8_congr (fun i hi => ?_) _ h.2.2
    rw [line, show k + i * 8 = 8 * i + k by omega, grid_at _ _ _ hi hk, colsDone, if_neg (by omega)]
  · rw [if_neg h]
    unfold colsDone
    by_cases h2 : j % 8 < k
    · rw [if_pos h2, if_pos (by omega)]
    · rw [if_neg h2, if_neg (by omega)]
theorem rows_zero (g : Nat → Nat → Int) : rowsDone g 0 = g := by funext y x; simp [rowsDone]
theorem cols_zero (g : Nat → Nat → Int) : colsDone g 0 = g := by funext y x; simp [colsDone]
theorem grid_congr {f g : Nat → Nat → Int} (h : ∀ y x, y < 8 → x < 8 → f y x = g y x) : grid f = grid g := by
  apply list_ext (by rw [grid_len, grid_len])
  intro j hj
  rw [grid_len] at hj
  rw [grid_el _ _ hj, grid_el _ _ hj, h _ _ (by omega) (by omega)]
/-- Rows, softened; then columns, softened. -/
def softR (g : Nat → Nat → Int) : Nat → Nat → Int := fun y x => soft8 (g y) x
def softC (g : Nat → Nat → Int) : Nat → Nat → Int := fun y x => soft8 (fun z => g z x) y
theorem rows_all (g : Nat → Nat → Int) : grid (rowsDone g 8) = grid (softR g) := grid_congr fun y x hy hx => by rw [rowsDone, if_pos hy, softR]
theorem cols_all (g : Nat → Nat → Int) : grid (colsDone g 8) = grid (softC g) := grid_congr fun y x hy hx => by rw [colsDone, if_pos hx, softC]
/-- The filtered block. -/
def filt (g : Nat → Nat → Int) : Nat → Nat → Int := fun y x => (softC (softR g) y x + 8) / 16
theorem soft8_bd (g : Nat → Int) (B : Int) (h : ∀ i, 0 ≤ g i ∧ g i ≤ B) (i : Nat) : 0 ≤ soft8 g i ∧ soft8 g i ≤ 4 * B := by
  have h1 := h i
  have h2 := h (i - 1)
  have h3 := h (i + 1)
  unfold soft8
  split <;> omega
theorem softC_bd (g : Nat → Nat → Int) (h : ∀ y x, 0 ≤ g y x ∧ g y x ≤ 255) (y x : Nat) : 0 ≤ softC (softR g) y x ∧ softC (softR g) y x ≤ 4080 :=
  soft8_bd _ 1020 (fun z => soft8_bd _ 255 (h z) x) y
theorem filt_bd (g : Nat → Nat → Int) (h : ∀ y x, 0 ≤ g y x ∧ g y x ≤ 255) (y x : Nat) : 0 ≤ filt g y x ∧ filt g y x ≤ 255 := by
  have := softC_bd g h y x
  unfold filt
  omega
theorem rows_bd (g : Nat → Nat → Int) (h : ∀ y x, 0 ≤ g y x ∧ g y x ≤ 255) (k y x : Nat) : 0 ≤ rowsDone g k y x ∧ rowsDone g k y x ≤ 1020 := by
  unfold rowsDone
  have := h y x
  have := soft8_bd _ 255 (h y) x
  split <;> omega
theorem cols_bd (g : Nat → Nat → Int) (h : ∀ y x, 0 ≤ g y x ∧ g y x ≤ 1020) (k y x : Nat) : 0 ≤ colsDone g k y x ∧ colsDone g k y x ≤ 4080 := by
  unfold colsDone
  have := h y x
  have := soft8_bd _ 1020 (fun z => h z x) y
  split <;> omega
theorem grid_bd (g : Nat → Nat → Int) (B : Int) (hB : 0 ≤ B) (h : ∀ y x, 0 ≤ g y x ∧ g y x ≤ B) (j : Nat) : 0 ≤ el (grid g) j ∧ el (grid g) j ≤ B := by
  rcases Nat.lt_or_ge j 64 with hj | hj
  · rw [grid_el _ _ hj]; exact h _ _
  · rw [el_ge (by rw [grid_len]; exact hj)]
    omega
/-- Is the row one that may be softened? -/
def rowOk (l : List Int) : Prop := l.length = 8 ∧ ∀ i, i < 8 → -1099511627776 ≤ el l i ∧ el l i ≤ 1099511627776
/-- The softened row. -/
def softL (l : List Int) : List Int := (List.range 8).map (soft8 (el l))
theorem softL_len (l : List Int) : (softL l).length = 8 := by simp [softL]
theorem puts_first (l : List Int) (hl : l.length = 8) : (puts (part (el l) 64 8) 0 1 8).take 8 = softL l := by
  apply list_ext (by rw [List.length_take, puts_len, part_len, softL_len]; rfl)
  intro j hj
  rw [List.length_take, puts_len, part_len] at hj
  have hj8 : j < 8 := by omega
  rw [el_take _ _ _ hj8, puts_get _ _ _ _ (by omega) _ (fun i hi => by rw [part_len]; omega), softL, el_map_range _ _ _ hj8, if_pos (by simp [Nat.mod_one]; omega)]
  simp only [Nat.sub_zero, Nat.div_one]
  refine soft8_congr (fun i hi => ?_) _ hj8
  rw [line, part, el_map_range _ _ _ (by omega), if_pos (by omega), Nat.mul_one, Nat.zero_add]
theorem bytes_filt (l : List Int) (hb : bytes l) : bytes (grid (filt (cell l))) :=
  bytes_of_el fun i _ => grid_bd _ 255 (by omega) (filt_bd _ fun y x => bytes_el hb _) i
/-- Noughts, and the first k samples at their places. -/
def someG (l : List Int) : Nat → List Int
  | 0 => List.replicate 64 0
  | k + 1 => (someG l k).set ((el l (2 * k)) % 64).toNat (el l (2 * k + 1))
theorem someG_len (l : List Int) (k : Nat) : (someG l k).length = 64 := by
  induction k with
  | zero => rfl
  | succ k ih => simp [someG, ih]
theorem bytes_set {l : List Int} (h : bytes l) (i : Nat) (x : Int) (hx : 0 ≤ x ∧ x ≤ 255) : bytes (l.set i x) := by
  intro y hy
  rcases List.mem_or_eq_of_mem_set hy with h' | h'
  · exact h y h'
  · rw [h']; exact hx
theorem someG_bytes (l : List Int) (hb : bytes l) (k : Nat) : bytes (someG l k) := by
  induction k with
  | zero => intro x hx; simp [someG] at hx; omega
  | succ k ih => exact bytes_set ih _ _ (bytes_el hb _)
/-- The first k rows (or columns) of h; noughts else. -/
def upR (h : Nat → Nat → Int) (k : Nat) : Nat → Nat → Int := fun y x => if y < k then h y x else 0
def upC (h : Nat → Nat → Int) (k : Nat) : Nat → Nat → Int := fun y x => if x < k then h y x else 0
theorem grid_zero : grid (fun _ _ => 0) = List.replicate 64 0 := by
  apply list_ext (by simp [grid_len])
  intro j hj
  rw [grid_len] at hj
  rw [grid_el _ _ hj, el_replicate]
theorem upR_zero (h : Nat → Nat → Int) : grid (upR h 0) = List.replicate 64 0 := by rw [← grid_zero]; exact grid_congr fun y x _ _ => by simp [upR]
theorem upC_zero (h : Nat → Nat → Int) : grid (upC h 0) = List.replicate 64 0 := by rw [← grid_zero]; exact grid_congr fun y x _ _ => by simp [upC]
theorem upR_all (h : Nat → Nat → Int) : grid (upR h 8) = grid h := grid_congr fun y x hy _ => by rw [upR, if_pos hy]
theorem upC_all (h : Nat → Nat → Int) : grid (upC h 8) = grid h := grid_congr fun y x _ hx => by rw [upC, if_pos hx]
theorem upR_succ (h : Nat → Nat → Int) (k : Nat) (hk : k < 8) : putf (fun x => h k x) (grid (upR h k)) (8 * k) 1 8 = grid (upR h (k + 1)) := by
  apply list_ext (by rw [putf_len, grid_len, grid_len])
  intro j hj
  rw [putf_len, grid_len] at hj
  rw [putf_get _ _ _ _ _ (by omega) _ (fun i hi => by rw [grid_len]; omega), grid_el _ _ hj, grid_el _ _ hj]
  simp only [Nat.mod_one, Nat.div_one, true_and]
  unfold upR
  by_cases h1 : 8 * k ≤ j ∧ j - 8 * k < 8
  · rw [if_pos h1, if_pos (by omega), show j / 8 = k by omega, show j % 8 = j - 8 * k by omega]
  · rw [if_neg h1]
    by_cases h2 : j / 8 < k
    · rw [if_pos h2, if_pos (by omega)]
    · rw [if_neg h2, if_neg (by omega)]
theorem upC_succ (h : Nat → Nat → Int) (k : Nat) (hk : k < 8) : putf (fun y => h y k) (grid (upC h k)) k 8 8 = grid (upC h (k + 1)) := by
  apply list_ext (by rw [putf_len, grid_len, grid_len])
  intro j hj
  rw [putf_len, grid_len] at hj
  rw [putf_get _ _ _ _ _ (by omega) _ (fun i hi => by rw [grid_len]; omega), grid_el _ _ hj, grid_el _ _ hj]
  unfold upC
  by_cases h1 : k ≤ j ∧ (j - k) % 8 = 0 ∧ (j - k) / 8 < 8
  · rw [if_pos h1, if_pos (by omega), show j / 8 = (j - k) / 8 by omega, show j % 8 = k by omega]
  · rw [if_neg h1]
    by_cases h2 : j % 8 < k
    · rw [if_pos h2, if_pos (by omega)]
    · rw [if_neg h2, if_neg (by omega)]
/-- The first k numbers of a line. -/
def lineL (xs : List Int) (s t k : Nat) : List Int := (List.range k).map (line xs s t)
theorem lineL_len (xs : List Int) (s t k : Nat) : (lineL xs s t k).length = k := by simp [lineL]
theorem lineL_succ (xs : List Int) (s t k : Nat) : lineL xs s t (k + 1) = lineL xs s t k ++ [line xs s t k] := by simp [lineL, List.range_succ]
theorem lineL_el (xs : List Int) (s t k i : Nat) (h : i < k) : el (lineL xs s t k) i = line xs s t i := by rw [lineL, el_map_range _ _ _ h]
theorem softL_el (l : List Int) (i : Nat) (h : i < 8) : el (softL l) i = soft8 (el l) i := by rw [softL, el_map_range _ _ _ h]
theorem softL_row (xs : List Int) (k i : Nat) (hi : i < 8) : el (softL (lineL xs (8 * k) 1 8)) i = softR (cell xs) k i := by
  rw [softL_el _ _ hi, softR]
  refine soft8_congr (fun z hz => ?_) _ hi
  rw [lineL_el _ _ _ _ _ hz, line, cell, Nat.mul_one]
theorem softL_col (xs : List Int) (k i : Nat) (hi : i < 8) : el (softL (lineL xs k 8 8)) i = softC (cell xs) i k := by
  rw [softL_el _ _ hi, softC]
  refine soft8_congr (fun z hz => ?_) _ hi
  rw [lineL_el _ _ _ _ _ hz, line, cell, show k + z * 8 = 8 * z + k by omega]
theorem putf_congr {f g : Nat → Int} (xs : List Int) (s t : Nat) : ∀ k, (∀ i, i < k → f i = g i) → putf f xs s t k = putf g xs s t k
  | 0, _ => rfl
  | k + 1, h => by rw [putf, putf, putf_congr xs s t k (fun i hi => h i (by omega)), h k (by omega)]
theorem cell_grid (f : Nat → Nat → Int) (y x : Nat) (hy : y < 8) (hx : x < 8) : cell (grid f) y x = f y x := grid_at f y x hy hx
theorem softR_congr {f g : Nat → Nat → Int} (h : ∀ y x, y < 8 → x < 8 → f y x = g y x) (y x : Nat) (hy : y < 8) (hx : x < 8) : softR f y x = softR g y x := soft8_congr (fun i hi => h y i hy hi) _ hx
theorem softC_congr {f g : Nat → Nat → Int} (h : ∀ y x, y < 8 → x < 8 → f y x = g y x) (y x : Nat) (hy : y < 8) (hx : x < 8) : softC f y x = softC g y x := soft8_congr (fun i hi => h i x hi hx) _ hy
/-- Rows and columns may be softened in either order. -/
theorem soft_comm (g : Nat → Nat → Int) (y x : Nat) : softR (softC g) y x = softC (softR g) y x := by
  unfold softR softC soft8
  by_cases hx : x = 0 ∨ x = 7 <;> by_cases hy : y = 0 ∨ y = 7 <;> simp only [hx, hy, if_true, if_false] <;> omega
theorem oneL (l : List Int) : grid (softC (cell (grid (softR (cell l))))) = grid (softC (softR (cell l))) :=
  grid_congr fun y x hy hx => softC_congr (fun a b ha hb => cell_grid _ _ _ ha hb) _ _ hy hx
theorem twoL (l : List Int) : grid (softR (cell (grid (softC (cell l))))) = grid (softC (softR (cell l))) := by
  rw [grid_congr fun y x hy hx => softR_congr (fun a b ha hb => cell_grid (softC (cell l)) _ _ ha hb) _ _ hy hx]
  exact grid_congr fun y x _ _ => soft_comm _ _ _
theorem cell_bytes {l : List Int} (h : bytes l) (y x : Nat) : 0 ≤ cell l y x ∧ cell l y x ≤ 255 := bytes_el h _
theorem gridR_bd {l : List Int} (h : bytes l) (i : Nat) : 0 ≤ el (grid (softR (cell l))) i ∧ el (grid (softR (cell l))) i ≤ 1020 := grid_bd _ 1020 (by omega) (fun y x => soft8_bd _ 255 (cell_bytes h y) x) i
theorem gridC_bd {l : List Int} (h : bytes l) (i : Nat) : 0 ≤ el (grid (softC (cell l))) i ∧ el (grid (softC (cell l))) i ≤ 1020 := grid_bd _ 1020 (by omega) (fun y x => soft8_bd _ 255 (fun z => cell_bytes h z x) y) i
theorem gridO_bd {l : List Int} (h : bytes l) (i : Nat) : 0 ≤ el (grid (softC (softR (cell l)))) i ∧ el (grid (softC (softR (cell l)))) i ≤ 4080 := grid_bd _ 4080 (by omega) (softC_bd _ (cell_bytes h)) i
theorem filt_of (l : List Int) (k : Nat) (hk : k < 64) : (el (grid (softC (softR (cell l)))) k + 8) / 16 = el (grid (filt (cell l))) k := by
  rw [grid_el _ _ hk, grid_el _ _ hk, filt]
theorem soft8_between (h : Nat → Int) (i : Nat) (hi : i < 8) (lo up : Int) (hb : ∀ j, j < 8 → i ≤ j + 1 → j ≤ i + 1 → lo ≤ h j ∧ h j ≤ up) : 4 * lo ≤ soft8 h i ∧ soft8 h i ≤ 4 * up := by
  have h1 := hb i hi (by omega) (by omega)
  unfold soft8
  by_cases h0 : i = 0 ∨ i = 7
  · rw [if_pos h0]; omega
  · rw [if_neg h0]
    have h2 := hb (i - 1) (by omega) (by omega) (by omega)
    have h3 := hb (i + 1) (by omega) (by omega) (by omega)
    omega
/-- A filtered sample stays between those that touch it. -/
theorem filt_between (g : Nat → Nat → Int) (y x : Nat) (hy : y < 8) (hx : x < 8) (lo up : Int)
    (hb : ∀ v u, v < 8 → u < 8 → y ≤ v + 1 → v ≤ y + 1 → x ≤ u + 1 → u ≤ x + 1 → lo ≤ g v u ∧ g v u ≤ up) : lo ≤ filt g y x ∧ filt g y x ≤ up := by
  have h1 : 4 * (4 * lo) ≤ softC (softR g) y x ∧ softC (softR g) y x ≤ 4 * (4 * up) :=
    soft8_between _ y hy _ _ fun v hv h1 h2 => soft8_between _ x hx _ _ fun u hu h3 h4 => hb v u hv hu h1 h2 h3 h4
  unfold filt
  omega
theorem filt_corner (g : Nat → Nat → Int) (y x : Nat) (hy : y = 0 ∨ y = 7) (hx : x = 0 ∨ x = 7) : filt g y x = g y x := by
  simp only [filt, softC, softR, soft8, if_pos hy, if_pos hx]
  omega
theorem soft8_mirror (g : Nat → Int) (i : Nat) (hi : i < 8) : soft8 (fun j => g (7 - j)) i = soft8 g (7 - i) := by
  unfold soft8
  by_cases h : i = 0 ∨ i = 7
  · rw [if_pos h, if_pos (by omega)]
  · rw [if_neg h, if_neg (by omega)]
    show g (7 - (i - 1)) + 2 * g (7 - i) + g (7 - (i + 1)) = _
    rw [show 7 - (i - 1) = 7 - i + 1 by omega, show 7 - (i + 1) = 7 - i - 1 by omega]
    omega
theorem soft8_add (g : Nat → Int) (m : Int) (i : Nat) : soft8 (fun j => g j + m) i = soft8 g i + 4 * m := by
  unfold soft8
  by_cases h : i = 0 ∨ i = 7
  · simp only [if_pos h]; omega
  · simp only [if_neg h]; omega
theorem filt_congr {f g : Nat → Nat → Int} (h : ∀ y x, y < 8 → x < 8 → f y x = g y x) (y x : Nat) (hy : y < 8) (hx : x < 8) : filt f y x = filt g y x := by
  unfold filt
  rw [softC_congr (fun a b ha hb => softR_congr h a b ha hb) y x hy hx]
/-- Turned about its diagonal. -/
theorem filt_trans (g : Nat → Nat → Int) (y x : Nat) : filt (fun a b => g b a) y x = filt g x y := by
  unfold filt
  have h1 : softC (softR (fun a b => g b a)) y x = softR (softC g) x y := rfl
  rw [h1, soft_comm]
/-- Mirrored. -/
theorem filt_mirror (g : Nat → Nat → Int) (y x : Nat) (hy : y < 8) (hx : x < 8) : filt (fun a b => g a (7 - b)) y x = filt g y (7 - x) := by
  unfold filt
  have h1 : softC (softR (fun a b => g a (7 - b))) y x = softC (softR g) y (7 - x) := by
    unfold softC
    refine soft8_congr (fun z hz => ?_) _ hy
    exact soft8_mirror (g z) x hx
  rw [h1]
/-- Made lighter all over. -/
theorem filt_add (g : Nat → Nat → Int) (m : Int) (y x : Nat) : filt (fun a b => g a b + m) y x = filt g y x + m := by
  unfold filt
  have h1 : softC (softR (fun a b => g a b + m)) y x = softC (softR g) y x + 16 * m := by
    have h2 : softR (fun a b => g a b + m) = fun a b => softR g a b + 4 * m := by
      funext a b
      exact soft8_add (g a) m b
    rw [h2]
    have h3 := soft8_add (fun z => softR g z x) (4 * m) y
    unfold softC
    rw [h3]
    omega
  rw [h1]
  omega
def halfL (l : List Int) : List Int := (List.range 64).map fun j => el l j / 2
def turnL (l : List Int) : List Int := (List.range 64).map fun j => el l (j % 8 * 8 + j / 8)
def mirL (l : List Int) : List Int := (List.range 64).map fun j => el l (j / 8 * 8 + 7 - j % 8)
def liteL (l : List Int) (m : Int) : List Int := (List.range 64).map fun j => el l j + m
theorem turn_filt (l : List Int) (j : Nat) (hj : j < 64) : el (grid (filt (cell (turnL l)))) j = el (grid (filt (cell l))) (j % 8 * 8 + j / 8) := by
  rw [grid_el _ _ hj, grid_el _ _ (by omega), show (j % 8 * 8 + j / 8) / 8 = j % 8 by omega, show (j % 8 * 8 + j / 8) % 8 = j / 8 by omega, ← filt_trans]
  refine filt_congr (fun y x hy hx => ?_) _ _ (by omega) (by omega)
  rw [cell, turnL, el_map_range _ _ _ (by omega), cell, show (8 * x + y) % 8 * 8 + (8 * x + y) / 8 = 8 * y + x by omega]
theorem mir_filt (l : List Int) (j : Nat) (hj : j < 64) : el (grid (filt (cell (mirL l)))) j = el (grid (filt (cell l))) (j / 8 * 8 + 7 - j % 8) := by
  rw [grid_el _ _ hj, grid_el _ _ (by omega), show (j / 8 * 8 + 7 - j % 8) / 8 = j / 8 by omega, show (j / 8 * 8 + 7 - j % 8) % 8 = 7 - j % 8 by omega, ← filt_mirror _ _ _ (by omega) (by omega)]
  refine filt_congr (fun y x hy hx => ?_) _ _ (by omega) (by omega)
  rw [cell, mirL, el_map_range _ _ _ (by omega), cell, show (8 * y + x) / 8 * 8 + 7 - (8 * y + x) % 8 = 8 * y + (7 - x) by omega]
theorem lite_filt (l : List Int) (m : Int) (j : Nat) (hj : j < 64) : el (grid (filt (cell (liteL l m)))) j = el (grid (filt (cell l))) j + m := by
  rw [grid_el _ _ hj, grid_el _ _ hj, ← filt_add]
  refine filt_congr (fun y x hy hx => ?_) _ _ (by omega) (by omega)
  rw [cell, liteL, el_map_range _ _ _ (by omega), cell]
theorem half_len (l : List Int) : (halfL l).length = 64 := by simp [halfL]
theorem turn_len (l : List Int) : (turnL l).length = 64 := by simp [turnL]
theorem mir_len (l : List Int) : (mirL l).length = 64 := by simp [mirL]
theorem lite_len (l : List Int) (m : Int) : (liteL l m).length = 64 := by simp [liteL]
theorem half_bd {l : List Int} (h : bytes l) (i : Nat) : 0 ≤ el (halfL l) i ∧ el (halfL l) i ≤ 127 := by
  rcases Nat.lt_or_ge i 64 with hi | hi
  · rw [halfL, el_map_range _ _ _ hi]
    have := bytes_el h i
    omega
  · rw [el_ge (by rw [half_len]; exact hi)]; omega
theorem half_bytes {l : List Int} (h : bytes l) : bytes (halfL l) := bytes_of_el fun i _ => by have := half_bd h i; omega
theorem turn_bytes {l : List Int} (h : bytes l) : bytes (turnL l) := bytes_of_el fun i hi => by rw [turn_len] at hi; rw [turnL, el_map_range _ _ _ hi]; exact bytes_el h _
theorem mir_bytes {l : List Int} (h : bytes l) : bytes (mirL l) := bytes_of_el fun i hi => by rw [mir_len] at hi; rw [mirL, el_map_range _ _ _ hi]; exact bytes_el h _
theorem lite_bytes {l : List Int} (h : bytes l) (m : Int) (hm : 0 ≤ m ∧ m < 128) : bytes (liteL (halfL l) m) := bytes_of_el fun i hi => by
  rw [lite_len] at hi
  rw [liteL, el_map_range _ _ _ hi]
  have := half_bd h i
  omega
/-- Half way: the first k are halved. -/
def halves (l : List Int) (k : Nat) : List Int := (List.range 64).map fun j => if j < k then el l j / 2 else el l j
theorem halves_len (l : List Int) (k : Nat) : (halves l k).length = 64 := by simp [halves]
theorem halves_zero (l : List Int) (hl : l.length = 64) : halves l 0 = l := by
  apply list_ext (by rw [halves_len, hl])
  intro j hj
  rw [halves_len] at hj
  rw [halves, el_map_range _ _ _ hj, if_neg (by omega)]
theorem halves_all (l : List Int) : halves l 64 = halfL l := by
  unfold halves halfL
  refine List.map_congr_left (fun j hj => ?_)
  rw [if_pos (List.mem_range.1 hj)]
theorem halves_at (l : List Int) (k : Nat) (hk : k < 64) : el (halves l k) k = el l k := by rw [halves, el_map_range _ _ _ hk, if_neg (by omega)]
theorem halves_set (l : List Int) (k : Nat) : (halves l k).set k (el l k / 2) = halves l (k + 1) := by
  apply list_ext (by simp [halves])
  intro j hj
  rw [List.length_set, halves_len] at hj
  rw [el_set, halves_len, halves, el_map_range _ _ _ hj, halves, el_map_range _ _ _ hj]
  by_cases h : k = j
  · subst h; rw [if_pos ⟨rfl, hj⟩, if_pos (by omega)]
  · rw [if_neg (fun h' => h h'.1)]
    by_cases h2 : j < k
    · rw [if_pos h2, if_pos (by omega)]
    · rw [if_neg h2, if_neg (by omega)]
end Go.Proofs.Ytdaenekipbimgaa
