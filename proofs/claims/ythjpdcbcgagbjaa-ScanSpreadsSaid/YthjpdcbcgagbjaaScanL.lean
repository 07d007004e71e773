/- What is spread is told as it was by runs, and what runs tell is spread to the block: over lists and numbers alone; no conditions. -/
import Derived.Test.YthjpdcbcgagbjaaScanP
set_option linter.unusedVariables false
set_option linter.unusedSimpArgs false
namespace Go.Proofs.Ythjpdcbcgagbjaa

/-- The number at the k-th place of the order. -/
def ordv (b : List Int) (k : Nat) : Int := el b (el orderL k).toNat
theorem ord_len : orderL.length = 64 := by rw [orderL_eq]; rfl
theorem ord_lt (k : Nat) (h : k < 64) : (el orderL k).toNat < 64 ∧ 0 ≤ el orderL k := by
  have : ∀ k : Fin 64, (el orderL k.1).toNat < 64 ∧ 0 ≤ el orderL k.1 := by rw [orderL_eq]; decide +kernel
  exact this ⟨k, h⟩
theorem ord_inj (j k : Nat) (hj : j < 64) (hk : k < 64) (h : (el orderL j).toNat = (el orderL k).toNat) : j = k := by
  have : ∀ j k : Fin 64, (el orderL j.1).toNat = (el orderL k.1).toNat → j.1 = k.1 := by rw [orderL_eq]; decide +kernel
  exact this ⟨j, hj⟩ ⟨k, hk⟩ h
theorem ord_onto (p : Nat) (h : p < 64) : ∃ k, k < 64 ∧ (el orderL k).toNat = p := by
  have : ∀ p : Fin 64, ∃ k : Fin 64, (el orderL k.1).toNat = p.1 := by rw [orderL_eq]; decide +kernel
  obtain ⟨k, hk⟩ := this ⟨p, h⟩
  exact ⟨k.1, k.2, hk⟩
theorem ordv_set (b : List Int) (k j : Nat) (v : Int) (hb : b.length = 64) (hk : k < 64) (hj : j < 64) : ordv (b.set (el orderL k).toNat v) j = if k = j then v else ordv b j := by
  unfold ordv
  rw [el_set]
  have h1 := ord_lt k hk
  by_cases h : k = j
  · subst h
    rw [if_pos ⟨rfl, by omega⟩, if_pos rfl]
  · rw [if_neg h, if_neg]
    rintro ⟨h2, _⟩
    exact h (ord_inj _ _ hk hj h2)
theorem ordv_zeros (k : Nat) : ordv zeros k = 0 := by unfold ordv zeros; exact el_replicate _ _
theorem ordv_ext {a b : List Int} (ha : a.length = 64) (hb : b.length = 64) (h : ∀ k, k < 64 → ordv a k = ordv b k) : a = b := by
  refine list_ext (by omega) (fun p hp => ?_)
  obtain ⟨k, hk, rfl⟩ := ord_onto p (by omega)
  exact h k hk
theorem go_step (l : List Int) (k : Nat) (hk : k < 64) (run : Int) (out : List (Int × Int)) :
    runsGo l (orderL.drop k) run out = if ordv l k = 0 then runsGo l (orderL.drop (k + 1)) (run + 1) out else runsGo l (orderL.drop (k + 1)) 0 (out ++ [(run, ordv l k)]) := by
  rw [List.drop_eq_getElem_cons (by rw [ord_len]; exact hk), runsGo, ← el_lt (by rw [ord_len]; exact hk)]
  rfl
theorem go_end (l : List Int) (run : Int) (out : List (Int × Int)) : runsGo l (orderL.drop 64) run out = out := by
  rw [List.drop_of_length_le (by rw [ord_len]; omega)]
  rfl
theorem go_noughts (l : List Int) : ∀ (n k : Nat) (run : Int) (out : List (Int × Int)), k + n ≤ 64 → (∀ j, k ≤ j → j < k + n → ordv l j = 0) → runsGo l (orderL.drop k) run out = runsGo l (orderL.drop (k + n)) (run + n) out
  | 0, k, run, out, _, _ => by simp
  | n + 1, k, run, out, h, h0 => by
    rw [go_step l k (by omega), if_pos (h0 k (Nat.le_refl _) (by omega)), go_noughts l n (k + 1) _ _ (by omega) (fun j h1 h2 => h0 j (by omega) (by omega))]
    rw [show k + 1 + n = k + (n + 1) by omega, show run + 1 + (n : Int) = run + ((n + 1 : Nat) : Int) by omega]

/-- Whatever is spread without an error is a block of levels and noughts, and told by runs as it was. -/
theorem spread_back : ∀ (l : List (Int × Int)) (at_ : Nat) (out b : List Int) (acc : List (Int × Int)), at_ ≤ 64 → out.length = 64 → (∀ k, at_ ≤ k → k < 64 → ordv out k = 0) → (∀ k, k < 64 → -127 ≤ ordv out k ∧ ordv out k ≤ 127) →
    spreadGo l at_ out = (b, 0) → b.length = 64 ∧ (∀ k, k < at_ → ordv b k = ordv out k) ∧ (∀ k, k < 64 → -127 ≤ ordv b k ∧ ordv b k ≤ 127) ∧ runsGo b (orderL.drop at_) 0 acc = acc ++ l
  | [], at_, out, b, acc, ha, hl, h0, hok, h => by
    simp only [spreadGo, Prod.mk.injEq, and_true] at h
    subst h
    refine ⟨hl, fun _ _ => rfl, hok, ?_⟩
    rw [go_noughts out (64 - at_) at_ 0 acc (by omega) (fun j h1 h2 => h0 j h1 (by omega)), show at_ + (64 - at_) = 64 by omega, go_end, List.append_nil]
  | (r, v) :: t, at_, out, b, acc, ha, hl, h0, hok, h => by
    rw [spreadGo] at h
    split at h
    · simp at h
    rename_i hv
    split at h
    · simp at h
    rename_i hr
    simp only [not_or, Int.not_lt] at hv hr
    obtain ⟨n, rfl⟩ : ∃ n : Nat, r = (n : Int) := ⟨r.toNat, by omega⟩
    rw [show ((at_ : Int) + (n : Int) + 1) = ((at_ + n + 1 : Nat) : Int) by omega, show ((at_ : Int) + (n : Int)).toNat = at_ + n by omega] at h
    have hs := ordv_set out (at_ + n) (v := v)
    obtain ⟨h1, h2, h3, h4⟩ := spread_back t (at_ + n + 1) _ b (acc ++ [((n : Int), v)]) (by omega) (by rw [List.length_set]; exact hl)
      (fun k hk hk2 => by rw [hs k hl (by omega) hk2, if_neg (by omega)]; exact h0 k (by omega) hk2)
      (fun k hk => by
        rw [hs k hl (by omega) hk]
        split
        · omega
        · exact hok k hk) h
    have hbv : ordv b (at_ + n) = v := by rw [h2 _ (by omega), hs _ hl (by omega) (by omega), if_pos rfl]
    refine ⟨h1, fun k hk => by rw [h2 k (by omega), hs k hl (by omega) (by omega), if_neg (by omega)], h3, ?_⟩
    rw [go_noughts b n at_ 0 acc (by omega) (fun j hj1 hj2 => by rw [h2 j (by omega), hs j hl (by omega) (by omega), if_neg (by omega)]; exact h0 j hj1 (by omega)),
      go_step b (at_ + n) (by omega), hbv, if_neg hv.1, Int.zero_add, h4, List.append_assoc]
    rfl

theorem go_acc (l : List Int) : ∀ (ps : List Int) (run : Int) (acc : List (Int × Int)), runsGo l ps run acc = acc ++ runsGo l ps run []
  | [], run, acc => by simp [runsGo]
  | p :: t, run, acc => by
    rw [runsGo, runsGo]
    split
    · exact go_acc l t _ acc
    · rw [go_acc l t 0 (acc ++ _), go_acc l t 0 ([] ++ _)]
      simp
theorem go_len (l : List Int) : ∀ (ps : List Int) (run : Int) (acc : List (Int × Int)), (runsGo l ps run acc).length ≤ acc.length + ps.length
  | [], run, acc => by simp [runsGo]
  | p :: t, run, acc => by
    rw [runsGo]
    split
    · have := go_len l t (run + 1) acc
      simp
      omega
    · have := go_len l t 0 (acc ++ [(run, el l p.toNat)])
      simp at this ⊢
      omega

/-- A block's runs are spread to it. -/
theorem runs_back (c : List Int) (hc : c.length = 64) (hok : ∀ k, k < 64 → -127 ≤ ordv c k ∧ ordv c k ≤ 127) : ∀ (d k r : Nat) (out : List Int), d = 64 - k → k ≤ 64 → r ≤ k → out.length = 64 → (∀ j, j < k - r → ordv out j = ordv c j) →
    (∀ j, k - r ≤ j → j < 64 → ordv out j = 0) → (∀ j, k - r ≤ j → j < k → ordv c j = 0) → spreadGo (runsGo c (orderL.drop k) r []) ((k - r : Nat) : Int) out = (c, 0)
  | 0, k, r, out, hd, hk, hr, hl, h1, h2, h3 => by
    obtain rfl : k = 64 := by omega
    rw [go_end, spreadGo, ordv_ext hl hc]
    intro j hj
    by_cases h : j < 64 - r
    · exact h1 j h
    · rw [h2 j (by omega) hj, h3 j (by omega) hj]
  | d + 1, k, r, out, hd, hk, hr, hl, h1, h2, h3 => by
    rw [go_step c k (by omega)]
    by_cases hz : ordv c k = 0
    · rw [if_pos hz]
      have := runs_back c hc hok d (k + 1) (r + 1) out (by omega) (by omega) (by omega) hl (fun j hj => h1 j (by omega)) (fun j hj hj2 => h2 j (by omega) hj2) (fun j hj hj2 => by
        by_cases h : j = k
        · rw [h]; exact hz
        · exact h3 j (by omega) (by omega))
      rw [show k + 1 - (r + 1) = k - r by omega] at this
      exact this
    · rw [if_neg hz, go_acc]
      have hb := hok k (by omega)
      show spreadGo ((((r : Int), ordv c k)) :: runsGo c (orderL.drop (k + 1)) 0 []) _ out = _
      rw [spreadGo, if_neg (by simp only [not_or]; exact ⟨hz, by omega, by omega⟩), if_neg (by simp only [not_or]; omega)]
      show spreadGo _ (((k - r : Nat) : Int) + (r : Int) + 1) (out.set (el orderL ((((k - r : Nat) : Int) + (r : Int)).toNat)).toNat (ordv c k)) = _
      rw [show (((k - r : Nat) : Int) + (r : Int) + 1) = ((k + 1 - 0 : Nat) : Int) by omega, show (((k - r : Nat) : Int) + (r : Int)).toNat = k by omega]
      have hs := ordv_set out k (v := ordv c k)
      refine runs_back c hc hok d (k + 1) 0 _ (by omega) (by omega) (by omega) (by rw [List.length_set]; exact hl) (fun j hj => ?_) (fun j hj hj2 => ?_) (fun j hj hj2 => by omega)
      · rw [hs j hl (by omega) (by omega)]
        by_cases h : k = j
        · rw [if_pos h, h]
        · rw [if_neg h]
          by_cases h' : j < k - r
          · exact h1 j h'
          · rw [h2 j (by omega) (by omega), h3 j (by omega) (by omega)]
      · rw [hs j hl (by omega) hj2, if_neg (by omega)]
        exact h2 j (by omega) hj2

/-- Pairs from the second place on are as those from the first one on behind a nought. -/
theorem spread_starts (r v : Int) (t : List (Int × Int)) (out : List Int) (h : 0 ≤ r) : spreadGo ((r + 1, v) :: t) 0 out = spreadGo ((r, v) :: t) 1 out := by
  rw [spreadGo, spreadGo]
  show (if _ then _ else if (r + 1 < 0 ∨ 63 - 0 < r + 1) then ([], 11) else spreadGo t (0 + (r + 1) + 1) (out.set (el orderL (0 + (r + 1)).toNat).toNat v)) = if _ then _ else if (r < 0 ∨ 63 - 1 < r) then ([], 11) else spreadGo t (1 + r + 1) (out.set (el orderL (1 + r).toNat).toNat v)
  rw [show 0 + (r + 1) = 1 + r by omega]
  by_cases h1 : 62 < r
  · rw [if_pos (show r + 1 < 0 ∨ 63 - 0 < r + 1 by omega), if_pos (show r < 0 ∨ 63 - 1 < r by omega)]
  · rw [if_neg (show ¬ (r + 1 < 0 ∨ 63 - 0 < r + 1) by omega), if_neg (show ¬ (r < 0 ∨ 63 - 1 < r) by omega)]
theorem spread_far (r v : Int) (t : List (Int × Int)) (out : List Int) (h : r < 0 ∨ 100 < r) : (spreadGo ((r, v) :: t) 1 out).2 ≠ 0 := by
  rw [spreadGo]
  split
  · simp
  · rw [if_pos (show r < 0 ∨ 63 - 1 < r by omega)]
    simp
theorem spread_err : ∀ (l : List (Int × Int)) (at_ : Int) (out : List Int), out.length = 64 → ((spreadGo l at_ out).2 = 0 → (spreadGo l at_ out).1.length = 64) ∧ ((spreadGo l at_ out).2 ≠ 0 → (spreadGo l at_ out).1 = [])
  | [], at_, out, h => by simp [spreadGo, h]
  | p :: t, at_, out, h => by
    rw [spreadGo]
    split
    · simp
    · split
      · simp
      · exact spread_err t _ _ (by simpa using h)

/-- The order's own law: each place once, by diagonals, to and fro. -/
theorem order_law (i k : Nat) (hi : i < 64) (hk : k < 64) : (el orderL i = el orderL k ↔ i = k) ∧
    (i < k → ¬ (el orderL k % 8 + el orderL k / 8 < el orderL i % 8 + el orderL i / 8)) ∧
    (i < k → el orderL i % 8 + el orderL i / 8 = el orderL k % 8 + el orderL k / 8 → (el orderL k / 8 < el orderL i / 8 ↔ (el orderL i % 8 + el orderL i / 8) % 2 = 0)) := by
  have : ∀ i k : Fin 64, (el orderL i.1 = el orderL k.1 ↔ i.1 = k.1) ∧
    (i.1 < k.1 → ¬ (el orderL k.1 % 8 + el orderL k.1 / 8 < el orderL i.1 % 8 + el orderL i.1 / 8)) ∧
    (i.1 < k.1 → el orderL i.1 % 8 + el orderL i.1 / 8 = el orderL k.1 % 8 + el orderL k.1 / 8 → (el orderL k.1 / 8 < el orderL i.1 / 8 ↔ (el orderL i.1 % 8 + el orderL i.1 / 8) % 2 = 0)) := by
    rw [orderL_eq]; decide +kernel
  exact this ⟨i, hi⟩ ⟨k, hk⟩
end Go.Proofs.Ythjpdcbcgagbjaa
