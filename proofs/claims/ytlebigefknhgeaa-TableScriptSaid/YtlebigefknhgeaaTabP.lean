/- How many sessions are live, over lists alone: behind an opening, behind an ending; no conditions. -/
import Derived.Test.YtlebigefknhgeaaTabE
set_option linter.unusedVariables false
set_option linter.unusedSimpArgs false
namespace Go.Proofs.Ytlebigefknhgeaa

def lives (cs : List Int) : Nat := (liveL cs).length
theorem liveK_same {cs ds : List Int} : ∀ (k : Nat), (∀ i, i < k → (el cs i = 0 ↔ el ds i = 0)) → liveK cs k = liveK ds k
  | 0, _ => rfl
  | k + 1, h => by
    rw [liveK, liveK, liveK_same k (fun i hi => h i (by omega))]
    have hk := h k (by omega)
    by_cases h0 : el cs k = 0
    · rw [if_pos h0, if_pos (hk.1 h0)]
    · rw [if_neg h0, if_neg (fun e => h0 (hk.2 e))]
theorem lives_push (cs : List Int) : lives (cs ++ [0]) = lives cs + 1 := by
  unfold lives liveL
  rw [List.length_append, List.length_singleton, liveK]
  have e : el (cs ++ [0]) cs.length = 0 := by rw [el_append, if_neg (by omega), Nat.sub_self]; rfl
  rw [if_pos e, liveK_same (ds := cs) cs.length (fun i hi => by rw [el_append, if_pos hi]), List.length_append]
  rfl
theorem liveK_set (cs : List Int) (i : Nat) (c : Int) (hi : i < cs.length) (h0 : el cs i = 0) (hc : c ≠ 0) : ∀ k, (liveK (cs.set i c) k).length + (if i < k then 1 else 0) = (liveK cs k).length
  | 0 => by simp [liveK]
  | k + 1 => by
    have ih := liveK_set cs i c hi h0 hc k
    have e1 : liveK (cs.set i c) (k + 1) = if el (cs.set i c) k = 0 then liveK (cs.set i c) k ++ [(k : Int) + 1] else liveK (cs.set i c) k := rfl
    have e2 : liveK cs (k + 1) = if el cs k = 0 then liveK cs k ++ [(k : Int) + 1] else liveK cs k := rfl
    by_cases hk : i = k
    · subst hk
      have e3 : el (cs.set i c) i = c := by rw [el_set, if_pos ⟨rfl, hi⟩]
      rw [e1, e2, e3, if_neg hc, if_pos h0, List.length_append, if_pos (by omega)]
      rw [if_neg (by omega)] at ih
      simp
      omega
    · have e3 : el (cs.set i c) k = el cs k := by rw [el_set, if_neg (fun h => hk h.1)]
      rw [e1, e2, e3]
      have e4 : (if i < k + 1 then 1 else 0) = (if i < k then 1 else 0) := by
        by_cases h1 : i < k
        · rw [if_pos h1, if_pos (by omega)]
        · rw [if_neg h1, if_neg (by omega)]
      rw [e4]
      by_cases h5 : el cs k = 0
      · rw [if_pos h5, if_pos h5, List.length_append, List.length_append]
        simp only [List.length_singleton]
        omega
      · rw [if_neg h5, if_neg h5]
        exact ih
theorem lives_set (cs : List Int) (i : Nat) (c : Int) (hi : i < cs.length) (h0 : el cs i = 0) (hc : c ≠ 0) : lives (cs.set i c) + 1 = lives cs := by
  have := liveK_set cs i c hi h0 hc cs.length
  rw [if_pos hi] at this
  unfold lives liveL
  rw [List.length_set]
  exact this
theorem lives_le (cs : List Int) : lives cs ≤ cs.length := liveK_len _ _
theorem lives_noughts : ∀ k, lives (List.replicate k 0) = k
  | 0 => rfl
  | k + 1 => by
    rw [List.replicate_succ', lives_push, lives_noughts k]
/-- The next live session's number stands at its place. -/
theorem liveL_at (cs : List Int) (k : Nat) (hk : k < cs.length) (h0 : el cs k = 0) : (liveK cs k).length < (liveL cs).length ∧ el (liveL cs) (liveK cs k).length = (k : Int) + 1 := by
  refine ⟨liveK_lt cs k hk h0, ?_⟩
  have h1 := liveK_prefix cs (k + 1) (cs.length - (k + 1))
  rw [show k + 1 + (cs.length - (k + 1)) = cs.length by omega, liveK, if_pos h0] at h1
  obtain ⟨t, ht⟩ := h1
  unfold liveL
  rw [← ht, el_append, if_pos (by simp), el_append, if_neg (by omega), Nat.sub_self]
  rfl

/-- Behind Open. -/
theorem openT_ok {s : Ts} (h : lives s.causes < s.most) : openT s = ({ s with causes := s.causes ++ [0] }, (s.causes.length : Int) + 1, 0) := by
  unfold openT
  rw [if_neg (by unfold lives at h; omega)]
theorem openT_full {s : Ts} (h : lives s.causes = s.most) : openT s = (s, 0, 15) := by
  unfold openT
  rw [if_pos (by unfold lives at h; exact h)]
theorem endT_cases (s : Ts) (id c : Int) :
    (c = 0 ∧ endT s id c = (s, 2)) ∨ (c ≠ 0 ∧ ¬ (1 ≤ id ∧ id ≤ s.causes.length) ∧ endT s id c = (s, 18)) ∨
    (c ≠ 0 ∧ (1 ≤ id ∧ id ≤ s.causes.length) ∧ causeAt s.causes id ≠ 0 ∧ endT s id c = (s, 19)) ∨
    (c ≠ 0 ∧ (1 ≤ id ∧ id ≤ s.causes.length) ∧ causeAt s.causes id = 0 ∧ endT s id c = ({ s with causes := s.causes.set (id - 1).toNat c }, 0)) := by
  unfold endT
  by_cases h0 : c = 0
  · exact .inl ⟨h0, by rw [if_pos h0]⟩
  · right
    by_cases h1 : 1 ≤ id ∧ id ≤ s.causes.length
    · right
      by_cases h2 : causeAt s.causes id = 0
      · exact .inr ⟨h0, h1, h2, by rw [if_neg h0, if_pos h1, if_pos h2]⟩
      · exact .inl ⟨h0, h1, h2, by rw [if_neg h0, if_pos h1, if_neg h2]⟩
    · exact .inl ⟨h0, h1, by rw [if_neg h0, if_neg h1]⟩
theorem causeAt_in {cs : List Int} {id : Int} (h : 1 ≤ id ∧ id ≤ cs.length) : causeAt cs id = el cs (id - 1).toNat := by
  unfold causeAt
  rw [if_pos h]
end Go.Proofs.Ytlebigefknhgeaa
