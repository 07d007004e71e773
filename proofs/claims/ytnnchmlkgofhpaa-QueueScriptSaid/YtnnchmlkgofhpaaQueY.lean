/- A queue beside the reference's: what both answer to Feed, Skip and End; no conditions but the bounds that they name. -/
import Derived.Test.YtnnchmlkgofhpaaQueX
import Derived.Test.YtnnchmlkgofhpaaKfKeptBytes
set_option linter.unusedVariables false
set_option linter.unusedSimpArgs false
namespace Go.Proofs.Ytnnchmlkgofhpaa
open Go.RowKit

theorem feed_both (M : Nat) (s : Qs) (all : List Int) (rd : Nat) (EV : Bool) (b g r pl : Nat) (pb : List Int) (hlen : pb.length = pl) (hby : bytes pb) (hbe : Beside s all rd) (hM : s.most = M) (he : s.ended = EV) (hpl : all.length + pl ≤ 100000) :
    ∃ (kv oe : Int) (s' : Qs) (all' : List Int), Beside s' all' rd ∧ s'.ended = EV ∧ s'.most = M ∧ all'.length ≤ all.length + pl ∧
      (∀ W A c, Que W b g s → (∀ W', Mod (fun i => i = b ∨ i = g) W W' → Rd W' A (nums .u8 pb)) →
        Calls Try.prog 11 #[.pointer (some ⟨b, 0, none⟩), .slice A pl c] W fun e w' => e = .returned (.tuple #[.int .i64 kv, .int .i64 oe]) ∧ Que w' b g s' ∧ Mod (fun i => i = b ∨ i = g) W w') ∧
      (∀ W A c gg, RQueF W r ⟨M, all, rd, EV⟩ gg → gg < W.heap.size → pl ≤ c → Rd W A (nums .u8 pb) →
        Calls Try.prog 26 #[.pointer (some ⟨r, 0, none⟩), .slice A pl c] W fun e w' => e = .returned (.tuple #[.int .i64 kv, .int .i64 oe]) ∧ RQueF w' r ⟨M, all', rd, EV⟩ gg ∧ Mod (fun i => r ≤ i ∧ i ≠ gg) W w') := by
  cases EV with
  | true =>
    exact ⟨0, 20, s, all, hbe, he, hM, by omega,
      fun W A c hq _ => (feed_done W b g s hq he A pl c).mono fun e w' ⟨h1, h2⟩ => ⟨h1, by rw [h2]; exact hq, by rw [h2]; exact Mod.refl _ _⟩,
      fun W A c gg hq _ _ _ => (refFeed_done W r _ hq.near rfl A pl c).mono fun e w' ⟨h1, h2⟩ => ⟨h1, by rw [h2]; exact hq, by rw [h2]; exact Mod.refl _ _⟩⟩
  | false =>
    obtain ⟨K, hK⟩ : ∃ K, K = min pl (s.most - s.data.length) := ⟨_, rfl⟩
    have hKl : K ≤ pl := by omega
    refine ⟨(K : Int), 0, fedQ s pb K, all ++ pb.take K, hbe.fed pb K (by omega), he, hM, by rw [List.length_append, List.length_take]; omega, fun W A c hq hr => ?_, fun W A c gg hq hg hc hr => ?_⟩
    · have h := feed_ok W b g s hq he A pl c pb hlen (by simp [maxLen]; omega) hr hby (by have := hbe.came; omega)
      rw [← hK] at h
      exact h
    · exact refFeed_ok W r ⟨M, all, rd, false⟩ gg hq hg rfl A pl c pb hlen hc hpl hr hby K (by rw [hK, hM, hbe.len])

theorem skip_both (M : Nat) (s : Qs) (all : List Int) (rd : Nat) (EV : Bool) (b g r : Nat) (n : Int) (hbe : Beside s all rd) (hM : s.most = M) (he : s.ended = EV) (hall : all.length ≤ 100000) :
    ∃ (oe : Int) (s' : Qs) (rd' : Nat), Beside s' all rd' ∧ s'.ended = EV ∧ s'.most = M ∧
      (∀ W, Que W b g s → Calls Try.prog 13 #[.pointer (some ⟨b, 0, none⟩), .int .i64 n] W fun e w' => e = .returned (.int .i64 oe) ∧ Que w' b g s' ∧ Mod (fun i => i = b ∨ i = g) W w') ∧
      (∀ W, RQue W r ⟨M, all, rd, EV⟩ → Calls Try.prog 29 #[.pointer (some ⟨r, 0, none⟩), .int .i64 n] W fun e w' => e = .returned (.int .i64 oe) ∧ RQue w' r ⟨M, all, rd', EV⟩ ∧ Mod (fun i => r ≤ i) W w') := by
  have h1 := hbe.len
  have h2 := hbe.place
  have h3 := hbe.le
  have h4 := hbe.gone
  by_cases hn : n < 0 ∨ 8 * (all.length : Int) - rd < n
  · refine ⟨3, s, rd, hbe, he, hM, fun W hq => ?_, fun W hq => ?_⟩
    · exact (skip_no W b g s hq n (by omega)).mono fun e w' ⟨h1, m, h2⟩ => ⟨h1, by rw [h2]; exact hq.below (below_drewN (Below.refl _ _) m), by rw [h2]; exact (Mod.refl _ _).drewN m⟩
    · exact (refSkip_no W r _ hq n hn).mono fun e w' ⟨h1, h2⟩ => ⟨h1, hq.below h2, Mod.of_below h2⟩
  · obtain ⟨N, rfl⟩ : ∃ N : Nat, n = N := ⟨n.toNat, by omega⟩
    refine ⟨0, skipQ s N, rd + N, hbe.skip N (by omega), he, hM, fun W hq => ?_, fun W hq => ?_⟩
    · exact (skip_ok W b g s hq N (by omega) (by omega)).mono fun e w' ⟨h1, h2, h3⟩ => ⟨h1, h2, h3.mono (fun i _ h => .inl h)⟩
    · exact refSkip_ok W r ⟨M, all, rd, EV⟩ hq N (by show rd + N ≤ 8 * all.length; omega)

theorem end_both (M : Nat) (s : Qs) (all : List Int) (rd : Nat) (EV : Bool) (b g r : Nat) (hbe : Beside s all rd) (hM : s.most = M) (he : s.ended = EV) :
    ∃ (oe : Int) (s' : Qs) (EV' : Bool), Beside s' all rd ∧ s'.ended = EV' ∧ s'.most = M ∧
      (∀ W, Que W b g s → Calls Try.prog 20 #[.pointer (some ⟨b, 0, none⟩)] W fun e w' => e = .returned (.int .i64 oe) ∧ Que w' b g s' ∧ Mod (fun i => i = b ∨ i = g) W w') ∧
      (∀ W, RQue W r ⟨M, all, rd, EV⟩ → Calls Try.prog 30 #[.pointer (some ⟨r, 0, none⟩)] W fun e w' => e = .returned (.int .i64 oe) ∧ RQue w' r ⟨M, all, rd, EV'⟩ ∧ Mod (fun i => r ≤ i) W w') := by
  cases EV with
  | true =>
    exact ⟨20, s, true, hbe, he, hM,
      fun W hq => (end_done W b g s hq he).mono fun e w' ⟨h1, h2⟩ => ⟨h1, by rw [h2]; exact hq, by rw [h2]; exact Mod.refl _ _⟩,
      fun W hq => (refEnd_done W r _ hq rfl).mono fun e w' ⟨h1, h2⟩ => ⟨h1, by rw [h2]; exact hq, by rw [h2]; exact Mod.refl _ _⟩⟩
  | false =>
    exact ⟨0, { s with ended := true }, true, ⟨hbe.data, hbe.place, hbe.came, hbe.gone, hbe.le⟩, rfl, hM,
      fun W hq => (end_ok W b g s hq he).mono fun e w' ⟨h1, h2, h3⟩ => ⟨h1, h2, h3.mono (fun i _ h => .inl h)⟩,
      fun W hq => refEnd_ok W r _ hq rfl⟩
end Go.Proofs.Ytnnchmlkgofhpaa
