/- The walk of queue's Feed: bytes are put behind all, as many as there is room for; no conditions but the bounds that it names. -/
import Derived.Test.YtnnchmlkgofhpaaQueA
import Derived.Test.YtnnchmlkgofhpaaMn
import Derived.BigRegion
set_option linter.unusedVariables false
set_option linter.unusedSimpArgs false
namespace Go.Proofs.Ytnnchmlkgofhpaa
open Go.RowKit

set_option maxHeartbeats 1000000 in
theorem feed_done (w : World) (b r : Nat) (s : Qs) (h : Que w b r s) (he : s.ended = true) (A : Option Addr) (n c : Nat) :
    Calls Try.prog 11 #[.pointer (some ⟨b, 0, none⟩), .slice A n c] w fun e w' => e = .returned (.tuple #[.int .i64 0, .int .i64 20]) ∧ w' = w := by
  have h5 := h.c5
  rw [he] at h5
  have H := Lib.hid h
  clear h he
  go_enter Try.func11, Try.ntmps11
  go_wp2_with (go_at_call 33; refine (none_no _ b r s H.out).mono ?_; rintro e w1 ⟨rfl, rfl⟩)
  go_ret2
  exact ⟨rfl, rfl⟩

/-- What is in the ring when k bytes were put. -/
def Ring (w : World) (r : Nat) (s : Qs) (l : List Int) (k : Nat) : Prop :=
  ∃ ring : List Int, Blk w r 5 (nums .u8 ring) ∧ ring.length = s.most ∧ ∀ i, i < s.data.length + k → el ring ((s.first + i) % s.most) = el (s.data ++ l) i
theorem wrapM (x m : Nat) (h : x < 2 * m) : x % m = if x < m then x else x - m := by
  by_cases h1 : x < m
  · rw [if_pos h1, Nat.mod_eq_of_lt h1]
  · rw [if_neg h1, Nat.mod_eq_sub_mod (by omega), Nat.mod_eq_of_lt (by omega)]
theorem ring_set {wr : World} {r : Nat} {s : Qs} {l : List Int} {k j K : Nat} {ring : List Int} (hj : j = (s.first + s.data.length + k) % s.most) (h1 : Blk wr r 5 (nums .u8 ring)) (h2 : ring.length = s.most)
    (h3 : ∀ i, i < s.data.length + k → el ring ((s.first + i) % s.most) = el (s.data ++ l) i) (hf : s.first < s.most) (hlt : k < K) (hK : s.data.length + K ≤ s.most) :
    Hid (Ring (wr.setCell ⟨r, j, none⟩ (.int .u8 (el l k))).drew r s l (k + 1)) := by
  rw [Nat.add_assoc] at hj
  refine Lib.hid ⟨ring.set j (el l k), ?_, by rw [List.length_set]; exact h2, fun i hi => ?_⟩
  · rw [← nums_set]; exact (h1.set j _).drew
  · rw [el_set, hj, h2, wrapM _ _ (by omega), wrapM _ _ (by omega)]
    by_cases h : i = s.data.length + k
    · subst h
      rw [if_pos ⟨rfl, by split <;> omega⟩, el_append, if_neg (by omega), Nat.add_sub_cancel_left]
    · rw [if_neg (by rintro ⟨h4, _⟩; revert h4; split <;> split <;> omega)]
      have := h3 i (by omega)
      rw [wrapM _ _ (by omega)] at this
      exact this
def fedQ (s : Qs) (l : List Int) (k : Nat) : Qs := { s with data := s.data ++ l.take k, came := s.came + k }
attribute [local go_sem] min_nat

set_option maxHeartbeats 4000000 in
set_option maxRecDepth 100000 in
theorem feed_ok (w : World) (b r : Nat) (s : Qs) (h : Que w b r s) (he : s.ended = false) (A : Option Addr) (n c : Nat) (l : List Int) (hn : l.length = n) (hm : n ≤ maxLen) (hrd : ∀ W, Mod (fun i => i = b ∨ i = r) w W → Rd W A (nums .u8 l)) (hb : bytes l) (hc : s.came + n ≤ 1000000000000) :
    Calls Try.prog 11 #[.pointer (some ⟨b, 0, none⟩), .slice A n c] w fun e w' =>
      e = .returned (.tuple #[.int .i64 (min n (s.most - s.data.length) : Nat), .int .i64 0]) ∧ Que w' b r (fedQ s l (min n (s.most - s.data.length))) ∧ Mod (fun i => i = b ∨ i = r) w w' := by
  unfold maxLen at hm
  have h5 := h.c5
  rw [he] at h5
  have H := Lib.hid h
  have h0 := h.c0
  have h1 := h.c1
  have hl := h.ok.len
  have hm2 := h.ok.m2
  have HRD := Lib.hid hrd
  have HN := Lib.hid hn
  have HB := Lib.hid hb
  have HC := Lib.hid hc
  clear h he hrd hn hb hc
  go_enter Try.func11, Try.ntmps11
  go_wp2_with (first | (go_at_call 33; refine (none_no _ b r s H.out).mono ?_; rintro e w1 ⟨rfl, rfl⟩) | (go_at_call 34; refine (free_ok _ _ _ hm2 hl).mono ?_; rintro e w2 ⟨rfl, hb2⟩))
  obtain ⟨K, hK⟩ : ∃ K : Nat, K = min n (s.most - s.data.length) := ⟨_, rfl⟩
  rw [← hK] at ⊢
  have hK1 : K ≤ n := by omega
  have hK2 : s.data.length + K ≤ s.most := by omega
  have H2 := Lib.hid (H.out.below hb2)
  have HB2 := Lib.hid hb2
  have HK := Lib.hid hK
  clear hK hb2 h5 h0 h1
  go_loopw [7, 25] (fun _ i wr => ∃ k : Nat, k ≤ K ∧ i = .int .i64 k ∧ Hid (Blk wr b 56 (qcells r s)) ∧ Hid (Ring wr r s l k) ∧ Hid (Mod (fun i => i = b ∨ i = r) w1 wr)) (fun _ i _ => K - (intOf i).toNat)
  case atStart =>
    obtain ⟨k1, ⟨ring, k2, k3, k4⟩, k5, k6⟩ := H2.out
    exact ⟨0, by omega, rfl, Lib.hid k1, Lib.hid ⟨ring, k2, k3, fun i hi => by rw [el_append, if_pos (by omega)]; exact k4 i (by omega)⟩, Lib.hid (Mod.of_below HB2.out)⟩
  case round =>
    obtain ⟨k, hk, rfl, hs, hr, hmod⟩ := hrel
    by_cases hlt : k < K
    · have hd : decide ((k : Int) < K) = true := by simp; omega
      obtain ⟨ring, hr1, hr2, hr3⟩ := hr.out
      have ok := H2.out.ok
      have hm1 := ok.m1
      have hf := ok.first
      obtain ⟨ab, ao, rfl, _, hac⟩ := (HRD.out wr hmod.out).at_ (i := 0) (by rw [nums_length, HN.out]; omega)
      have c0 : wr.drew.cell? ⟨b, 0, none⟩ = some (.int .i64 s.most) := hs.out.cell rfl
      have c1 : wr.drew.cell? ⟨b, 1, none⟩ = some (.int .i64 s.data.length) := hs.out.cell rfl
      have c2 : wr.drew.cell? ⟨b, 2, none⟩ = some (.slice (some ⟨r, 0, none⟩) s.most s.most) := hs.out.cell rfl
      have c3 : wr.drew.cell? ⟨b, 3, none⟩ = some (.int .i64 s.first) := hs.out.cell rfl
      have ca : wr.drew.cell? ⟨ab, ao + k, none⟩ = some (.int .u8 (el l k)) := hac k _ (nums_get (by rw [HN.out]; omega))
      have e1 : IntKind.i64.wrap ((s.first : Int) + s.data.length) = (s.first : Int) + s.data.length := IntWalk.i64_in _ (by omega)
      have e2 : IntKind.i64.wrap ((s.first : Int) + s.data.length + k) = (s.first : Int) + s.data.length + k := IntWalk.i64_in _ (by omega)
      obtain ⟨j, hj⟩ : ∃ j : Nat, j = (s.first + s.data.length + k) % s.most := ⟨_, rfl⟩
      have e3 : ((s.first : Int) + s.data.length + k) % (s.most : Int) = (j : Int) := by rw [hj]; simp
      have hjm : j < s.most := by rw [hj]; exact Nat.mod_lt _ (by omega)
      have e4 : (j : Int) < s.most := by omega
      have hne : ¬ (s.most = 0) := by omega
      have cr : wr.drew.cell? ⟨r, j, none⟩ = some (.int .u8 (el ring j)) := hr1.cell (nums_get (by rw [hr2]; exact hjm))
      have cf : wr.drew.frozen? ⟨r, j, none⟩ = false := hr1.free j
      have HJ := Lib.hid hj
      have HR1 := Lib.hid hr1
      have HR2 := Lib.hid hr2
      have HR3 := Lib.hid hr3
      clear hr hac hr1 hr2 hr3 ok hj
      go_wp2
      go_region
      go_wp2
      go_roundw
      case rel => exact ⟨k + 1, by omega, by go_num, hs.far (Ne.symm (H2.out.2.2.1.symm)) _, ring_set HJ.out HR1.out HR2.out HR3.out hf hlt hK2, Lib.hid ((hmod.out.set (p := ⟨r, j, none⟩) (.inr (.inr rfl)) _).drew)⟩
      case measure => simp [intOf]; omega
    · have hd : decide ((k : Int) < K) = false := by simp; omega
      have hkK : k = K := by omega
      rw [hkK] at hr
      clear hkK
      have c1 : wr.cell? ⟨b, 1, none⟩ = some (.int .i64 s.data.length) := hs.out.cell rfl
      have f1 : wr.frozen? ⟨b, 1, none⟩ = false := hs.out.free 1
      have c6 : wr.cell? ⟨b, 6, none⟩ = some (.int .i64 s.came) := hs.out.cell rfl
      have f6 : wr.frozen? ⟨b, 6, none⟩ = false := hs.out.free 6
      have e1 : IntKind.i64.wrap ((s.data.length : Int) + K) = (s.data.length : Int) + K := IntWalk.i64_in _ (by omega)
      have e2 : IntKind.i64.wrap ((s.came : Int) + K) = (s.came : Int) + K := IntWalk.i64_in _ (by have := HC.out; omega)
      go_wp2
      go_ret2
      rw [← HK.out]
      obtain ⟨ring, hr1, hr2, hr3⟩ := hr.out
      have ok := H2.out.ok
      have hlK : (s.data ++ l.take K).length = s.data.length + K := by rw [List.length_append, List.length_take, HN.out]; omega
      refine ⟨rfl, ⟨?_, ⟨ring, (hr1.far (Ne.symm H2.out.2.2.1) _).far (Ne.symm H2.out.2.2.1) _, hr2, fun i hi => ?_⟩, H2.out.2.2.1, ?_⟩, (hmod.out.set (p := ⟨b, 1, none⟩) (.inr (.inl rfl)) _).set (p := ⟨b, 6, none⟩) (.inr (.inl rfl)) _⟩
      · have h := (hs.out.set 1 (.int .i64 ((s.data.length : Int) + K))).set 6 (.int .i64 ((s.came : Int) + K))
        have e : ((qcells r s).set 1 (.int .i64 ((s.data.length : Int) + K))).set 6 (.int .i64 ((s.came : Int) + K)) = qcells r (fedQ s l K) := by
          simp only [qcells, fedQ, hlK, List.set_cons_succ, List.set_cons_zero]
          simp
        rw [e] at h
        exact h
      · have hi' : i < s.data.length + K := by rw [fedQ, hlK] at hi; exact hi
        have := hr3 i hi'
        rw [fedQ]
        show el ring ((s.first + i) % s.most) = el (s.data ++ l.take K) i
        rw [this, el_append, el_append]
        split
        · rfl
        · rw [el_take _ _ _ (by omega)]
      · refine ⟨ok.m1, ok.m2, by rw [fedQ, hlK]; exact hK2, ok.first, ?_, ok.place, by rw [fedQ, hlK]; have := ok.left; show s.place ≤ _; omega, by show s.came + K ≤ _; have := HC.out; omega, ok.gone⟩
        intro x hx
        rcases List.mem_append.1 hx with hx | hx
        · exact ok.bytes x hx
        · exact HB.out x (List.mem_of_mem_take hx)
end Go.Proofs.Ytnnchmlkgofhpaa
