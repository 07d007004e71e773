/- The walks of the reference's table: New, Live, Open, End, Cause; no conditions but that no more are live than may be. -/
import Derived.Test.YtlebigefknhgeaaTabI
import Derived.Deep.DeepMust
set_option linter.unusedVariables false
set_option linter.unusedSimpArgs false
namespace Go.Proofs.Ytlebigefknhgeaa
open Go.RowKit Go.Maps

/-- Block r is the reference's table; the row of its causes lies behind it. -/
def RTab (w : World) (r : Nat) (s : Ts) : Prop :=
  (∃ v, Blk w r 61 [.int .i64 s.most, v] ∧ Own w (r + 1) 26 v (nums .i64 s.causes)) ∧ (1 ≤ s.most ∧ s.most ≤ 64) ∧ s.causes.length ≤ 1000
theorem RTab.mod {w w' : World} {r : Nat} {s : Ts} (h : RTab w r s) {S : Nat → Prop} (hm : Mod S w w') (hn : ∀ i, r ≤ i → ¬ S i) : RTab w' r s := by
  obtain ⟨⟨v, h1, h2⟩, h3⟩ := h
  exact ⟨⟨v, h1.mod hm (hn r (Nat.le_refl _)), h2.mod hm (fun k hk => hn k (by have := (h2.base k hk).1; omega))⟩, h3⟩
theorem RTab.below {w w' : World} {r : Nat} {s : Ts} (h : RTab w r s) (hm : Below w.heap.size w w') : RTab w' r s := by
  obtain ⟨⟨v, h1, h2⟩, h3⟩ := h
  exact ⟨⟨v, h1.below hm, h2.below hm⟩, h3⟩
theorem RTab.drewN {w : World} {r : Nat} {s : Ts} (h : RTab w r s) (n : Nat) : RTab (w.drewN n) r s := h
theorem RTab.lt {w : World} {r : Nat} {s : Ts} (h : RTab w r s) : r < w.heap.size := by
  obtain ⟨⟨v, h1, h2⟩, h3⟩ := h
  exact h1.lt
/-- Its cells, and its causes. -/
theorem RTab.cells {w : World} {r : Nat} {s : Ts} (h : RTab w r s) : ∃ A c, w.cell? ⟨r, 0, none⟩ = some (.int .i64 s.most) ∧ w.cell? ⟨r, 1, none⟩ = some (.slice A s.causes.length c) ∧ w.frozen? ⟨r, 1, none⟩ = false ∧
    Blk w r 61 [.int .i64 s.most, .slice A s.causes.length c] ∧ Own w (r + 1) 26 (.slice A s.causes.length c) (nums .i64 s.causes) := by
  obtain ⟨⟨v, h1, h2⟩, h3⟩ := h
  obtain ⟨A, c, rfl, _, _, _⟩ := own_nums h2
  exact ⟨A, c, h1.cell rfl, h1.cell rfl, h1.free 1, h1, h2⟩

set_option maxHeartbeats 1000000 in
theorem refNew_no (w : World) (n : Int) (h : n < 1 ∨ 64 < n) :
    Calls Try.prog 18 #[.int .i64 n] w fun e w' => e = .returned (.tuple #[.pointer none, .int .i64 3]) ∧ w' = w := by
  by_cases h1 : n < 1
  · clear h
    go_enter Try.func18, Try.ntmps18
    go_wp2
    go_ret2
    exact ⟨rfl, rfl⟩
  · have h2 : 64 < n := by omega
    clear h
    go_enter Try.func18, Try.ntmps18
    go_wp2
    go_ret2
    exact ⟨rfl, rfl⟩

set_option maxHeartbeats 1000000 in
theorem refNew_ok (w : World) (n : Nat) (h1 : 1 ≤ n) (h2 : n ≤ 64) :
    Calls Try.prog 18 #[.int .i64 n] w fun e w' => (∃ r, e = .returned (.tuple #[.pointer (some ⟨r, 0, none⟩), .int .i64 0]) ∧ w.heap.size ≤ r ∧ RTab w' r (newT n)) ∧ Below w.heap.size w w' := by
  have hi1 : (1 : Int) ≤ n := by omega
  have hi2 : (n : Int) ≤ 64 := by omega
  go_enter Try.func18, Try.ntmps18
  go_wp2
  go_ret2
  exact ⟨⟨w.heap.size, rfl, Nat.le_refl _, ⟨_, Blk.new w 61 [.int .i64 n, .slice none 0 0], Own.nil _ _ _⟩, ⟨h1, h2⟩, by simp [newT]⟩, below_new _ _⟩

set_option maxHeartbeats 2000000 in
theorem refCauseF (w : World) (r : Nat) (s : Ts) (h : RTab w r s) (id : Int) (hid : -9223372036854775808 ≤ id ∧ id ≤ 9223372036854775807) :
    Calls Try.prog 28 #[.pointer (some ⟨r, 0, none⟩), .int .i64 id] w fun e w' => e = .returned (.tuple #[.int .i64 (causeAt s.causes id), .int .i64 (if 1 ≤ id ∧ id ≤ s.causes.length then 0 else 18)]) ∧ w' = w := by
  obtain ⟨A, c, c0, c1, f1, k1, k2⟩ := h.cells
  have hl := h.2.2
  by_cases hin : 1 ≤ id ∧ id ≤ s.causes.length
  · rw [if_pos hin, causeAt_in hin]
    obtain ⟨P, hP⟩ : ∃ P : Nat, id = (P : Int) + 1 := ⟨(id - 1).toNat, by omega⟩
    subst hP
    have hPl : P < s.causes.length := by omega
    rw [show ((P : Int) + 1 - 1).toNat = P by omega]
    obtain ⟨g, rfl, _, cg, _, _⟩ := own_set k2 hPl 0
    have e1 : IntKind.i64.wrap ((P : Int) + 1 - 1) = (P : Int) := by rw [IntWalk.i64_in _ (by omega)]; omega
    have d1 : decide ((P : Int) + 1 < 1) = false := by simp; omega
    have d2 : decide ((s.causes.length : Int) < (P : Int) + 1) = false := by simp; omega
    clear h hin k1 k2
    go_enter Try.func28, Try.ntmps28
    go_wp2
    go_ret2
    exact ⟨rfl, rfl⟩
  · have hc0 : causeAt s.causes id = 0 := by unfold causeAt; rw [if_neg hin]
    rw [if_neg hin, hc0]
    by_cases h1 : id < 1
    · have d1 : decide (id < 1) = true := by rw [decide_eq_true_iff]; exact h1
      clear h hin k1 k2
      go_enter Try.func28, Try.ntmps28
      go_wp2
      go_ret2
      exact ⟨rfl, rfl⟩
    · have d1 : decide (id < 1) = false := by rw [decide_eq_false_iff_not]; exact h1
      have d2 : decide ((s.causes.length : Int) < id) = true := by rw [decide_eq_true_iff]; omega
      clear h hin k1 k2
      go_enter Try.func28, Try.ntmps28
      go_wp2
      go_ret2
      exact ⟨rfl, rfl⟩

set_option maxHeartbeats 2000000 in
theorem refEndF (w : World) (r : Nat) (s : Ts) (h : RTab w r s) (id x : Int) (hid : -9223372036854775808 ≤ id ∧ id ≤ 9223372036854775807) :
    Calls Try.prog 20 #[.pointer (some ⟨r, 0, none⟩), .int .i64 id, .int .i64 x] w fun e w' => e = .returned (.int .i64 (endT s id x).2) ∧ RTab w' r (endT s id x).1 ∧ Mod (fun i => r ≤ i) w w' := by
  obtain ⟨A, c, c0, c1, f1, k1, k2⟩ := h.cells
  have H := Lib.hid h
  have hl := h.2.2
  rcases endT_cases s id x with ⟨h0, he⟩ | ⟨h0, h1, he⟩ | ⟨h0, h1, h2, he⟩ | ⟨h0, h1, h2, he⟩
  · rw [he]
    have hd : (x == 0) = true := by rw [beq_iff_eq]; exact h0
    clear h k1 k2 he h0
    go_enter Try.func20, Try.ntmps20
    go_wp2
    go_ret
    exact ⟨rfl, H.out, Mod.refl _ _⟩
  · rw [he]
    have hd : (x == 0) = false := beq_eq_false_iff_ne.2 h0
    by_cases h3 : id < 1
    · have d1 : decide (id < 1) = true := by rw [decide_eq_true_iff]; exact h3
      clear h k1 k2 he h0 h1
      go_enter Try.func20, Try.ntmps20
      go_wp2
      go_ret
      exact ⟨rfl, H.out, Mod.refl _ _⟩
    · have d1 : decide (id < 1) = false := by rw [decide_eq_false_iff_not]; exact h3
      have d2 : decide ((s.causes.length : Int) < id) = true := by rw [decide_eq_true_iff]; omega
      clear h k1 k2 he h0 h1
      go_enter Try.func20, Try.ntmps20
      go_wp2
      go_ret
      exact ⟨rfl, H.out, Mod.refl _ _⟩
  · rw [he]
    rw [causeAt_in h1] at h2
    have hd : (x == 0) = false := beq_eq_false_iff_ne.2 h0
    obtain ⟨P, hP⟩ : ∃ P : Nat, id = (P : Int) + 1 := ⟨(id - 1).toNat, by omega⟩
    subst hP
    have hPl : P < s.causes.length := by omega
    rw [show ((P : Int) + 1 - 1).toNat = P by omega] at h2
    obtain ⟨g, rfl, _, cg, _, _⟩ := own_set k2 hPl 0
    have e1 : IntKind.i64.wrap ((P : Int) + 1 - 1) = (P : Int) := by rw [IntWalk.i64_in _ (by omega)]; omega
    have d1 : decide ((P : Int) + 1 < 1) = false := by simp; omega
    have d2 : decide ((s.causes.length : Int) < (P : Int) + 1) = false := by simp; omega
    have d3 : (el s.causes P != 0) = true := by rw [bne_iff_ne]; exact h2
    clear h k1 k2 he h0 h1 h2
    go_enter Try.func20, Try.ntmps20
    go_wp2
    go_ret
    exact ⟨rfl, H.out, Mod.refl _ _⟩
  · rw [he]
    rw [causeAt_in h1] at h2
    have hd : (x == 0) = false := beq_eq_false_iff_ne.2 h0
    obtain ⟨P, hP⟩ : ∃ P : Nat, id = (P : Int) + 1 := ⟨(id - 1).toNat, by omega⟩
    subst hP
    have hPl : P < s.causes.length := by omega
    rw [show ((P : Int) + 1 - 1).toNat = P by omega] at h2 ⊢
    obtain ⟨g, rfl, hg, cg, fg, ho⟩ := own_set k2 hPl x
    have e1 : IntKind.i64.wrap ((P : Int) + 1 - 1) = (P : Int) := by rw [IntWalk.i64_in _ (by omega)]; omega
    have d1 : decide ((P : Int) + 1 < 1) = false := by simp; omega
    have d2 : decide ((s.causes.length : Int) < (P : Int) + 1) = false := by simp; omega
    rw [h2] at cg
    have HK := Lib.hid k1
    have HO := Lib.hid ho
    clear h k1 k2 he h0 h1 h2 ho
    go_enter Try.func20, Try.ntmps20
    go_wp2
    go_ret
    refine ⟨rfl, ⟨⟨_, ?_, HO.out⟩, H.out.2.1, by show (s.causes.set P x).length ≤ 1000; rw [List.length_set]; exact hl⟩, (Mod.refl _ _).set (.inr (by show r ≤ g; omega)) _⟩
    exact HK.out.far (a := ⟨g, P, none⟩) (by simp; omega) _

set_option maxHeartbeats 4000000 in
theorem refLiveF (w : World) (r : Nat) (s : Ts) (h : RTab w r s) :
    Calls Try.prog 27 #[.pointer (some ⟨r, 0, none⟩)] w fun e w' => (∃ v, e = .returned v ∧ Own w' w.heap.size 3 v (nums .i64 (liveL s.causes))) ∧ Below w.heap.size w w' := by
  have H := Lib.hid h
  have hl := h.2.2
  clear h
  go_enter Try.func27, Try.ntmps27
  go_wp2
  go_loopw [3, 4] (fun v i wr => ∃ k : Nat, k ≤ s.causes.length ∧ i = .int .i64 k ∧ Hid (Own wr w.heap.size 3 v (nums .i64 (liveK s.causes k))) ∧ Hid (Below w.heap.size w wr)) (fun _ i _ => s.causes.length - (intOf i).toNat)
  case atStart => exact ⟨0, by omega, rfl, Lib.hid (Own.nil _ _ _), Lib.hid (Below.refl _ _)⟩
  case round =>
    obtain ⟨k, hk, rfl, hown, hbel⟩ := hrel
    obtain ⟨A, c, c0, c1, f1, k1, k2⟩ := (H.out.below hbel.out).cells
    by_cases hlt : k < s.causes.length
    · have hd : decide ((k : Int) < s.causes.length) = true := by simp; omega
      obtain ⟨g, rfl, _, cg, _, _⟩ := own_set k2 hlt 0
      have hlk := liveK_len s.causes k
      have hsz := hbel.out.size
      by_cases hz : el s.causes k = 0
      · have hz1 : (el s.causes k == 0) = true := by rw [beq_iff_eq]; exact hz
        have HLK : Hid (nums .i64 (liveK s.causes (k + 1)) = nums .i64 (liveK s.causes k) ++ [.int .i64 ((k : Int) + 1)]) := Lib.hid (by rw [liveK, if_pos hz, nums_append]; rfl)
        rw [hz] at cg
        clear hz k1 k2
        go_wp2_with (
          refine append_one rfl (.tmp 22) (.tmp 25) 36 3 (.int .i64 0) 8 rfl Try.underlying36 t_info rfl w.heap.size _ (.int .i64 ((k : Int) + 1)) (nums .i64 (liveK s.causes k)) rfl rfl rfl hown.out hsz (by rw [nums_length]; simp [maxLen]; omega) (by rw [nums_length]; omega) ?_
          intro v' w1 hown1 hg1
          have HO1 : Hid (Own w1 w.heap.size 3 v' (nums .i64 (liveK s.causes (k + 1)))) := Lib.hid (by rw [HLK.out]; exact hown1)
          have HB1 := Lib.hid (hbel.out.grown hg1 hsz (fun q hq => (hown.out.base q hq).1))
          clear hown1 hg1 hown hbel HLK)
        go_roundw
        case rel => exact ⟨k + 1, by omega, by go_num, HO1, HB1⟩
        case measure => simp [intOf]; omega
      · have hz1 : (el s.causes k == 0) = false := beq_eq_false_iff_ne.2 hz
        have HO1 : Hid (Own wr w.heap.size 3 _ (nums .i64 (liveK s.causes (k + 1)))) := Lib.hid (by rw [liveK, if_neg hz]; exact hown.out)
        clear hz k1 k2
        go_wp2
        go_roundw
        case rel => exact ⟨k + 1, by omega, by go_num, HO1, hbel⟩
        case measure => simp [intOf]; omega
    · have hd : decide ((k : Int) < s.causes.length) = false := by simp; omega
      have HO1 : Hid (Own wr w.heap.size 3 _ (nums .i64 (liveL s.causes))) := Lib.hid (by
        have h1 := hown.out
        have : k = s.causes.length := by omega
        rw [this] at h1
        exact h1)
      clear hown k1 k2
      go_wp2
      go_ret
      exact ⟨⟨_, rfl, HO1.out⟩, hbel.out⟩

set_option maxHeartbeats 4000000 in
theorem refOpenF (w : World) (r : Nat) (s : Ts) (h : RTab w r s) (hl : lives s.causes ≤ s.most) (hc : s.causes.length < 1000) :
    Calls Try.prog 19 #[.pointer (some ⟨r, 0, none⟩)] w fun e w' => e = .returned (.tuple #[.int .i64 (openT s).2.1, .int .i64 (openT s).2.2]) ∧ RTab w' r (openT s).1 ∧ Mod (fun i => r ≤ i) w w' := by
  obtain ⟨A, c, c0, c1, f1, k1, k2⟩ := h.cells
  have H := Lib.hid h
  have hm64 := h.2.1.2
  have HL := Lib.hid (fun W (hW : Below w.heap.size w W) => refLiveF W r s (h.below hW))
  obtain ⟨N, hN⟩ : ∃ N, N = lives s.causes := ⟨_, rfl⟩
  have HN := Lib.hid hN
  obtain ⟨n, hn⟩ : ∃ n, n = s.causes.length := ⟨_, rfl⟩
  have HNN := Lib.hid hn
  rw [← hn] at c1 hc
  obtain ⟨M, hM⟩ : ∃ M, M = s.most := ⟨_, rfl⟩
  have HM := Lib.hid hM
  rw [← hM] at c0 hm64
  have hNM : N ≤ M := by omega
  have d3 : decide ((2147483647 : Int) ≤ n) = false := by simp; omega
  clear h hl hN hn hM k1 k2
  have HSH : Hid (∀ W, Below w.heap.size w W → W.cell? ⟨r, 0, none⟩ = some (.int .i64 M) ∧ W.cell? ⟨r, 1, none⟩ = some (.slice A n c) ∧ Below w.heap.size w W) := Lib.hid fun W hW => ⟨(hW.cell (p := ⟨r, 0, none⟩) H.out.lt).trans c0, (hW.cell (p := ⟨r, 1, none⟩) H.out.lt).trans c1, hW⟩
  obtain ⟨S, hS⟩ : ∃ S : World → Prop, S = fun W => W.cell? ⟨r, 0, none⟩ = some (.int .i64 M) ∧ W.cell? ⟨r, 1, none⟩ = some (.slice A n c) ∧ Below w.heap.size w W := ⟨_, rfl⟩
  have SD : Hid (∀ W, Below w.heap.size w W → S W) := Lib.hid fun W hW => by rw [hS]; exact HSH.out W hW
  have SE : Hid (∀ W, S W → W.cell? ⟨r, 0, none⟩ = some (.int .i64 M) ∧ W.cell? ⟨r, 1, none⟩ = some (.slice A n c) ∧ Below w.heap.size w W) := Lib.hid fun W hW => by rw [hS] at hW; exact hW
  clear hS
  have HB1 : Hid (Below w.heap.size w w.drew) := Lib.hid (below_drewN (Below.refl _ _) 1)
  by_cases hf : N = M
  · have HT : Hid (openT s = (s, 0, 15)) := Lib.hid (openT_full (by rw [← HN.out, ← HM.out]; exact hf))
    rw [HT.out]
    have d1 : decide ((M : Int) ≤ N) = true := by simp; omega
    have d2 : decide (M ≤ N) = true := by simp; omega
    clear HT hf
    go_enter Try.func19, Try.ntmps19
    go_wp2
    refine wp_region_held_drew (S := S) (by kernel_rfl) (SD.out _ HB1.out) (fun hHeld => ?_)
    refine wpAnyH_take (i := 0) (v := .pointer (some ⟨r, 0, none⟩)) rfl (by kernel_rfl) (by kernel_rfl) (by kernel_rfl) (fun _ _ _ h => h) (.inl ⟨rfl, fun W hW => ?_⟩) hHeld ?_
    · obtain ⟨hs0, hs1, _⟩ := SE.out W hW
      go_simp
    try simp only [Act.put, List.getElem_toArray, List.getElem_cons_zero, List.getElem_cons_succ, List.setIfInBounds_toArray, List.set_cons_zero, List.set_cons_succ]
    refine wpAnyH_take (i := 3) (v := .pointer (some ⟨r, 0, none⟩)) rfl (by kernel_rfl) (by kernel_rfl) (by kernel_rfl) (fun _ _ _ h => h) (.inl ⟨rfl, fun W hW => ?_⟩) hHeld ?_
    · obtain ⟨hs0, hs1, _⟩ := SE.out W hW
      go_simp
    try simp only [Act.put, List.getElem_toArray, List.getElem_cons_zero, List.getElem_cons_succ, List.setIfInBounds_toArray, List.set_cons_zero, List.set_cons_succ]
    refine wpAnyH_take (i := 4) (v := .pointer (some ⟨r, 0, none⟩)) rfl (by kernel_rfl) (by kernel_rfl) (by kernel_rfl) (fun _ _ _ h => h) (.inl ⟨rfl, fun W hW => ?_⟩) hHeld ?_
    · obtain ⟨hs0, hs1, _⟩ := SE.out W hW
      go_simp
    try simp only [Act.put, List.getElem_toArray, List.getElem_cons_zero, List.getElem_cons_succ, List.setIfInBounds_toArray, List.set_cons_zero, List.set_cons_succ]
    refine wpAnyH_take (i := 5) (v := .pointer (some ⟨r, 0, none⟩)) rfl (by kernel_rfl) (by kernel_rfl) (by kernel_rfl) (fun _ _ _ h => h) (.inl ⟨rfl, fun W hW => ?_⟩) hHeld ?_
    · obtain ⟨hs0, hs1, _⟩ := SE.out W hW
      go_simp
    try simp only [Act.put, List.getElem_toArray, List.getElem_cons_zero, List.getElem_cons_succ, List.setIfInBounds_toArray, List.set_cons_zero, List.set_cons_succ]
    refine wpAnyH_take (i := 6) (v := .int .i64 M) rfl (by kernel_rfl) (by kernel_rfl) (by kernel_rfl) (fun _ _ _ h => h) (.inl ⟨rfl, fun W hW => ?_⟩) hHeld ?_
    · obtain ⟨hs0, hs1, _⟩ := SE.out W hW
      go_simp
    try simp only [Act.put, List.getElem_toArray, List.getElem_cons_zero, List.getElem_cons_succ, List.setIfInBounds_toArray, List.set_cons_zero, List.set_cons_succ]
    refine wpAnyH_ready (rs := [1]) (by kernel_rfl) (by simp) ?_
    refine AllReadyH.cons (i := 1) rfl (fun K hK => ?_) AllReadyH.nil
    go_simp
    refine (HL.out _ HB1.out).mono ?_
    rintro e w2 ⟨⟨v, rfl, hv⟩, hb2⟩
    obtain ⟨A2, q2, rfl, _, _, _⟩ := own_nums hv
    rw [show (liveL s.causes).length = N from HN.out.symm]
    have HB := Lib.hid (below_then HB1.out hb2)
    clear hv hb2 hHeld
    go_wp2_with fail
    refine hK.out _ _ (SD.out _ HB.out) (fun hHeld => ?_)
    clear hK K
    try simp only [Act.put, List.getElem_toArray, List.getElem_cons_zero, List.getElem_cons_succ, List.setIfInBounds_toArray, List.set_cons_zero, List.set_cons_succ]
    refine wpAnyH_take (i := 2) (v := .int .i64 N) rfl (by kernel_rfl) (by kernel_rfl) (by kernel_rfl) (fun _ _ _ h => h) (.inl ⟨rfl, fun W hW => ?_⟩) hHeld ?_
    · obtain ⟨hs0, hs1, _⟩ := SE.out W hW
      go_simp
    try simp only [Act.put, List.getElem_toArray, List.getElem_cons_zero, List.getElem_cons_succ, List.setIfInBounds_toArray, List.set_cons_zero, List.set_cons_succ]
    refine wpAnyH_take (i := 7) (v := .bool true) rfl (by kernel_rfl) (by kernel_rfl) (by kernel_rfl) (fun _ _ _ h => h) (.inl ⟨rfl, fun W hW => ?_⟩) hHeld ?_
    · obtain ⟨hs0, hs1, _⟩ := SE.out W hW
      go_simp
    try simp only [Act.put, List.getElem_toArray, List.getElem_cons_zero, List.getElem_cons_succ, List.setIfInBounds_toArray, List.set_cons_zero, List.set_cons_succ]
    refine wpAnyH_take (i := 8) (v := .bool true) rfl (by kernel_rfl) (by kernel_rfl) (by kernel_rfl) (fun _ _ _ h => h) (.inl ⟨rfl, fun W hW => ?_⟩) hHeld ?_
    · obtain ⟨hs0, hs1, _⟩ := SE.out W hW
      go_simp
    try simp only [Act.put, List.getElem_toArray, List.getElem_cons_zero, List.getElem_cons_succ, List.setIfInBounds_toArray, List.set_cons_zero, List.set_cons_succ]
    refine wpAnyH_take (i := 9) (v := undef) rfl (by kernel_rfl) (by kernel_rfl) (by kernel_rfl) (fun _ _ _ h => h) (.inr ⟨by kernel_rfl, rfl⟩) hHeld ?_
    try simp only [Act.put, List.getElem_toArray, List.getElem_cons_zero, List.getElem_cons_succ, List.setIfInBounds_toArray, List.set_cons_zero, List.set_cons_succ]
    refine wpAnyH_take (i := 10) (v := undef) rfl (by kernel_rfl) (by kernel_rfl) (by kernel_rfl) (fun _ _ _ h => h) (.inr ⟨by kernel_rfl, rfl⟩) hHeld ?_
    try simp only [Act.put, List.getElem_toArray, List.getElem_cons_zero, List.getElem_cons_succ, List.setIfInBounds_toArray, List.set_cons_zero, List.set_cons_succ]
    refine wpAnyH_take (i := 11) (v := undef) rfl (by kernel_rfl) (by kernel_rfl) (by kernel_rfl) (fun _ _ _ h => h) (.inr ⟨by kernel_rfl, rfl⟩) hHeld ?_
    try simp only [Act.put, List.getElem_toArray, List.getElem_cons_zero, List.getElem_cons_succ, List.setIfInBounds_toArray, List.set_cons_zero, List.set_cons_succ]
    refine wpAnyH_take (i := 12) (v := undef) rfl (by kernel_rfl) (by kernel_rfl) (by kernel_rfl) (fun _ _ _ h => h) (.inr ⟨by kernel_rfl, rfl⟩) hHeld ?_
    try simp only [Act.put, List.getElem_toArray, List.getElem_cons_zero, List.getElem_cons_succ, List.setIfInBounds_toArray, List.set_cons_zero, List.set_cons_succ]
    refine wpAnyH_take (i := 13) (v := undef) rfl (by kernel_rfl) (by kernel_rfl) (by kernel_rfl) (fun _ _ _ h => h) (.inr ⟨by kernel_rfl, rfl⟩) hHeld ?_
    try simp only [Act.put, List.getElem_toArray, List.getElem_cons_zero, List.getElem_cons_succ, List.setIfInBounds_toArray, List.set_cons_zero, List.set_cons_succ]
    refine wpAnyH_take (i := 14) (v := undef) rfl (by kernel_rfl) (by kernel_rfl) (by kernel_rfl) (fun _ _ _ h => h) (.inr ⟨by kernel_rfl, rfl⟩) hHeld ?_
    try simp only [Act.put, List.getElem_toArray, List.getElem_cons_zero, List.getElem_cons_succ, List.setIfInBounds_toArray, List.set_cons_zero, List.set_cons_succ]
    refine wpAnyH_take (i := 15) (v := .bool true) rfl (by kernel_rfl) (by kernel_rfl) (by kernel_rfl) (fun _ _ _ h => h) (.inl ⟨rfl, fun W hW => ?_⟩) hHeld ?_
    · obtain ⟨hs0, hs1, _⟩ := SE.out W hW
      go_simp
    try simp only [Act.put, List.getElem_toArray, List.getElem_cons_zero, List.getElem_cons_succ, List.setIfInBounds_toArray, List.set_cons_zero, List.set_cons_succ]
    refine wpAnyH_done (by kernel_rfl) ?_ _
    all_goals go_wp2
    all_goals (go_ret2; exact ⟨rfl, H.out.below HB.out, Mod.of_below HB.out⟩)
  · have HT : Hid (openT s = ({ s with causes := s.causes ++ [0] }, (n : Int) + 1, 0)) := Lib.hid (by rw [HNN.out]; exact openT_ok (by rw [← HN.out, ← HM.out]; omega))
    rw [HT.out]
    have d1 : decide ((M : Int) ≤ N) = false := by simp; omega
    have d2 : decide (M ≤ N) = false := by simp; omega
    have d4 : decide (2147483647 ≤ n) = false := by simp; omega
    clear HT hf
    go_enter Try.func19, Try.ntmps19
    go_wp2
    go_region_held3 (fun W => W.cell? ⟨r, 0, none⟩ = some (.int .i64 M) ∧ W.cell? ⟨r, 1, none⟩ = some (.slice A n c) ∧ Below w.heap.size w W)
      (first | exact HSH.out _ (below_drewN (Below.refl _ _) 1) | exact HSH.out _ HB.out)
      (first | (go_at_call 27; refine (HL.out _ HB1.out).mono ?_; rintro e w2 ⟨⟨v, rfl, hv⟩, hb2⟩; obtain ⟨A2, q2, rfl, _, _, _⟩ := own_nums hv; rw [show (liveL s.causes).length = N from HN.out.symm]; have HB := Lib.hid (below_then HB1.out hb2); clear hv hb2))
    obtain ⟨A3, q3, e0, e1, ef, k1, k2⟩ := (H.out.below HB.out).cells
    have HC := HSH.out _ HB.out
    have hAA : Value.slice A n c = Value.slice A3 s.causes.length q3 := by
      have := HC.2.1
      rw [e1] at this
      injection this with this
      exact this.symm
    injection hAA with hA hN3 hq
    subst hA hq
    have HK2 := Lib.hid k2
    have HK1 := Lib.hid k1
    have hr1 : r + 1 ≤ w2.heap.size := by have := k1.lt; omega
    obtain ⟨f0, f1', _⟩ := HC
    clear k1 k2 e0 e1 hN3 f1
    go_wp2_with (
      at_builtin
      go_must (
        refine append_one rfl (.tmp 24) (.tmp 25) 29 26 (.int .i64 0) 8 rfl Try.underlying29 errno_info rfl (r + 1) (.slice A n c) (.int .i64 0) (nums .i64 s.causes) rfl rfl rfl (by have h9 := HK2.out; rw [← HNN.out] at h9; exact h9) hr1 (by rw [nums_length, ← HNN.out]; simp [maxLen]; omega) (by rw [nums_length, ← HNN.out]; omega) ?_
        intro v7 w7 hown7 hg7
        have e6 : nums .i64 s.causes ++ [.int .i64 0] = nums .i64 (s.causes ++ [0]) := by rw [nums_append]; rfl
        rw [e6] at hown7
        obtain ⟨A9, c9, rfl, _, _, _⟩ := own_nums hown7
        have hb7 : Blk w7 r 61 [.int .i64 s.most, .slice A s.causes.length c] := (hg7.block r HK1.out.lt (fun e => by have := (HK2.out.base r (by rw [← HNN.out]; exact e.symm)).1; omega)).trans HK1.out
        have g1 := hb7.cell (i := 1) rfl
        have gf := hb7.free 1
        have hl9 : (s.causes ++ [0]).length = n + 1 := by rw [List.length_append, ← HNN.out]; rfl
        rw [hl9]
        have HO7 := Lib.hid hown7
        have HB7 := Lib.hid hb7
        have HM7 : Hid (Mod (fun i => r ≤ i) w w7) := Lib.hid ((Mod.of_below HB.out).grown hg7 (fun k hk => .inr (by have := (HK2.out.base k (by rw [← HNN.out]; exact hk)).1; omega)))
        have g2 : (w7.setCell ⟨r, 1, none⟩ (.slice A9 (n + 1) c9)).cell? ⟨r, 1, none⟩ = some (.slice A9 (n + 1) c9) := (hb7.set 1 _).cell rfl
        clear hown7 hb7 hg7 e6))
    go_ret2
    refine ⟨rfl, ⟨⟨.slice A9 (n + 1) c9, ?_, ?_⟩, H.out.2.1, by show (s.causes ++ [0]).length ≤ 1000; rw [hl9]; omega⟩, HM7.out.set (.inr (Nat.le_refl r)) _⟩
    · exact HB7.out.set 1 (.slice A9 (n + 1) c9)
    · have := HO7.out
      rw [hl9] at this
      exact this.mod (S := (· = r)) ((Mod.refl _ _).set1 _) (fun k hk e => by have := (this.base k hk).1; have e : k = r := e; omega)
end Go.Proofs.Ytlebigefknhgeaa
