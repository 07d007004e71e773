/- The walks of table's Room and Open; no conditions but that no more are live than may be. -/
import Derived.Test.YtlebigefknhgeaaTabD
import Derived.Deep.RegionWith
set_option linter.unusedVariables false
set_option linter.unusedSimpArgs false
namespace Go.Proofs.Ytlebigefknhgeaa
open Go.RowKit Go.Maps

theorem own_nums {w : World} {B : Nat} {e : TypeId} {v : Value} {k : IntKind} {xs : List Int} (h : Own w B e v (nums k xs)) : ∃ A c, v = .slice A xs.length c ∧ xs.length ≤ c ∧ c ≤ maxLen ∧ Fresh w B A (nums k xs) := by
  obtain ⟨A, c, h1, h2, h3, h4⟩ := h.fresh
  rw [nums_length] at h1 h2
  exact ⟨A, c, h1, h2, h3, h4⟩

set_option maxHeartbeats 2000000 in
theorem roomF (w : World) (b m : Nat) (s : Ts) (h : Tab w b m s) :
    Calls Try.prog 12 #[.pointer (some ⟨b, 0, none⟩)] w fun e w' => e = .returned (.int .i64 ((s.most : Int) - (liveL s.causes).length)) ∧ Below w.heap.size w w' := by
  have c0 := h.c0
  have hl : (liveL s.causes).length ≤ 1000 := Nat.le_trans (liveK_len _ _) h.2.2.2.2
  have hm := h.2.2.2.1.2
  have e1 : IntKind.i64.wrap ((s.most : Int) - (liveL s.causes).length) = (s.most : Int) - (liveL s.causes).length := IntWalk.i64_in _ (by omega)
  have HL := Lib.hid (fun W (hW : Below w.heap.size w W) => liveF W b m s (h.below hW))
  have H := Lib.hid h
  obtain ⟨N, hN⟩ : ∃ N, N = (liveL s.causes).length := ⟨_, rfl⟩
  rw [← hN] at e1 hl ⊢
  have HN := Lib.hid hN
  clear h hN
  go_enter Try.func12, Try.ntmps12
  go_wp2_with fail
  refine (none_no _ b m s H.out).mono ?_
  rintro e w1 ⟨rfl, rfl⟩
  go_wp2
  go_region_with (go_at_call 14; refine (HL.out _ (below_drewN (Below.refl _ _) 1)).mono ?_; rintro e w2 ⟨v, rfl, hv, hb2⟩; obtain ⟨A, c, rfl, _, _, _⟩ := own_nums hv; rw [← HN.out]; have c0 := ((H.out.drewN 1).below hb2).c0; have HB := Lib.hid (below_then (below_drewN (Below.refl _ _) 1) hb2); clear hv hb2)
  all_goals go_wp2
  all_goals (go_ret; exact ⟨rfl, by first | exact HB.out | exact below_drewN HB.out 1⟩)

/-- What Open leaves, and tells. -/
def openT (s : Ts) : Ts × Int × Int := if (liveL s.causes).length = s.most then (s, 0, 15) else ({ s with causes := s.causes ++ [0] }, (s.causes.length : Int) + 1, 0)

set_option maxHeartbeats 4000000 in
theorem openF (w : World) (b m : Nat) (s : Ts) (h : Tab w b m s) (hl : (liveL s.causes).length ≤ s.most) (hc : s.causes.length < 1000) :
    Calls Try.prog 10 #[.pointer (some ⟨b, 0, none⟩)] w fun e w' => e = .returned (.tuple #[.int .i64 (openT s).2.1, .int .i64 (openT s).2.2]) ∧ Tab w' b m (openT s).1 ∧ Mod (fun i => i = b ∨ i = m) w w' := by
  have H := Lib.hid h
  have HR := Lib.hid (roomF w b m s h)
  have hm64 := h.2.2.2.1.2
  by_cases hf : (liveL s.causes).length = s.most
  · have HT : Hid (openT s = (s, 0, 15)) := Lib.hid (by unfold openT; rw [if_pos hf])
    rw [HT.out]
    rw [show ((s.most : Int) - (liveL s.causes).length) = 0 by omega] at HR
    clear h hf HT hl
    go_enter Try.func10, Try.ntmps10
    go_wp2_with fail
    refine (none_no _ b m s H.out).mono ?_
    rintro e w1 ⟨rfl, rfl⟩
    go_wp2_with fail
    refine HR.out.mono ?_
    rintro e w2 ⟨rfl, hb2⟩
    go_wp2
    go_ret2
    exact ⟨rfl, H.out.below hb2, Mod.of_below hb2⟩
  · have HT : Hid (openT s = ({ s with causes := s.causes ++ [0] }, (s.causes.length : Int) + 1, 0)) := Lib.hid (by unfold openT; rw [if_neg hf])
    rw [HT.out]
    obtain ⟨R, hR⟩ : ∃ R : Int, R = (s.most : Int) - (liveL s.causes).length := ⟨_, rfl⟩
    have hd : (R == 0) = false := beq_eq_false_iff_ne.2 (by omega)
    rw [← hR] at HR
    obtain ⟨N, hN⟩ : ∃ N, N = s.causes.length := ⟨_, rfl⟩
    rw [← hN] at hc ⊢
    have hd2 : ((N : Int) == 2147483647) = false := beq_eq_false_iff_ne.2 (by omega)
    have eN : IntKind.i64.wrap ((N : Int) + 1) = (N : Int) + 1 := IntWalk.i64_in _ (by omega)
    have HN := Lib.hid hN
    clear h hf HT hl hN hR
    go_enter Try.func10, Try.ntmps10
    go_wp2_with fail
    refine (none_no _ b m s H.out).mono ?_
    rintro e w1 ⟨rfl, rfl⟩
    go_wp2_with fail
    refine HR.out.mono ?_
    rintro e w2 ⟨rfl, hb2⟩
    have h2 := H.out.below hb2
    have c1 := h2.c1
    rw [← HN.out] at c1
    have f1 := h2.1.free 1
    have HB2 := Lib.hid hb2
    obtain ⟨g1, ⟨D, g2, g3⟩, g4, g5, g6⟩ := h2
    -- behind the store of the number
    obtain ⟨W, hW⟩ : ∃ W, W = w2.setCell ⟨b, 1, none⟩ (.int .i64 ((N : Int) + 1)) := ⟨_, rfl⟩
    have k1 : Blk W b 48 ((tcells m s).set 1 (.int .i64 ((N : Int) + 1))) := by rw [hW]; exact g1.set 1 _
    have k2 : W.ownsMap Try.prog 3 entR m s.causes.length D := ownsMap_same g2 (by rw [hW]; exact Below.heap_setCell w2 _ _ _ (fun e => g4 e.symm))
    have d1 : W.drew.cell? ⟨b, 1, none⟩ = some (.int .i64 ((N : Int) + 1)) := k1.cell rfl
    have d2 : W.drew.cell? ⟨b, 2, none⟩ = some (.map (some m)) := k1.cell rfl
    obtain ⟨w3, hrun, hown3, hgr3⟩ := k2.drew.update law Try.underlying46 (by simp [maxLen]; omega) (key := .int .i64 ((N : Int) + 1)) (val := .agg #[.int .i64 0]) (d := .lit (.int .i64 0)) (ps := []) (hkey _ (wf_id N (by omega))) rfl
    have k3 : Blk w3 b 48 ((tcells m s).set 1 (.int .i64 ((N : Int) + 1))) := (hgr3.block b k1.lt (fun e => g4 (by injection e))).trans k1
    have e1 : w3.cell? ⟨b, 1, none⟩ = some (.int .i64 ((N : Int) + 1)) := k3.cell rfl
    have HG := Lib.hid g3
    have HO := Lib.hid hown3
    have HK := Lib.hid k3
    have HGR := Lib.hid hgr3
    have HT := Lib.hid (g2.tidy law)
    have HW := Lib.hid hW
    have HM : Hid (Mod (fun i => i = b ∨ i = m) w1 W) := Lib.hid (by rw [hW]; exact (Mod.of_below HB2.out).set (.inr (.inl rfl)) _)
    clear hb2 g1 g2 g3 k1 k2 hown3 hgr3 k3 hW
    go_wp2
    rw [← HW.out]
    go_region
    all_goals go_wp2
    all_goals go_ret2
    all_goals
      have hr := HG.out.push HT.out HT.out.isMap
      have hlen : (s.causes ++ [0]).length = N + 1 := by rw [List.length_append, ← HN.out]; rfl
      have ho := HO.out
      rw [HN.out] at ho
      refine ⟨rfl, ⟨?_, ⟨_, renorm ho (Nat.le_of_eq hr.size), hr⟩, g4, g5, by show (s.causes ++ [0]).length ≤ 1000; rw [hlen]; omega⟩, HM.out.drew.grown HGR.out (fun k hk => .inr (by injection hk with hk; exact .inr hk.symm))⟩
      have : tcells m { s with causes := s.causes ++ [0] } = (tcells m s).set 1 (.int .i64 ((N : Int) + 1)) := by
        unfold tcells
        show [_, Value.int .i64 (((s.causes ++ [0]).length : Nat) : Int), _] = _
        rw [hlen]
        rfl
      rw [this]
      exact HK.out
end Go.Proofs.Ytlebigefknhgeaa
