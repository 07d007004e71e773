/- The walks of table's live and Live: the numbers of live sessions, rising, in a new list; no conditions. -/
import Derived.Test.YtlebigefknhgeaaTabC
set_option linter.unusedVariables false
set_option linter.unusedSimpArgs false
namespace Go.Proofs.Ytlebigefknhgeaa
open Go.RowKit Go.Shelf Go.Maps

attribute [local go_sem] Oper.semAt_some

theorem t_info : (Try.prog.info? 3).map (fun i => (i.zero, i.size, i.bytes)) = some (some (.int .i64 0), 1, 8) := by kernel_rfl

set_option maxHeartbeats 1000000 in
theorem live_in (n : Nat) (p0 : Option Addr) (w : World) :
    CallsIn Fence.wide n Try.prog 26 #[.pointer p0] w fun e w' => e = .returned (.func (.func 30) #[] #[.pointer (some ⟨w.heap.size, 0, none⟩)]) ∧ w' = w.alloc (.cells #[.pointer p0] 25) := by
  refine callsIn_of_wp Try.func26 rfl trivial ?_ rfl
  simp only [Try.ntmps26, List.size_toArray, List.length_cons, List.length_nil, Nat.reduceAdd, Nat.reduceSub, Array.replicate_succ, Array.replicate_zero, List.push_toArray, List.append_toArray, List.nil_append, List.cons_append]
  gi_wp2
  go_ret
  exact ⟨rfl, rfl⟩

theorem live_stops (Bn n₀ b m bo : Nat) (s : Ts) (hb : b < n₀) (hm : m < n₀) (hBo : Bn ≠ bo) (w : World) (hn : n₀ ≤ w.heap.size) (hbo : Boxed w bo 36 (.slice none 0 0)) (hBn : Boxed w Bn 25 (.pointer (some ⟨b, 0, none⟩))) (hQ : Tab w b m s) :
    SeqStopsK Fence.wide 11 Try.prog 30 #[.pointer (some ⟨Bn, 0, none⟩)] (fun x : Int => #[Value.int .i64 x]) (Kept n₀ bo) (fun ys => ys = liveL s.causes) (fun pre => pre <+: liveL s.causes) (liveL s.causes).length w := fun l J Jx W hW hJ _ hY h0 =>
  live1_in l Bn n₀ b m bo s hb hm hBo J Jx _ hJ hY W (Nat.le_trans hn hW.size) (Nat.lt_of_lt_of_le hbo.lt hW.size) ((hW.block Bn hBn.lt).trans hBn)
    (by
      have h : Boxed W bo 36 (.slice none 0 0) := (hW.block bo hbo.lt).trans hbo
      unfold rowOf
      rw [h.cell]
      rfl) (hQ.below hW) h0

set_option maxRecDepth 100000 in
set_option maxHeartbeats 4000000 in
theorem liveF (w : World) (b m : Nat) (s : Ts) (h : Tab w b m s) :
    Calls Try.prog 14 #[.pointer (some ⟨b, 0, none⟩)] w fun e W' => ∃ v, e = .returned v ∧ Own W' w.heap.size 3 v (nums .i64 (liveL s.causes)) ∧ Below w.heap.size w W' := by
  refine (callsIn_wide (n := 12)).1 ?_
  obtain ⟨i0, hi, hz0, hz1, hz2⟩ := info_parts t_info
  have H := Lib.hid h
  have hlt := h.lt
  have hl := h.2.2.2.2
  have hll : (liveL s.causes).length ≤ 1000 := Nat.le_trans (liveK_len _ _) hl
  clear h
  have hfn1 : Fence.wide.fn 25 := trivial
  have hfn2 : Fence.wide.fn 26 := trivial
  refine callsIn_of_wp_marks Try.func14 rfl trivial ?_ rfl
  simp only [Try.ntmps14, List.size_toArray, List.length_cons, List.length_nil, Nat.reduceAdd, Nat.reduceSub, Array.replicate_succ, Array.replicate_zero, List.push_toArray, List.append_toArray, List.nil_append, List.cons_append]
  gi_wp2_with (first
    | (gi_at_call 25; refine (callsIn_wide.2 (none_no _ b m s H.out)).mono ?_; rintro e w1 ⟨rfl, rfl⟩)
    | (gi_at_call 26; refine (live_in _ _ _).mono ?_; rintro e w2 ⟨rfl, rfl⟩))
  have bO := Boxed.new w1 36 (.slice none 0 0)
  have bN := Boxed.new (w1.alloc (.cells #[.slice none 0 0] 36)) 25 (.pointer (some ⟨b, 0, none⟩))
  rw [World.size_alloc] at bN
  have hB0 : Below w1.heap.size w1 ((w1.alloc (.cells #[.slice none 0 0] 36)).alloc (.cells #[.pointer (some ⟨b, 0, none⟩)] 25)) := ((Below.refl _ w1).alloc (Nat.le_refl _) _).alloc (by simp) _
  have hr1 : w1.heap.size ≤ ((w1.alloc (.cells #[.slice none 0 0] 36)).alloc (.cells #[.pointer (some ⟨b, 0, none⟩)] 25)).heap.size := by simp; omega
  have hbo2 : w1.heap.size < ((w1.alloc (.cells #[.slice none 0 0] 36)).alloc (.cells #[.pointer (some ⟨b, 0, none⟩)] 25)).heap.size := by simp; omega
  refine wpIn_rangeFunc_ownG rfl (by omega) (gf := 30) (lb := #[.pointer (some ⟨w1.heap.size + 1, 0, none⟩)]) rfl trivial (enters_of Try.func30 (by kernel_rfl) rfl)
    (live_stops (w1.heap.size + 1) w1.heap.size b m w1.heap.size s hlt.1 hlt.2 (by omega) _ hr1 (bO.alloc _) bN (H.out.below hB0)) kept_t (kept_b hr1 hbo2) (Below.refl _ _) (fun _ => rfl)
    (fun pre W => (∃ v, Boxed W w1.heap.size 36 v ∧ W.ownsRow w1.heap.size 3 1 v pre.length (nums .i64 pre) ∧ True) ∧ Below w1.heap.size w1 W)
    (fun _ _ _ => False)
    (OwnFrom.and (Own.from (holdsRow_own w1.heap.size w1.heap.size 36 3 1 (fun pre => pre.length) (fun pre => nums .i64 pre) (fun pre v => True)) _) (ownFrom_below (Nat.le_refl _) hr1))
    (fun _ _ _ _ _ hs _ _ => hs)
    ⟨⟨_, bO.alloc _, World.ownsRow_nil _ _ _ _, trivial⟩, hB0⟩
    (fun x => { tmps := #[.pointer (some ⟨b, 0, none⟩), undef, .slice none 0 0, .pointer (some ⟨w1.heap.size, 0, none⟩), .int .i64 x, .pointer (some ⟨b, 0, none⟩), .bool false, .pointer (some ⟨b, 0, none⟩), .func (.func 30) #[] #[.pointer (some ⟨w1.heap.size + 1, 0, none⟩)], .int .i64 x, undef, undef, undef, undef, undef], defers := [] }) ?assign ?body ?done ?stop
  case assign =>
    intro l x W K hK
    gi_wp2
    exact hK
  case body =>
    rintro l pre x W ⟨⟨v, hv, hrow, _⟩, hB⟩ hlen
    have hc := hv.cell
    have hml : pre.length + 1 ≤ maxLen := by simp [maxLen]; omega
    have hro : rowOf W w1.heap.size = v.ownBlock := by unfold rowOf; rw [hc]; rfl
    gi_wp2_with (gi_at_builtin; refine wpListIn_append_own_at _ rfl _ _ 36 rfl w1.heap.size 3 i0 (.int .i64 0) 1 8 Try.underlying36 hi hz0 hz1 hz2 rfl (by decide) _ _ _ rfl (hrow.alloc _) ⟨W.heap.size, 0, none⟩ 1 1 [.int .i64 x] rfl rfl (cell_one_new _ _ _) (by simp [Value.oneCell']) (by omega) (by omega) (by have := hB.size; simp; omega) ?_; intro v' w2 hown' hgrow _ hloc; obtain ⟨g', cap', rfl⟩ := ownsRow_succ hown'; obtain ⟨hv1, hv2, hr2, hk2, hb2⟩ := hv.appended (by decide) hrow hB.size (Nat.le_refl _) hown' hgrow; have hc1 := hv1.cell; have hf1 := hv1.frozen)
    have hgr : (W.alloc (.cells #[.int .i64 x] 3)).grownBy w2 v.ownBlock := hgrow
    refine ⟨hk2.from _, ⟨hb2, hb2.size, fun k o hk ho h1 h2 => ?_, ?_⟩, ⟨_, hv2, by rw [List.length_append, nums_append]; exact hr2, trivial⟩, hB.trans hb2⟩
    · rw [hro] at h2
      have hlt : k < W.heap.size := (Array.getElem?_eq_some_iff.1 hk).1
      exact (Below.heap_setCell w2 ⟨w1.heap.size, 0, none⟩ _ k h1).trans ((hgr.block k (by simp; omega) (fun e => h2 e.symm)).trans ((Below.heap_alloc W _ k hlt).trans hk))
    · have hrow' : ∀ W' v', Boxed W' w1.heap.size 36 v' → rowOf W' w1.heap.size = v'.ownBlock := fun W' v' hb => by unfold rowOf; rw [hb.cell]; rfl
      rw [hro, hrow' _ _ hv2]
      rcases hloc with h3 | h3
      · exact .inl h3
      · exact .inr ⟨_, h3, by simp⟩
  case done =>
    rintro D ys W hD rfl ⟨⟨v, hv, hrow, _⟩, hB⟩ hK
    have hc : W.cell? ⟨w1.heap.size, 0, none⟩ = some v := hv.cell
    gi_wp2
    refine ⟨by simp, .inl ⟨_, _, rfl, run_takeDeferred hK, ?_⟩⟩
    refine ⟨_, results_tmp rfl _ _ _, v, rfl, ?_, hB.trans (belowK_b (w := w1) (Nat.le_refl _) W D _ _ (by simp at hD; omega) hK rfl rfl)⟩
    have := ownsRow_putObj hrow (.deferred none) hK rfl
    unfold Own
    rw [nums_length]
    exact this
  case stop =>
    rintro D c pre W _ _ h _
    exact h.elim
end Go.Proofs.Ytlebigefknhgeaa
