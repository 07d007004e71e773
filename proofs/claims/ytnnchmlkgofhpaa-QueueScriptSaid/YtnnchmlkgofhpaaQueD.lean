/- The walk of queue's Bits: what was not read, and the place; no conditions. -/
import Derived.RangeFuncBox
import Derived.RangeFuncLeaves
import Derived.RangeFuncBound
import Derived.Shelf.Abstract
import Derived.Shelf.RegionOpen
import Derived.OwnWalkIn
import Derived.TacticsInMore
import Derived.LoopNIn
import Derived.LoopIn
import Derived.Maps.AppendAt
import Derived.BigRegionIn
import Derived.Test.YtnnchmlkgofhpaaTailIn
import Derived.Test.YtnnchmlkgofhpaaQueC
set_option linter.unusedVariables false
set_option linter.unusedSimpArgs false
namespace Go.Proofs.Ytnnchmlkgofhpaa
open Go.RowKit Go.Shelf

attribute [local go_sem] Oper.semAt_some

/-- What a round that goes on keeps: what lay below n₀, and the closure's own box. -/
def Kept (n₀ Bn : Nat) (p : Value) (W W' : World) : Prop := Below n₀ W W' ∧ (Boxed W Bn 25 p → Boxed W' Bn 25 p)
theorem kept_t {n₀ Bn : Nat} {p : Value} {A B C : World} (h : Kept n₀ Bn p A B) (k : Kept n₀ Bn p B C) : Kept n₀ Bn p A C := ⟨h.1.trans k.1, fun b => k.2 (h.2 b)⟩
theorem kept_b {n₀ Bn : Nat} {p : Value} {w : World} (hn : n₀ ≤ w.heap.size) (W : World) (l : Nat) (o o' : Obj) (hl : w.heap.size ≤ l) (h : W.heap[l]? = some o) (hc : o.isCells = false) (hw : o.isWalk = false) : Kept n₀ Bn p W (W.putObj l o') :=
  ⟨belowK_b hn W l o o' hl h hc hw, fun b => b.kept (grownBy_putObj' W l o') (fun e => by
    cases e
    rw [show W.heap[Bn]? = _ from b] at h
    cases h
    cases hc)⟩

theorem Que.below' {w w' : World} {b r n₀ : Nat} {s : Qs} (h : Que w b r s) (hb : b < n₀) (hr : r < n₀) (hm : Below n₀ w w') : Que w' b r s := by
  obtain ⟨h1, ⟨ring, h2, h3⟩, h4⟩ := h
  exact ⟨(hm.block b hb).trans h1, ⟨ring, (hm.block r hr).trans h2, h3⟩, h4⟩

set_option maxRecDepth 100000 in
set_option maxHeartbeats 2000000 in
theorem bytes1_in (n : Nat) (hn : 1 ≤ n) (l Bn n₀ b r : Nat) (s : Qs) (hb : b < n₀) (hr : r < n₀) (J Jx : List Int → World → Prop) (B : Nat) (hJ : AbidesFrom B J)
    (hY : ∀ pre x W, J pre W → pre.length < s.data.length → YieldAt Fence.wide (n - 1) Try.prog l #[.int .u8 x] W fun e W' =>
      (e = .returned (.bool true) ∧ J (pre ++ [x]) W' ∧ Kept n₀ Bn (.pointer (some ⟨b, 0, none⟩)) W W') ∨ (e = .returned (.bool false) ∧ Jx (pre ++ [x]) W'))
    (W : World) (hBn : Boxed W Bn 25 (.pointer (some ⟨b, 0, none⟩))) (hQ : Que W b r s) (h0 : J [] W) :
    CallsIn Fence.wide n Try.prog 40 #[.func (.yield l) #[] #[], .pointer (some ⟨Bn, 0, none⟩)] W fun e W' => (∃ v, e = .returned v) ∧
      ((∃ ys, ys = s.data ∧ J ys W') ∨ (∃ pre, pre <+: s.data ∧ Jx pre W')) := by
  have hcb := hBn.cell
  have hc1 := hQ.c1
  have ok := Lib.hid hQ.ok
  have hm2 := hQ.ok.m2
  have hl := hQ.ok.len
  refine callsIn_of_wp Try.func40 rfl trivial ?_ rfl
  simp only [Try.ntmps40, List.size_toArray, List.length_cons, List.length_nil, Nat.reduceAdd, Nat.reduceSub, Array.replicate_succ, Array.replicate_zero, List.push_toArray, List.append_toArray, List.nil_append, List.cons_append]
  gi_wp2
  have HBn := Lib.hid hBn
  have HQ := Lib.hid hQ
  have H0 := Lib.hid h0
  clear hBn hQ h0 hcb hc1
  gi_loopw [3, 9] (fun _ i wr => ∃ k : Nat, k ≤ s.data.length ∧ i = .int .i64 k ∧ Hid (Boxed wr Bn 25 (.pointer (some ⟨b, 0, none⟩))) ∧ Hid (Que wr b r s) ∧ Hid (J (s.data.take k) wr)) (fun _ i _ => s.data.length - (intOf i).toNat)
  case atStart => exact ⟨0, by omega, rfl, HBn, HQ, Lib.hid (by simpa using H0.out)⟩
  case round =>
    clear HBn HQ H0
    obtain ⟨k, hk, rfl, hbn, hq, hj⟩ := hrel
    by_cases hlt : k < s.data.length
    · have hd : decide ((k : Int) < s.data.length) = true := by simp; omega
      have hm1 := ok.out.m1
      have hf := ok.out.first
      obtain ⟨j, hjj⟩ : ∃ j : Nat, j = (s.first + k) % s.most := ⟨_, rfl⟩
      have hjm : j < s.most := by rw [hjj]; exact Nat.mod_lt _ (by omega)
      have e1 : IntKind.i64.wrap ((s.first : Int) + k) = (s.first : Int) + k := IntWalk.i64_in _ (by omega)
      have e3 : ((s.first : Int) + k).tmod (s.most : Int) = (j : Int) := by rw [Int.tmod_eq_emod_of_nonneg (by omega), hjj]; simp
      have e4 : (j : Int) < s.most := by omega
      have hne : ¬ (s.most = 0) := by omega
      have hcb : wr.drew.cell? ⟨Bn, 0, none⟩ = some (.pointer (some ⟨b, 0, none⟩)) := hbn.out.cell
      have c0 : wr.drew.cell? ⟨b, 0, none⟩ = some (.int .i64 s.most) := hq.out.c0
      have c2 : wr.drew.cell? ⟨b, 2, none⟩ = some (.slice (some ⟨r, 0, none⟩) s.most s.most) := hq.out.c2
      have c3 : wr.drew.cell? ⟨b, 3, none⟩ = some (.int .i64 s.first) := hq.out.c3
      have cr : wr.drew.cell? ⟨r, j, none⟩ = some (.int .u8 (el s.data k)) := by
        obtain ⟨_, ⟨ring, r1, r2, r3⟩, _⟩ := hq.out
        rw [← r3 k hlt, ← hjj]
        exact r1.cell (nums_get (by rw [r2]; exact hjm))
      obtain ⟨fn, tmps, assign, body, hy, hR⟩ := hY (s.data.take k) (el s.data k) wr.drew (hJ _ _ _ none hj.out ⟨rfl, rfl, rfl, Nat.le_refl _, fun _ _ _ => rfl⟩ (fun r e => by cases e)) (by rw [List.length_take]; omega)
      have HJJ := Lib.hid hjj
      clear hjj
      gi_wp2
      refine wpIn_region_still_tail 19 (by kernel_rfl) (by kernel_rfl) ?_
      simp only [List.take_succ_cons, List.take_zero, List.drop_succ_cons, List.drop_zero]
      repeat still_step
      refine wpStill_nil ?_
      gi_wp2
      refine hR.mono ?_
      rintro e W3 (⟨rfl, hJ3, hk3⟩ | ⟨rfl, hJx3⟩)
      · have hq3 := Lib.hid (hq.out.drew.below' hb hr hk3.1)
        have hb3 := Lib.hid (hk3.2 hbn.out)
        gi_wp2
        go_roundw
        case rel => exact ⟨k + 1, by omega, by go_num, hb3, hq3, Lib.hid (by rw [take_succ_el _ _ hlt]; exact hJ3)⟩
        case measure => simp [intOf]; omega
      · gi_wp2
        refine bodyPost_ret (results_none rfl _ _ _) rfl ?_
        exact ⟨⟨_, rfl⟩, .inr ⟨_, ⟨s.data.drop (k + 1), by rw [← take_succ_el _ _ hlt, List.take_append_drop]⟩, hJx3⟩⟩
    · have hd : decide ((k : Int) < s.data.length) = false := by simp; omega
      have hkl : k = s.data.length := by omega
      rw [hkl, List.take_length] at hj
      clear hkl
      gi_wp2
      go_end0
      exact ⟨⟨_, rfl⟩, .inl ⟨_, rfl, hj.out⟩⟩

set_option maxHeartbeats 1000000 in
theorem bytes_in (n : Nat) (p0 : Option Addr) (w : World) :
    CallsIn Fence.wide n Try.prog 36 #[.pointer p0] w fun e w' => e = .returned (.func (.func 40) #[] #[.pointer (some ⟨w.heap.size, 0, none⟩)]) ∧ w' = w.alloc (.cells #[.pointer p0] 25) := by
  refine callsIn_of_wp Try.func36 rfl trivial ?_ rfl
  simp only [Try.ntmps36, List.size_toArray, List.length_cons, List.length_nil, Nat.reduceAdd, Nat.reduceSub, Array.replicate_succ, Array.replicate_zero, List.push_toArray, List.append_toArray, List.nil_append, List.cons_append]
  gi_wp2
  go_ret
  exact ⟨rfl, rfl⟩

theorem bytes_stops (n : Nat) (hn : 1 ≤ n) (Bn n₀ b r : Nat) (s : Qs) (hb : b < n₀) (hr : r < n₀) (w : World) (hBn : Boxed w Bn 25 (.pointer (some ⟨b, 0, none⟩))) (hQ : Que w b r s) :
    SeqStopsK Fence.wide n Try.prog 40 #[.pointer (some ⟨Bn, 0, none⟩)] (fun x : Int => #[Value.int .u8 x]) (Kept n₀ Bn (.pointer (some ⟨b, 0, none⟩))) (fun ys => ys = s.data) (fun pre => pre <+: s.data) s.data.length w := fun l J Jx W hW hJ _ hY h0 =>
  bytes1_in n hn l Bn n₀ b r s hb hr J Jx _ hJ hY W ((hW.block Bn hBn.lt).trans hBn) (hQ.below hW) h0

set_option maxRecDepth 100000 in
set_option maxHeartbeats 2000000 in
theorem bitsF (w : World) (b r : Nat) (s : Qs) (h : Que w b r s) :
    Calls Try.prog 22 #[.pointer (some ⟨b, 0, none⟩)] w fun e W' => ∃ v, e = .returned (.tuple #[v, .int .i64 s.place]) ∧ Own W' w.heap.size 5 v (nums .u8 s.data) ∧ Below w.heap.size w W' := by
  refine (callsIn_wide (n := 6)).1 ?_
  obtain ⟨i0, hi, hz0, hz1, hz2⟩ := info_parts q_info
  have H := Lib.hid h
  have hlt := h.lt
  have hl := h.ok.len
  have hm2 := h.ok.m2
  clear h
  have hfn1 : Fence.wide.fn 33 := trivial
  have hfn2 : Fence.wide.fn 36 := trivial
  refine callsIn_of_wp_marks Try.func22 rfl trivial ?_ rfl
  simp only [Try.ntmps22, List.size_toArray, List.length_cons, List.length_nil, Nat.reduceAdd, Nat.reduceSub, Array.replicate_succ, Array.replicate_zero, List.push_toArray, List.append_toArray, List.nil_append, List.cons_append]
  gi_wp2_with (first
    | (gi_at_call 33; refine (callsIn_wide.2 (none_no _ b r s H.out)).mono ?_; rintro e w1 ⟨rfl, rfl⟩)
    | (gi_at_call 36; refine (bytes_in _ _ _).mono ?_; rintro e w2 ⟨rfl, rfl⟩))
  have bO := Boxed.new w1 22 (.slice none 0 0)
  have bN := Boxed.new (w1.alloc (.cells #[.slice none 0 0] 22)) 25 (.pointer (some ⟨b, 0, none⟩))
  rw [World.size_alloc] at bN
  have hB0 : Below w1.heap.size w1 ((w1.alloc (.cells #[.slice none 0 0] 22)).alloc (.cells #[.pointer (some ⟨b, 0, none⟩)] 25)) := ((Below.refl _ w1).alloc (Nat.le_refl _) _).alloc (by simp) _
  have hr1 : w1.heap.size ≤ ((w1.alloc (.cells #[.slice none 0 0] 22)).alloc (.cells #[.pointer (some ⟨b, 0, none⟩)] 25)).heap.size := by simp; omega
  refine wpIn_rangeFunc_ownG rfl (by omega) (gf := 40) (lb := #[.pointer (some ⟨w1.heap.size + 1, 0, none⟩)]) rfl trivial (enters_of Try.func40 (by kernel_rfl) rfl)
    (bytes_stops 5 (by omega) (w1.heap.size + 1) w1.heap.size b r s hlt.1 hlt.2 _ bN (H.out.below hB0)) kept_t (kept_b hr1) (Below.refl _ _) (fun _ => rfl)
    (fun pre W => (∃ v, Boxed W w1.heap.size 22 v ∧ W.ownsRow w1.heap.size 5 1 v pre.length (nums .u8 pre) ∧ True) ∧ Below w1.heap.size w1 W)
    (fun _ _ _ => False)
    (OwnFrom.and (Own.from (holdsRow_own w1.heap.size w1.heap.size 22 5 1 (fun pre => pre.length) (fun pre => nums .u8 pre) (fun pre v => True)) _) (ownFrom_below (Nat.le_refl _) hr1))
    (fun _ _ _ _ _ hs _ _ => hs)
    ⟨⟨_, bO.alloc _, World.ownsRow_nil _ _ _ _, trivial⟩, hB0⟩
    (fun x => { tmps := #[.pointer (some ⟨b, 0, none⟩), undef, .slice none 0 0, .int .i64 0, .pointer (some ⟨w1.heap.size, 0, none⟩), .int .u8 x, .pointer (some ⟨b, 0, none⟩), .bool false, .pointer (some ⟨b, 0, none⟩), .func (.func 40) #[] #[.pointer (some ⟨w1.heap.size + 1, 0, none⟩)], .int .u8 x, undef, undef, undef, undef, undef, undef, undef, undef, undef], defers := [] }) ?assign ?body ?done ?stop
  case assign =>
    intro l x W K hK
    gi_wp2
    exact hK
  case body =>
    rintro l pre x W ⟨⟨v, hv, hrow, _⟩, hB⟩ hlen
    have hc := hv.cell
    have hml : pre.length + 1 ≤ maxLen := by simp [maxLen]; omega
    gi_wp2_with (gi_at_builtin; refine wpListIn_append_own _ rfl _ _ 22 rfl w1.heap.size 5 i0 (.int .u8 0) 1 1 Try.underlying22 hi hz0 hz1 hz2 rfl (by decide) _ _ _ rfl (hrow.alloc _) ⟨W.heap.size, 0, none⟩ 1 1 [.int .u8 x] rfl rfl (cell_one_new _ _ _) (by simp [Value.oneCell']) (by omega) (by omega) (by have := hB.size; simp; omega) ?_; intro v' w2 hown' hgrow _; obtain ⟨g', cap', rfl⟩ := ownsRow_succ hown'; obtain ⟨hv1, hv2, hr2, hk2, hb2⟩ := hv.appended (by decide) hrow hB.size (Nat.le_refl _) hown' hgrow; have hc1 := hv1.cell; have hf1 := hv1.frozen)
    have hgr : (W.alloc (.cells #[.int .u8 x] 5)).grownBy w2 v.ownBlock := hgrow
    refine ⟨hk2.from _, ⟨hb2, fun hbx => ?_⟩, ⟨_, hv2, by rw [List.length_append, nums_append]; exact hr2, trivial⟩, hB.trans hb2⟩
    have h3 := (hbx.alloc (.cells #[.int .u8 x] 5)).kept hgr (hbx.not_row (by decide) hrow)
    exact (Below.heap_setCell w2 ⟨w1.heap.size, 0, none⟩ _ _ (by simp)).trans h3
  case done =>
    rintro D ys W hD rfl ⟨⟨v, hv, hrow, _⟩, hB⟩ hK
    have hc : W.drew.cell? ⟨w1.heap.size, 0, none⟩ = some v := hv.cell
    have hc4 : W.drew.cell? ⟨b, 4, none⟩ = some (.int .i64 s.place) := (H.out.below hB).c4
    gi_wp2
    gi_region
    gi_wp2
    have hK2 : W.drew.heap[D]? = some (.deferred (some [])) := hK
    refine ⟨by simp, .inl ⟨_, _, rfl, run_takeDeferred hK2, ?_⟩⟩
    have hrow2 : W.drew.ownsRow w1.heap.size 5 1 v s.data.length (nums .u8 s.data) := hrow
    have hB2 : Below w1.heap.size w1 W.drew := below_drewN hB 1
    refine ⟨_, results_tmp2 rfl _ _ _, v, rfl, ?_, hB2.trans (belowK_b (w := w1) (Nat.le_refl _) W.drew D _ _ (by simp at hD; omega) hK2 rfl rfl)⟩
    have := ownsRow_putObj hrow2 (.deferred none) hK2 rfl
    unfold Own
    rw [nums_length]
    exact this
  case stop =>
    rintro D c pre W _ _ h _
    exact h.elim
end Go.Proofs.Ytnnchmlkgofhpaa
