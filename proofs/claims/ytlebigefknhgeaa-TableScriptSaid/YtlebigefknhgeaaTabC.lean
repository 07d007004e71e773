/- The walks of table's closure live$1, live, and Live: the numbers of live sessions, rising; no conditions. -/
import Derived.Test.YtlebigefknhgeaaTabB
set_option linter.unusedVariables false
set_option linter.unusedSimpArgs false
namespace Go.Proofs.Ytlebigefknhgeaa
open Go.RowKit Go.Shelf Go.Maps

attribute [local go_sem] Oper.semAt_some

theorem entry_field (x : Int) (W : World) : (Instr.field 56 (.agg #[.int .i64 x]) 0).run Try.prog W = .ok (.int .i64 x) W := by kernel_rfl
theorem kept_ne {n₀ bo g : Nat} {W W' : World} (h : Kept n₀ bo W W') (hg : g < W.heap.size) (hr : rowOf W bo ≠ some g) : rowOf W' bo ≠ some g := by
  rcases h.row with h3 | ⟨r, h3, h4⟩
  · rw [h3]; exact hr
  · rw [h3]; intro e; injection e with e; omega
/-- The sorted numbers lie in a row that the collector does not write. -/
def Numbers (W : World) (B bo : Nat) (A : Option Addr) (l : List Int) : Prop := Fresh W B A (nums .i64 l) ∧ ∀ a, A = some a → rowOf W bo ≠ some a.block
theorem Numbers.kept {n₀ B bo : Nat} {W W' : World} {A : Option Addr} {l : List Int} (h : Numbers W B bo A l) (hB : bo < B) (k : Kept n₀ bo W W') : Numbers W' B bo A l := by
  obtain ⟨h1, h2⟩ := h
  rcases h1 with ⟨rfl, h1⟩ | ⟨g, rfl, hg, T, cs, hb, hp⟩
  · exact ⟨.inl ⟨rfl, h1⟩, fun a ha => by cases ha⟩
  · have hne := h2 _ rfl
    have hlt : g < W.heap.size := hb.lt
    refine ⟨.inr ⟨g, rfl, hg, T, cs, k.cells g _ hb rfl (by omega) hne, hp⟩, fun a ha => ?_⟩
    injection ha with ha
    subst ha
    exact kept_ne k hlt hne
theorem rowOf_below {W W' : World} {bo : Nat} (h : Below W.heap.size W W') (hb : bo < W.heap.size) : rowOf W' bo = rowOf W bo := by
  unfold rowOf
  rw [World.cell?_of_block (w := W) (a := ⟨bo, 0, none⟩) (h.block bo hb)]
theorem wf_id (k : Nat) (h : k ≤ 1000) : (Lit.int .i64 ((k : Int) + 1)).wf = true := WalkArith.wf_i64 (by omega)

set_option maxRecDepth 100000 in
set_option maxHeartbeats 4000000 in
theorem live1_in (l Bn n₀ b m bo : Nat) (s : Ts) (hb : b < n₀) (hm : m < n₀) (hBo : Bn ≠ bo) (J Jx : List Int → World → Prop) (B : Nat) (hJ : AbidesFrom B J)
    (hY : ∀ pre x W, J pre W → pre.length < (liveL s.causes).length → YieldAt Fence.wide (11 - 1) Try.prog l #[.int .i64 x] W fun e W' =>
      (e = .returned (.bool true) ∧ J (pre ++ [x]) W' ∧ Kept n₀ bo W W') ∨ (e = .returned (.bool false) ∧ Jx (pre ++ [x]) W'))
    (W : World) (hn : n₀ ≤ W.heap.size) (hbo : bo < W.heap.size) (hBn : Boxed W Bn 25 (.pointer (some ⟨b, 0, none⟩))) (hro : rowOf W bo = none) (hQ : Tab W b m s) (h0 : J [] W) :
    CallsIn Fence.wide 11 Try.prog 30 #[.func (.yield l) #[] #[], .pointer (some ⟨Bn, 0, none⟩)] W fun e W' => (∃ v, e = .returned v) ∧
      ((∃ ys, ys = liveL s.causes ∧ J ys W') ∨ (∃ pre, pre <+: liveL s.causes ∧ Jx pre W')) := by
  have hcb := hBn.cell
  have hc2 := hQ.c2
  have hl := hQ.2.2.2.2
  have HQ := Lib.hid hQ
  have HBn := Lib.hid hBn
  have H0 := Lib.hid h0
  have HRO := Lib.hid hro
  have HNW := Lib.hid hn
  have HBO := Lib.hid hbo
  have hK := Lib.hid (keysF (some m) W)
  have hS := Lib.hid (sortedF W b m s hQ)
  clear hBn hQ h0 hro hn hbo
  have hfn1 : Fence.wide.fn 32 := trivial
  have hfn2 : Fence.wide.fn 31 := trivial
  refine callsIn_of_wp Try.func30 rfl trivial ?_ rfl
  simp only [Try.ntmps30, List.size_toArray, List.length_cons, List.length_nil, Nat.reduceAdd, Nat.reduceSub, Array.replicate_succ, Array.replicate_zero, List.push_toArray, List.append_toArray, List.nil_append, List.cons_append]
  gi_wp2_with (first
    | (gi_at_call 32; refine hK.out.mono ?_; rintro e w2 ⟨rfl, rfl⟩)
    | (gi_at_call 31; refine hS.out.mono ?_; rintro e w2 ⟨⟨A, c, rfl, hfr⟩, hb2⟩))
  have HB2 := Lib.hid hb2
  have HQ2 := Lib.hid (HQ.out.below hb2)
  have HBn2 := Lib.hid ((hb2.block Bn HBn.out.lt).trans HBn.out)
  have HRO2 : Hid (rowOf w2 bo = none) := Lib.hid (by rw [rowOf_below hb2 HBO.out]; exact HRO.out)
  have HN2 : Hid (Numbers w2 W.heap.size bo A (ids s.causes.length)) := Lib.hid ⟨hfr, fun a ha => by rw [HRO2.out]; intro e; cases e⟩
  have HJ2 : Hid (J [] w2) := Lib.hid (hJ _ _ _ none H0.out ⟨hb2.os, hb2.tape, hb2.output, hb2.size, fun k hk _ => hb2.block k hk⟩ (fun r e => by cases e))
  have HS2 : Hid (rowOf w2 bo ≠ some Bn) := Lib.hid (by rw [HRO2.out]; intro e; cases e)
  clear HQ HBn HRO H0 hb2 hfr hK hS hcb hc2 HRO2
  gi_loopw [4, 12] (fun _ i wr => ∃ k : Nat, k ≤ s.causes.length ∧ i = .int .i64 k ∧ Hid (Boxed wr Bn 25 (.pointer (some ⟨b, 0, none⟩)) ∧ rowOf wr bo ≠ some Bn) ∧ Hid (Tab wr b m s) ∧ Hid (Numbers wr W.heap.size bo A (ids s.causes.length)) ∧ Hid (J (liveK s.causes k) wr)) (fun _ i _ => s.causes.length - (intOf i).toNat)
  case atStart => exact ⟨0, by omega, rfl, Lib.hid ⟨HBn2.out, HS2.out⟩, HQ2, HN2, HJ2⟩
  case round =>
    clear HBn2 HS2 HQ2 HN2 HJ2 HB2
    obtain ⟨k, hk, rfl, hbn, hq, hnu, hj⟩ := hrel
    by_cases hlt : k < s.causes.length
    · have hd : decide ((k : Int) < s.causes.length) = true := by simp; omega
      obtain ⟨g, o, rfl, _, hc⟩ := hnu.out.1.rd.at_ (i := k) (by rw [nums_length, ids_len]; exact hlt)
      have c0 : wr.cell? ⟨g, o + k, none⟩ = some (.int .i64 ((k : Int) + 1)) := by
        have := hc k _ (nums_get (by rw [ids_len]; exact hlt))
        rwa [ids_el _ _ hlt] at this
      have hcb : wr.cell? ⟨Bn, 0, none⟩ = some (.pointer (some ⟨b, 0, none⟩)) := hbn.out.1.cell
      have c2 := hq.out.c2
      have hlook := hq.out.look0 ((k : Int) + 1) (wf_id k (by omega))
      rw [causeAt_succ _ _ hlt] at hlook
      have hfd := entry_field (el s.causes k) wr
      clear hc
      by_cases hz : el s.causes k = 0
      · have hz1 : (el s.causes k == 0) = true := by rw [beq_iff_eq]; exact hz
        have hll := liveK_lt s.causes k hlt hz
        have HLS : Hid (liveK s.causes (k + 1) = liveK s.causes k ++ [(k : Int) + 1]) := Lib.hid (by rw [liveK, if_pos hz])
        obtain ⟨fn, tmps, assign, body, hy, hR⟩ := hY (liveK s.causes k) ((k : Int) + 1) wr hj.out hll
        clear hz hll
        gi_wp2
        refine hR.mono ?_
        rintro e W3 (⟨rfl, hJ3, hk3⟩ | ⟨rfl, hJx3⟩)
        · have hq3 := Lib.hid (hq.out.below' hb hm hk3.below)
          have hb3 : Hid (Boxed W3 Bn 25 (.pointer (some ⟨b, 0, none⟩)) ∧ rowOf W3 bo ≠ some Bn) := Lib.hid ⟨hk3.cells Bn _ hbn.out.1 rfl hBo hbn.out.2, kept_ne hk3 hbn.out.1.lt hbn.out.2⟩
          have hn3 := Lib.hid (hnu.out.kept HBO.out hk3)
          gi_wp2
          go_roundw
          case rel => exact ⟨k + 1, by omega, by go_num, hb3, hq3, hn3, Lib.hid (by rw [HLS.out]; exact hJ3)⟩
          case measure => simp [intOf]; omega
        · gi_wp2
          refine bodyPost_ret (results_none rfl _ _ _) rfl ?_
          refine ⟨⟨_, rfl⟩, .inr ⟨_, ?_, hJx3⟩⟩
          rw [← HLS.out]
          have := liveK_prefix s.causes (k + 1) (s.causes.length - (k + 1))
          rwa [show k + 1 + (s.causes.length - (k + 1)) = s.causes.length by omega] at this
      · have hz1 : (el s.causes k == 0) = false := beq_eq_false_iff_ne.2 hz
        have HJ : Hid (J (liveK s.causes (k + 1)) wr) := Lib.hid (by rw [liveK, if_neg hz]; exact hj.out)
        clear hz
        gi_wp2
        refine ⟨fun _ hf => (by cases hf), ?_⟩
        gi_wp2
        go_roundw
        case rel => exact ⟨k + 1, by omega, by go_num, hbn, hq, hnu, HJ⟩
        case measure => simp [intOf]; omega
    · have hd : decide ((k : Int) < s.causes.length) = false := by simp; omega
      have HJ : Hid (J (liveL s.causes) wr) := Lib.hid (by
        have : k = s.causes.length := by omega
        rw [this] at hj
        exact hj.out)
      gi_wp2
      go_end0
      exact ⟨⟨_, rfl⟩, .inl ⟨_, rfl, HJ.out⟩⟩
end Go.Proofs.Ytlebigefknhgeaa
