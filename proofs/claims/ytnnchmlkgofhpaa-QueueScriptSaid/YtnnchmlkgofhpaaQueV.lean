/- The walks of the reference's queue that append: Feed, Bits; no conditions but the bounds that they name. -/
import Derived.Test.YtnnchmlkgofhpaaQueU
import Derived.Deep.RegionLaw
import Derived.Maps.AppendAt
set_option linter.unusedVariables false
set_option linter.unusedSimpArgs false
namespace Go.Proofs.Ytnnchmlkgofhpaa
open Go.RowKit
attribute [local go_sem] min_nat

set_option maxHeartbeats 1000000 in
theorem refFeed_done (w : World) (r : Nat) (s : Rs) (h : RQue w r s) (ho : s.over = true) (A : Option Addr) (n c : Nat) :
    Calls Try.prog 26 #[.pointer (some ⟨r, 0, none⟩), .slice A n c] w fun e w' => e = .returned (.tuple #[.int .i64 0, .int .i64 20]) ∧ w' = w := by
  obtain ⟨_, _, c0, c1, c2, c3, _, _, _, _⟩ := h.cells
  rw [ho] at c3
  clear h ho
  go_enter Try.func26, Try.ntmps26
  go_wp2
  go_ret2
  exact ⟨rfl, rfl⟩

/-- append(v, us..), us read from wherever it lies; and where the row lies then. -/
theorem run_append_at {P : Program} {W : World} (t ty e : TypeId) (z : Value) (bytes : Nat) (ht : P.underlying t = some (.slice e)) (hinfo : (P.info? e).map (fun i => (i.zero, i.size, i.bytes)) = some (some z, 1, bytes)) (hz : z.cells.size = 1)
    (base : Nat) (v : Value) (vs : List Value) (hown : Own W base e v vs) {A : Option Addr} {m : Nat} (c : Nat) {us : List Value} (hus : us.length = m) (hr : Rd W A us) (h1 : ∀ u ∈ us, u.oneCell' = true)
    (hbase : base ≤ W.heap.size) (hm : vs.length + m ≤ maxLen) (hl : (vs.length + m) * bytes ≤ 140737488355328) :
    ∃ v' w', (Builtin.append_ #[t, t] ty #[v, .slice A m c]).run P W = .ok v' w' ∧ Own w' base e v' (vs ++ us) ∧ W.grownBy w' v.ownBlock ∧ (v'.ownBlock = v.ownBlock ∨ v'.ownBlock = some W.heap.size) := by
  obtain ⟨i0, hi, hzz⟩ := Option.map_eq_some_iff.1 hinfo
  simp only [Prod.mk.injEq] at hzz
  obtain ⟨hz0, hz1, hz2⟩ := hzz
  cases A with
  | none =>
    have h0 : us = [] := by
      rcases hr with h | ⟨b, o, h, _⟩
      · exact h
      · cases h
    subst h0
    obtain rfl : m = 0 := by simpa using hus.symm
    refine ⟨v, W, ?_, by rw [List.append_nil]; exact hown, ⟨rfl, rfl, rfl, Nat.le_refl _, fun _ _ _ => rfl⟩, .inl rfl⟩
    rcases hown.2 with ⟨rfl, hn⟩ | ⟨g, cap, cur, rfl, _, _, hnc, _⟩
    · simp [Builtin.append_, run_underlying ht, sizeOf, typeInfo, hi, Builtin.lenOf, Builtin.firstCells]
    · simp [Builtin.append_, run_underlying ht, sizeOf, typeInfo, hi, Builtin.lenOf, Builtin.firstCells, hnc, storeCells]
  | some ad =>
    obtain ⟨v', w', h2, h3, h4, _, h5⟩ := run_append_own_at (P := P) W base t ty e i0 z 1 bytes ht hi hz0 hz1 hz2 hz (by omega) v vs.length vs hown ad m c us (by rw [hus, Nat.mul_one]) (fun j u hj => by
      rcases hr with h | ⟨b, o, h, _, hc⟩
      · rw [h] at hj; simp at hj
      · injection h with h
        subst h
        have ha : (⟨b, o, none⟩ : Addr).add j = ⟨b, o + j, none⟩ := by unfold Addr.add; split <;> simp_all
        rw [ha]
        exact hc j u hj) h1 hm hl hbase
    exact ⟨v', w', h2, by unfold Own; rw [List.length_append, hus]; exact h3, h4, h5⟩

/-- The same, as one step of a region that draws. -/
theorem step_append_at {P : Program} {ops : Array Oper} {o : Oper} {a : Act} {K : Act → World → Prop} {Q : Exit → Act → World → Prop} {E : Prop} {W : World} (hgd : o.guard = none) (s x : Operand) (t e : TypeId) (z : Value) (bytes : Nat)
    (ho : o.op = .call { callee := .builtin .append, args := #[s, x], argTypes := #[t, t] }) (ht : P.underlying t = some (.slice e)) (hinfo : (P.info? e).map (fun i => (i.zero, i.size, i.bytes)) = some (some z, 1, bytes)) (hz : z.cells.size = 1)
    (base : Nat) (v : Value) (vs : List Value) (A : Option Addr) (m c : Nat) (us : List Value) (hs : a.eval s = v) (hx : a.eval x = .slice A m c) (hown : Own W base e v vs) (hus : us.length = m) (hr : Rd W A us) (h1 : ∀ u ∈ us, u.oneCell' = true)
    (hbase : base ≤ W.heap.size) (hm : vs.length + m ≤ maxLen) (hl : (vs.length + m) * bytes ≤ 140737488355328)
    (h : ∀ v' w', Own w' base e v' (vs ++ us) → W.grownBy w' v.ownBlock → (v'.ownBlock = v.ownBlock ∨ v'.ownBlock = some W.heap.size) → K (a.put o.dst v') w') : if Region.wanted o (yielded ops a.tmps) = true then Oper.wp P o a W K Q else E := by
  obtain ⟨v', w', h2, h3, h4, h5⟩ := run_append_at (P := P) t o.type e z bytes ht hinfo hz base v vs hown c hus hr h1 hbase hm hl
  have hw : Region.wanted o (yielded ops a.tmps) = true := by simp [Region.wanted, hgd]
  rw [if_pos hw]
  unfold Oper.wp execOp
  simp only [ho, resolve, invoke, builtin, Sem.run_bind, Sem.run_pure, Result.andThen_ok, List.map_toArray, List.map_cons, List.map_nil, hs, hx, h2]
  exact h v' w' h3 h4 h5

/-- The reference's queue, whose row does not lie at gg. -/
def RQueF (w : World) (r : Nat) (s : Rs) (gg : Nat) : Prop :=
  (∃ v, Blk w r 64 [.int .i64 s.most, v, .int .i64 s.rd, .bool s.over] ∧ Own w (r + 1) 5 v (nums .u8 s.all) ∧ v.ownBlock ≠ some gg) ∧ r ≠ gg ∧ Rok s
theorem RQue.far {w : World} {r : Nat} {s : Rs} (h : RQue w r s) {gg : Nat} (hg : w.heap.size ≤ gg) : RQueF w r s gg := by
  have hlt := h.lt
  obtain ⟨⟨v, h1, h2⟩, h3⟩ := h
  exact ⟨⟨v, h1, h2, fun e => by have := (h2.base gg e).2; omega⟩, by omega, h3⟩
theorem RQueF.near {w : World} {r : Nat} {s : Rs} {gg : Nat} (h : RQueF w r s gg) : RQue w r s := by
  obtain ⟨⟨v, h1, h2, _⟩, _, h3⟩ := h
  exact ⟨⟨v, h1, h2⟩, h3⟩
theorem RQueF.below {w w' : World} {r : Nat} {s : Rs} {gg : Nat} (h : RQueF w r s gg) (hm : Below w.heap.size w w') : RQueF w' r s gg := by
  obtain ⟨⟨v, h1, h2, h4⟩, h3⟩ := h
  exact ⟨⟨v, h1.below hm, h2.below hm, h4⟩, h3⟩
theorem RQueF.mod {w w' : World} {r : Nat} {s : Rs} {gg : Nat} (h : RQueF w r s gg) {S : Nat → Prop} (hm : Mod S w w') (hn : ∀ i, r ≤ i → i ≠ gg → ¬ S i) : RQueF w' r s gg := by
  obtain ⟨⟨v, h1, h2, h4⟩, h5, h3⟩ := h
  exact ⟨⟨v, h1.mod hm (hn r (Nat.le_refl _) h5), h2.mod hm (fun k hk => hn k (by have := (h2.base k hk).1; omega) (fun e => h4 (by rw [← e]; exact hk))), h4⟩, h5, h3⟩
theorem RQueF.cells {w : World} {r : Nat} {s : Rs} {gg : Nat} (h : RQueF w r s gg) : ∃ A c, w.cell? ⟨r, 0, none⟩ = some (.int .i64 s.most) ∧ w.cell? ⟨r, 1, none⟩ = some (.slice A s.all.length c) ∧ w.cell? ⟨r, 2, none⟩ = some (.int .i64 s.rd) ∧ w.cell? ⟨r, 3, none⟩ = some (.bool s.over) ∧
    Blk w r 64 [.int .i64 s.most, .slice A s.all.length c, .int .i64 s.rd, .bool s.over] ∧ Own w (r + 1) 5 (.slice A s.all.length c) (nums .u8 s.all) ∧ s.all.length ≤ c ∧ c ≤ maxLen ∧ (Value.slice A s.all.length c).ownBlock ≠ some gg := by
  obtain ⟨⟨v, h1, h2, h6⟩, h3⟩ := h
  obtain ⟨A, c, rfl, h4, h5, _⟩ := own_nums h2
  exact ⟨A, c, h1.cell rfl, h1.cell rfl, h1.cell rfl, h1.cell rfl, h1, h2, h4, h5, h6⟩

theorem feed_end {w w7 : World} {r gg n K F : Nat} {s : Rs} {l : List Int} {A1 A9 : Option Addr} {c1 c9 LL : Nat} (H : RQueF w r s gg) (HB7 : Blk w7 r 64 [.int .i64 s.most, .slice A1 s.all.length c1, .int .i64 s.rd, .bool s.over])
    (HO7 : Own w7 (r + 1) 5 (.slice A9 LL c9) (nums .u8 (s.all ++ l.take K))) (HV7 : (Value.slice A9 LL c9).ownBlock ≠ some gg) (HM7 : Mod (fun i => r ≤ i ∧ i ≠ gg) w w7) (hKn : K ≤ n) (HN : l.length = n) (HM : s.all.length + n ≤ 100000) (HK : K = min n F) (HF : F = s.most - (s.all.length - s.rd / 8)) (HBY : bytes l) (hLL : LL = (s.all ++ l.take K).length) :
    RQueF (w7.setCell ⟨r, 1, none⟩ (.slice A9 LL c9)) r { s with all := s.all ++ l.take K } gg ∧ Mod (fun i => r ≤ i ∧ i ≠ gg) w (w7.setCell ⟨r, 1, none⟩ (.slice A9 LL c9)) := by
  obtain ⟨_, hrg, ok⟩ := H
  have hrd := ok.le
  have hro := ok.room
  refine ⟨⟨⟨.slice A9 LL c9, ?_, ?_, HV7⟩, hrg, ok.m1, ok.m2, ?_, ?_, ?_, app_bytes ok.bytes (take_bytes HBY K)⟩, HM7.set (.inr ⟨Nat.le_refl r, hrg⟩) _⟩
  · exact HB7.set 1 (.slice A9 LL c9)
  · exact HO7.mod (S := (· = r)) ((Mod.refl _ _).set1 _) (fun k hk e => by have := (HO7.base k hk).1; have e : k = r := e; omega)
  · show (s.all ++ l.take K).length ≤ 100000
    rw [List.length_append, List.length_take]
    omega
  · show s.rd ≤ 8 * (s.all ++ l.take K).length
    rw [List.length_append]
    omega
  · show (s.all ++ l.take K).length - s.rd / 8 ≤ s.most
    rw [List.length_append, List.length_take]
    omega

set_option maxHeartbeats 4000000 in
theorem refFeed_ok (w : World) (r : Nat) (s : Rs) (gg : Nat) (h : RQueF w r s gg) (hgg : gg < w.heap.size) (ho : s.over = false) (A : Option Addr) (n c : Nat) (l : List Int) (hn : l.length = n) (hnc : n ≤ c) (hm : s.all.length + n ≤ 100000) (hr : Rd w A (nums .u8 l)) (hb : bytes l) (K : Nat) (hK : K = min n (s.most - (s.all.length - s.rd / 8))) :
    Calls Try.prog 26 #[.pointer (some ⟨r, 0, none⟩), .slice A n c] w fun e w' => e = .returned (.tuple #[.int .i64 K, .int .i64 0]) ∧ RQueF w' r { s with all := s.all ++ l.take K } gg ∧ Mod (fun i => r ≤ i ∧ i ≠ gg) w w' := by
  obtain ⟨_, _, _, _, _, c3, _, _, _, _, _⟩ := h.cells
  rw [ho] at c3
  have H := Lib.hid h
  have HFR := Lib.hid (refFreeF w r s h.near)
  have HRD := Lib.hid hr
  have HBY := Lib.hid hb
  have HN := Lib.hid hn
  obtain ⟨F, hF⟩ : ∃ F, F = s.most - (s.all.length - s.rd / 8) := ⟨_, rfl⟩
  rw [← hF] at HFR hK
  have hKn : K ≤ n := by omega
  have hKc : K ≤ c := by omega
  have hn64 : n ≤ 100000 := by omega
  have hF64 : F ≤ 1048576 := by have := h.2.2.m2; omega
  have HK := Lib.hid hK
  have HF := Lib.hid hF
  have HM := Lib.hid hm
  clear h ho hr hb hn hF hm
  go_enter Try.func26, Try.ntmps26
  go_wp2_with fail
  refine HFR.out.mono ?_
  rintro e w2 ⟨rfl, hb2⟩
  obtain ⟨A1, c1, d0, d1, d2, d3, k1, k2, k3, k4, k5⟩ := (H.out.below hb2).cells
  have hr1 : r + 1 ≤ w2.heap.size := by have := k1.lt; omega
  have HK1 := Lib.hid k1
  have HK5 := Lib.hid k5
  have hg2 : gg < w2.heap.size := by have := hb2.size; omega
  have HK2 := Lib.hid k2
  have HB2 := Lib.hid hb2
  have HR2 := Lib.hid (HRD.out.below hb2)
  obtain ⟨L, hL⟩ : ∃ L, L = s.all.length := ⟨_, rfl⟩
  have HL := Lib.hid hL
  rw [← hL] at d1 k3
  have hLn : L + n ≤ 100000 := by rw [hL]; exact HM.out
  have eK : min n F = K := hK.symm
  clear k1 k2 k5 hb2 HFR HRD hL hK
  go_wp2
  go_region_law (
      refine step_append_at rfl (.tmp 20) (.tmp 23) 22 5 (.int .u8 0) 1 rfl Try.underlying22 q_info rfl (r + 1) (.slice A1 L c1) (nums .u8 s.all) A K c (nums .u8 (l.take K)) rfl rfl (by have h9 := HK2.out.drew; rw [← HL.out] at h9; exact h9) (by rw [nums_length, List.length_take, HN.out]; exact Nat.min_eq_left hKn) ((show Rd w2.drew A (nums .u8 l) from HR2.out).upto (List.take_prefix _ _)) u8_cells hr1 (by rw [nums_length, ← HL.out]; simp [maxLen]; omega) (by rw [nums_length, ← HL.out]; omega) ?_
      intro v7 w7 hown7 hg7 hv7
      rw [← nums_append] at hown7
      obtain ⟨A9, c9, rfl, _, _, _⟩ := own_nums hown7
      obtain ⟨LL, hLL⟩ : ∃ LL, LL = (s.all ++ l.take K).length := ⟨_, rfl⟩
      rw [← hLL] at hown7 hv7 ⊢
      have HLL := Lib.hid hLL
      clear hLL
      have hb7 : Blk w7 r 64 [.int .i64 s.most, .slice A1 s.all.length c1, .int .i64 s.rd, .bool s.over] := (hg7.block r HK1.out.lt (fun e => by have := (HK2.out.base r (by rw [← HL.out]; exact e.symm)).1; omega)).trans HK1.out
      have g1 := hb7.cell (i := 1) rfl
      have gf := hb7.free 1
      have HO7 := Lib.hid hown7
      have HB7 := Lib.hid hb7
      have HM7 : Hid (Mod (fun i => r ≤ i ∧ i ≠ gg) w w7) := Lib.hid ((Mod.of_below (below_drewN HB2.out 1)).grown hg7 (fun k hk => .inr ⟨by have := (HK2.out.base k (by rw [← HL.out]; exact hk)).1; omega, fun e => HK5.out (by rw [← HL.out, ← e]; exact hk)⟩))
      have HV7 : Hid ((Value.slice A9 LL c9).ownBlock ≠ some gg) := Lib.hid (fun e => by
        rcases hv7 with h | h
        · exact HK5.out (by rw [← HL.out, ← h]; exact e)
        · rw [h] at e
          injection e with e
          have e : w2.heap.size = gg := e
          omega)
      clear hown7 hb7 hg7 hv7)
  all_goals go_wp2
  all_goals go_ret2
  all_goals exact ⟨rfl, feed_end H.out HB7.out HO7.out HV7.out HM7.out hKn HN.out HM.out HK.out HF.out HBY.out HLL.out⟩
end Go.Proofs.Ytnnchmlkgofhpaa
