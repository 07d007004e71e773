/- The walks of ScanSpreads and ScanRuns: which pairs a block is, and which block pairs are, or why none; for every input. -/
import Derived.Test.YthjpdcbcgagbjaaScanJ
import Derived.Test.YthjpdcbcgagbjaaScanR
import Derived.Test.YthjpdcbcgagbjaaKfCopyInts
import Derived.Test.YthjpdcbcgagbjaaKfOverInts
set_option linter.unusedVariables false
set_option linter.unusedSimpArgs false
namespace Go.Proofs.Ythjpdcbcgagbjaa
open Go.RowKit

theorem pairs_cells {l : List (Int × Int)} : ∀ v ∈ pairsV l, v.oneCell' = true := by
  intro v hv
  obtain ⟨p, _, hp⟩ := List.mem_flatMap.1 hv
  simp at hp
  rcases hp with rfl | rfl <;> rfl
theorem OwnP.empty (w : World) (base : Nat) (hb : base ≤ w.heap.size) : OwnP (w.alloc (.cells #[] 39)) base (.slice (some ⟨w.heap.size, 0, none⟩) 0 0) [] :=
  ⟨rfl, .inr ⟨w.heap.size, 0, #[], rfl, hb, heap_alloc_new w _, Nat.le_refl _, by simp [maxLen], rfl, rfl⟩⟩
/-- append(v, us..), us read from wherever it lies. -/
theorem append_pairs {ops : Array Oper} {rest : List Oper} {o : Oper} {a : Act} {Q : Exit → Act → World → Prop} {W : World} (hgd : o.guard = none) (s x : Operand)
    (ho : o.op = .call { callee := .builtin .append, args := #[s, x], argTypes := #[22, 22] })
    (base : Nat) (v : Value) (l : List (Int × Int)) (A : Option Addr) (n c : Nat) (us : List (Int × Int)) (hs : a.eval s = v) (hx : a.eval x = .slice A n c)
    (hown : OwnP W base v l) (hus : us.length = n) (hr : Rd W A (pairsV us)) (hbase : base ≤ W.heap.size) (hm : l.length + n ≤ 1000000)
    (h : ∀ v' w', OwnP w' base v' (l ++ us) → W.grownBy w' v.ownBlock → wpList Try.prog ops Q rest (a.put o.dst v') w') : wpList Try.prog ops Q (o :: rest) a W := by
  obtain ⟨i0, hi, hzz⟩ := Option.map_eq_some_iff.1 pair_info
  simp only [Prod.mk.injEq] at hzz
  obtain ⟨hz0, hz1, hz2⟩ := hzz
  have key : ∃ v' w', (Builtin.append_ #[22, 22] o.type #[v, .slice A n c]).run Try.prog W = .ok v' w' ∧ OwnP w' base v' (l ++ us) ∧ W.grownBy w' v.ownBlock := by
    cases A with
    | none =>
      have h0 : us = [] := by
        rcases hr with h | ⟨b, o, h, _⟩
        · have := pairsV_len us
          rw [h] at this
          exact List.eq_nil_of_length_eq_zero (by simp at this; omega)
        · cases h
      subst h0
      obtain rfl : n = 0 := by simpa using hus.symm
      refine ⟨v, W, ?_, by rw [List.append_nil]; exact hown, ⟨rfl, rfl, rfl, Nat.le_refl _, fun _ _ _ => rfl⟩⟩
      rcases hown.2 with ⟨rfl, hn⟩ | ⟨g, cap, cur, rfl, _, _, hnc, _⟩
      · simp [Builtin.append_, run_underlying Try.underlying22, sizeOf, typeInfo, hi, Builtin.lenOf, Builtin.firstCells]
      · simp [Builtin.append_, run_underlying Try.underlying22, sizeOf, typeInfo, hi, Builtin.lenOf, Builtin.firstCells, hnc, storeCells]
    | some ad =>
      obtain ⟨v', w', h2, h3, h4, _⟩ := run_append_own_at (P := Try.prog) W base 22 o.type 39 i0 _ 2 16 Try.underlying22 hi hz0 hz1 hz2 rfl (by omega) v l.length (pairsV l) hown ad n c (pairsV us) (by rw [pairsV_len, hus]; omega) (fun j u hj => by
        rcases hr with h | ⟨b, o, h, _, hc⟩
        · rw [h] at hj; simp at hj
        · injection h with h
          subst h
          have ha : (⟨b, o, none⟩ : Addr).add j = ⟨b, o + j, none⟩ := by unfold Addr.add; split <;> simp_all
          rw [ha]
          exact hc j u hj) pairs_cells (by simp [maxLen]; omega) (by omega) hbase
      refine ⟨v', w', h2, ?_, h4⟩
      unfold OwnP
      rw [List.length_append, pairsV_append, hus]
      exact h3
  obtain ⟨v', w', h2, h3, h4⟩ := key
  refine wpList_plain hgd fun K hK => ?_
  unfold Oper.wp execOp
  simp only [ho, resolve, invoke, builtin, Sem.run_bind, Sem.run_pure, Result.andThen_ok, List.map_toArray, List.map_cons, List.map_nil, hs, hx, h2]
  exact hK _ _ (h v' w' h3 h4)

theorem Fresh.blk {w : World} {base : Nat} {A : Option Addr} {vs : List Value} (h : Fresh w base A vs) (a : Addr) (ha : A = some a) : base ≤ a.block ∧ a.block < w.heap.size := by
  rcases h with ⟨h, _⟩ | ⟨b, h, h1, h2⟩
  · rw [h] at ha; cases ha
  · rw [h] at ha; cases ha; exact ⟨h1, h2.lt⟩

set_option maxHeartbeats 1000000 in
theorem spreads_long (w : World) (A : Option Addr) (n c : Nat) (f i : Int) (h : 80 < n) (hm : n ≤ maxLen) :
    Calls Try.prog 3 #[.slice A n c, .int .i64 f, .int .i64 i] w fun e w' => e = .returned (.bool true) ∧ Below w.heap.size w w' := by
  unfold maxLen at hm
  have hd : decide ((80 : Int) < n) = true := by simp; omega
  clear h
  go_enter Try.func3, Try.ntmps3
  go_wp2_with fail
  refine (awakeF _).mono ?_
  rintro e w1 ⟨rfl, hb1⟩
  go_wp2
  go_ret
  exact ⟨rfl, hb1⟩

set_option maxHeartbeats 4000000 in
theorem spreads_short (w : World) (A : Option Addr) (n c : Nat) (f i : Int) (l : List (Int × Int)) (hn : l.length = n) (hm : n ≤ 80) (hr : Rd w A (pairsV l)) :
    Calls Try.prog 3 #[.slice A n c, .int .i64 f, .int .i64 i] w fun e w' => e = .returned (.bool true) ∧ Below w.heap.size w w' := by
  have HR : Hid (∀ W, Below w.heap.size w W → Rd W A (pairsV l)) := Lib.hid fun W hW => hr.below hW
  have HN := Lib.hid hn
  have hd : decide ((80 : Int) < n) = false := by simp; omega
  have HE := Lib.hid (OwnP.empty w w.heap.size (Nat.le_refl _))
  have HB0 := Lib.hid (below_new w (.cells #[] 39))
  clear hr hn
  go_enter Try.func3, Try.ntmps3
  go_wp2_with (refine append_pairs rfl (.tmp 21) (.tmp 22) rfl w.heap.size (.slice (some ⟨w.heap.size, 0, none⟩) 0 0) [] A n c l rfl rfl HE.out HN.out (HR.out _ HB0.out) (by simp) (by simp; omega) ?_; intro v1 w1 hown1 hg1)
  have HB1 := Lib.hid (HB0.out.grown hg1 (by simp) (fun k hk => by simp [Value.ownBlock] at hk; omega))
  obtain ⟨A1, c1, rfl, hf1⟩ := hown1.fresh
  have HI1 : Hid (Fresh w1 w.heap.size A1 (pairsV l)) := Lib.hid hf1
  have hl1 : ([] ++ l : List (Int × Int)).length = n := by simpa using HN.out
  rw [hl1]
  have HS1 := Lib.hid HB1.out.size
  clear HE HB0 hown1 hg1 hf1 hl1
  go_wp2_with fail
  refine (spreadF _ A1 n c1 l HN.out (by omega) HI1.out.rd f).mono ?_
  rintro e w2 ⟨⟨A2, m2, c2, rfl, hl2, hf2⟩, hb2⟩
  have HB2 := Lib.hid (below_then HB1.out hb2)
  have HI2 := Lib.hid (HI1.out.below hb2)
  have HF2 := Lib.hid hf2
  have HL2 : Hid ((spreadOf l f).1.length = m2) := Lib.hid (by rw [← nums_length .i64]; exact hl2)
  have hm2 : m2 ≤ 64 := by rw [← HL2.out]; exact spreadOf_len _ _
  have hwI : Hid (∀ a, A1 = some a → a.block < w1.heap.size) := Lib.hid (fun a ha => (HI1.out.blk a ha).2)
  clear HB1 HI1 hb2 hl2 hf2
  go_wp2_with fail
  refine (refSpreadF _ A n c l HN.out (by omega) (HR.out _ HB2.out) f).mono ?_
  rintro e w3 ⟨⟨A3, m3, c3, rfl, hl3, hf3⟩, hb3⟩
  have HB3 := Lib.hid (below_then HB2.out hb3)
  have HI3 := Lib.hid (HI2.out.below hb3)
  have HF3 := Lib.hid (HF2.out.below hb3)
  have HG3 := Lib.hid hf3.rd
  have HL3 : Hid ((spreadOf l f).1.length = m3) := Lib.hid (by rw [← nums_length .i64]; exact hl3)
  have hm3 : m3 ≤ 64 := by rw [← HL3.out]; exact spreadOf_len _ _
  clear HB2 HI2 HF2 hb3 hl3 hf3
  go_wp2_with fail
  refine (placeF _ i).mono ?_
  rintro e w4 ⟨rfl, hb4⟩
  have HB4 := Lib.hid (below_then HB3.out hb4)
  have HI4 := Lib.hid (HI3.out.below hb4)
  have HF4 := Lib.hid (HF3.out.below hb4)
  have HG4 := Lib.hid (HG3.out.below hb4)
  clear HB3 HI3 HF3 HG3 hb4
  go_wp2_with fail
  refine (refPlaceF _ i).mono ?_
  rintro e w5 ⟨rfl, hb5⟩
  have HB5 := Lib.hid (below_then HB4.out hb5)
  have HI5 := Lib.hid (HI4.out.below hb5)
  have HF5 := Lib.hid (HF4.out.below hb5)
  have HG5 := Lib.hid (HG4.out.below hb5)
  clear HB4 HI4 HF4 HG4 hb5
  go_wp2_with fail
  refine (sameInts _ A2 A3 m2 m3 c2 c3 _ _ HL2.out HL3.out (by omega) HF5.out.rd HG5.out).mono ?_
  rintro e w6 ⟨rfl, q, rfl⟩
  rw [decide_eq_true (rfl : (spreadOf l f).1 = (spreadOf l f).1)]
  have e1 : ((spreadOf l f).2 == (spreadOf l f).2) = true := by simp
  have e2 : ((placeOf i).1 == (placeOf i).1) = true := by simp
  have e3 : ((placeOf i).2 == (placeOf i).2) = true := by simp
  have HB6 := Lib.hid (below_drewN HB5.out q)
  have HI6 : Hid (Fresh (w5.drewN q) w.heap.size A1 (pairsV l)) := Lib.hid HI5.out
  have HF6 : Hid (Fresh (w5.drewN q) w1.heap.size A2 (nums .i64 (spreadOf l f).1)) := Lib.hid HF5.out
  clear HB5 HI5 HF5 HG5
  go_wp2_with fail
  refine (overInts _ w1.heap.size A2 c2 m2 _ HL2.out (by omega) HF6.out).mono ?_
  rintro e w7 ⟨rfl, hmod⟩
  have hb7 : Below w.heap.size w w7 := below_mod HB6.out hmod (fun j ⟨a, ha, hj⟩ => by
    have h1 := (HF6.out.blk a ha).1
    have h2 := HB6.out.size
    have h3 := HS1.out
    omega)
  have HB7 := Lib.hid hb7
  have HI7 : Hid (Rd w7 A1 (pairsV l)) := Lib.hid (HI6.out.rd.mod hmod (fun a ha ⟨a2, ha2, hj⟩ => by
    have h1 := (HF6.out.blk a2 ha2).1
    have h2 := hwI.out a ha
    omega))
  clear HB6 HI6 HF6 hmod hb7 hwI
  go_wp2_with fail
  refine (samePairs _ A1 A n n c1 c l l HN.out HN.out (by omega) HI7.out (HR.out _ HB7.out)).mono ?_
  rintro e w8 ⟨rfl, hb8⟩
  rw [decide_eq_true (rfl : l = l)]
  have HB8 := Lib.hid (below_then HB7.out hb8)
  go_wp2_with fail
  refine (awakeF _).mono ?_
  rintro e w9 ⟨rfl, hb9⟩
  have HB9 := Lib.hid (below_then HB8.out hb9)
  go_wp2
  go_ret
  exact ⟨rfl, HB9.out⟩

theorem scanSpreads_walk (a0 : Option Addr) (len0 cap0 : Nat) (z0 : List (Int × Int)) (a1 a2 : Int) (w : World) (w0 : IsPairs w a0 len0 cap0 z0) (w1 : (Lit.int .i64 a1).wf = true) (w2 : (Lit.int .i64 a2).wf = true) :
    Calls Try.prog 3 #[.slice a0 len0 cap0, .int .i64 a1, .int .i64 a2] w fun e w' => e = .returned (.bool true) ∧ Below w.heap.size w w' := by
  obtain ⟨h1, h2, h3, h4, h5⟩ := w0
  by_cases h : 80 < len0
  · exact spreads_long w a0 len0 cap0 a1 a2 h (by omega)
  · exact spreads_short w a0 len0 cap0 a1 a2 z0 h1 (by omega) h4

set_option maxHeartbeats 1000000 in
theorem runs_long (w : World) (A : Option Addr) (n c : Nat) (f : Int) (h : 80 < n) (hm : n ≤ maxLen) :
    Calls Try.prog 4 #[.slice A n c, .int .i64 f] w fun e w' => e = .returned (.bool true) ∧ Below w.heap.size w w' := by
  unfold maxLen at hm
  have hd : decide ((80 : Int) < n) = true := by simp; omega
  clear h
  go_enter Try.func4, Try.ntmps4
  go_wp2_with fail
  refine (awakeF _).mono ?_
  rintro e w1 ⟨rfl, hb1⟩
  go_wp2
  go_ret
  exact ⟨rfl, hb1⟩

set_option maxHeartbeats 4000000 in
theorem runs_short (w : World) (A : Option Addr) (n c : Nat) (f : Int) (l : List Int) (hn : l.length = n) (hm : n ≤ 80) (hr : Rd w A (nums .i64 l)) :
    Calls Try.prog 4 #[.slice A n c, .int .i64 f] w fun e w' => e = .returned (.bool true) ∧ Below w.heap.size w w' := by
  have HR : Hid (∀ W, Below w.heap.size w W → Rd W A (nums .i64 l)) := Lib.hid fun W hW => hr.below hW
  have HN := Lib.hid hn
  have hd : decide ((80 : Int) < n) = false := by simp; omega
  clear hr hn
  go_enter Try.func4, Try.ntmps4
  go_wp2_with fail
  refine (copyIntsF _ A n c l HN.out (by omega) (HR.out _ (Below.refl _ _))).mono ?_
  rintro e w1 ⟨⟨v, rfl, hv⟩, hb1⟩
  obtain ⟨A1, c1, rfl, _, _, hf1⟩ := hv.fresh
  rw [nums_length, HN.out]
  have HB1 := Lib.hid hb1
  have HI1 := Lib.hid hf1.rd
  clear hv hf1 hb1
  go_wp2_with fail
  refine (runsF _ A1 n c1 l HN.out HI1.out f).mono ?_
  rintro e w2 ⟨⟨A2, c2, rfl, hf2⟩, hb2⟩
  have HB2 := Lib.hid (below_then HB1.out hb2)
  have HI2 := Lib.hid (HI1.out.below hb2)
  have HF2 := Lib.hid hf2.rd
  clear HB1 HI1 hb2 hf2
  go_wp2_with fail
  refine (refRunsF _ A n c l HN.out (HR.out _ HB2.out) f).mono ?_
  rintro e w3 ⟨⟨A3, c3, rfl, hf3⟩, hb3⟩
  have HB3 := Lib.hid (below_then HB2.out hb3)
  have HI3 := Lib.hid (HI2.out.below hb3)
  have HF3 := Lib.hid (HF2.out.below hb3)
  have HG3 := Lib.hid hf3.rd
  clear HB2 HI2 HF2 hb3 hf3
  go_wp2_with fail
  refine (samePairs _ A2 A3 _ _ c2 c3 _ _ rfl rfl (by have := runsOf_len l f; omega) HF3.out HG3.out).mono ?_
  rintro e w4 ⟨rfl, hb4⟩
  rw [decide_eq_true (rfl : (runsOf l f).1 = (runsOf l f).1)]
  have e1 : ((runsOf l f).2 == (runsOf l f).2) = true := by simp
  have HB4 := Lib.hid (below_then HB3.out hb4)
  have HI4 := Lib.hid (HI3.out.below hb4)
  clear HB3 HI3 HF3 HG3 hb4
  go_wp2_with fail
  refine (sameInts _ A1 A n n c1 c l l HN.out HN.out (by omega) HI4.out (HR.out _ HB4.out)).mono ?_
  rintro e w5 ⟨rfl, q, rfl⟩
  rw [decide_eq_true (rfl : l = l)]
  have HB5 := Lib.hid (below_drewN HB4.out q)
  clear HB4 HI4
  go_wp2_with fail
  refine (awakeF _).mono ?_
  rintro e w6 ⟨rfl, hb6⟩
  have HB6 := Lib.hid (below_then HB5.out hb6)
  go_wp2
  go_ret
  exact ⟨rfl, HB6.out⟩

theorem scanRuns_walk (a0 : Option Addr) (len0 cap0 : Nat) (z0 : List Int) (a1 : Int) (w : World) (w0 : IsRow .i64 w a0 len0 cap0 z0) (w1 : (Lit.int .i64 a1).wf = true) :
    Calls Try.prog 4 #[.slice a0 len0 cap0, .int .i64 a1] w fun e w' => e = .returned (.bool true) ∧ Below w.heap.size w w' := by
  obtain ⟨h1, h2, h3, h4, h5⟩ := w0.rd
  by_cases h : 80 < len0
  · exact runs_long w a0 len0 cap0 a1 h (by omega)
  · exact runs_short w a0 len0 cap0 a1 _ h1 (by omega) h4
end Go.Proofs.Ythjpdcbcgagbjaa
