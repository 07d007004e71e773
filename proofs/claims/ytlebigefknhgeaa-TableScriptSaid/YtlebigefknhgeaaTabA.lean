/- What a table is, and the walks of its small methods: New, none, Last, Cause; no conditions but the bounds that they name. -/
import Derived.Maps.Own
import Derived.Maps.OwnOps
import Derived.Maps.OwnSet
import Derived.Maps.Views
import Derived.Lib.SlKeysI
import Derived.Test.YtlebigefknhgeaaKit
import Derived.Test.YtlebigefknhgeaaProg
set_option linter.unusedVariables false
set_option linter.unusedSimpArgs false
namespace Go.Proofs.Ytlebigefknhgeaa
open Go.RowKit Go.Maps

/-- A table's state: how many may be live, and all sessions' causes (0: it is live), in order. -/
structure Ts where
  most : Nat
  causes : List Int

/-- The cells of its struct. -/
def tcells (m : Nat) (s : Ts) : List Value := [.int .i64 s.most, .int .i64 s.causes.length, .map (some m)]
/-- How an entry reads. -/
def numIn : List Value → Option Int
  | [.int .i64 c] => some c
  | _ => none
theorem numIn_inv {l : List Value} {c : Int} (h : numIn l = some c) : l = [.int .i64 c] := by
  unfold numIn at h
  split at h
  · injection h with h
    rw [h]
  · cases h
def entR (v : Value) : Option (DataW Unit × List MemPlace) := match v with
  | .agg cs => (numIn cs.toList).map fun c => (.lit (.int .i64 c), [])
  | _ => none
theorem entR_inv {v : Value} {z : DataW Unit × List MemPlace} (h : entR v = some z) : ∃ c, v = .agg #[.int .i64 c] ∧ z = (.lit (.int .i64 c), []) := by
  cases v <;> simp only [entR] at h <;> try cases h
  obtain ⟨c, hc, rfl⟩ := Option.map_eq_some_iff.1 h
  exact ⟨c, congrArg Value.agg (Array.toList_inj.1 (numIn_inv hc)), rfl⟩
/-- Why session id ended; 0 where there is none. -/
def causeAt (cs : List Int) (id : Int) : Int := if 1 ≤ id ∧ id ≤ cs.length then el cs (id - 1).toNat else 0
structure Reads (D : DataW Unit) (cs : List Int) : Prop where
  has : ∀ x : Int, Maps.has D (.int .i64 x) = decide (1 ≤ x ∧ x ≤ cs.length)
  at_ : ∀ x : Int, D.atKey (.int .i64 x) (.lit (.int .i64 0)) = .lit (.int .i64 (causeAt cs x))
  size : Maps.size D = cs.length
theorem key_lit (x : Int) : WideAt.IsKeyLit (.int .i64 x) := trivial
theorem key_ne {x y : Int} (h : x ≠ y) : (Lit.int .i64 x) ≠ .int .i64 y := fun e => h (by injection e)
theorem Reads.new : Reads (.map []) [] where
  has x := by
    show false = _
    rw [eq_comm, decide_eq_false_iff_not]
    simp
    omega
  at_ x := by
    have : causeAt [] x = 0 := by
      unfold causeAt
      split
      · rename_i h; simp at h; omega
      · rfl
    rw [this]
    rfl
  size := rfl
theorem Reads.push {D : DataW Unit} {cs : List Int} (h : Reads D cs) (hT : Tidy D) (hD : IsMap D) : Reads (D.put (.int .i64 ((cs.length : Int) + 1)) (.lit (.int .i64 0))) (cs ++ [0]) where
  has x := by
    by_cases hx : x = (cs.length : Int) + 1
    · subst hx
      rw [has_put_same hD (key_lit _), eq_comm, decide_eq_true_iff, List.length_append]
      simp
      omega
    · rw [has_put_other (key_ne hx), h.has, List.length_append]
      congr 1
      simp
      omega
  at_ x := by
    by_cases hx : x = (cs.length : Int) + 1
    · subst hx
      rw [atKey_put_same hD (key_lit _)]
      have : causeAt (cs ++ [0]) ((cs.length : Int) + 1) = 0 := by
        unfold causeAt
        split
        · rw [el_append, if_neg (by omega)]
          have : ((cs.length : Int) + 1 - 1).toNat - cs.length = 0 := by omega
          rw [this]; rfl
        · rfl
      rw [this]
    · rw [atKey_put_other (key_ne hx), h.at_]
      have : causeAt (cs ++ [0]) x = causeAt cs x := by
        unfold causeAt
        rw [List.length_append]
        by_cases h1 : 1 ≤ x ∧ x ≤ cs.length
        · rw [if_pos h1, if_pos ⟨h1.1, by simp; omega⟩, el_append, if_pos (by omega)]
        · rw [if_neg h1, if_neg (by simp; omega)]
      rw [this]
  size := by
    rw [size_put hT, h.has, h.size, List.length_append]
    rw [if_neg (by simp; omega)]
    rfl
theorem Reads.set {D : DataW Unit} {cs : List Int} (h : Reads D cs) (hT : Tidy D) (hD : IsMap D) (id : Int) (h1 : 1 ≤ id) (h2 : id ≤ cs.length) (c : Int) : Reads (D.put (.int .i64 id) (.lit (.int .i64 c))) (cs.set (id - 1).toNat c) where
  has x := by
    by_cases hx : x = id
    · subst hx
      rw [has_put_same hD (key_lit _), eq_comm, decide_eq_true_iff, List.length_set]
      exact ⟨h1, h2⟩
    · rw [has_put_other (key_ne hx), h.has, List.length_set]
  at_ x := by
    by_cases hx : x = id
    · subst hx
      rw [atKey_put_same hD (key_lit _)]
      unfold causeAt
      rw [List.length_set, if_pos ⟨h1, h2⟩, el_set, if_pos ⟨rfl, by omega⟩]
    · rw [atKey_put_other (key_ne hx), h.at_]
      unfold causeAt
      rw [List.length_set]
      by_cases h3 : 1 ≤ x ∧ x ≤ cs.length
      · rw [if_pos h3, if_pos h3, el_set, if_neg (by omega)]
      · rw [if_neg h3, if_neg h3]
  size := by
    rw [size_put hT, h.has, h.size, List.length_set]
    rw [if_pos (by rw [decide_eq_true_iff]; exact ⟨h1, h2⟩)]
theorem renorm {w : World} {m k : Nat} {D : DataW Unit} (h : w.ownsMap Try.prog 3 entR m k D) {n : Nat} (hn : Maps.size D ≤ n) : w.ownsMap Try.prog 3 entR m n D := by
  obtain ⟨es, clock, hb, F, _, hD⟩ := h
  refine ⟨es, clock, hb, F, ?_, hD⟩
  rw [hD] at hn
  simpa [Maps.size, length_sorted] using hn

/-- Block b is a table's struct, block m its map. -/
def Tab (w : World) (b m : Nat) (s : Ts) : Prop :=
  Blk w b 48 (tcells m s) ∧ (∃ D, w.ownsMap Try.prog 3 entR m s.causes.length D ∧ Reads D s.causes) ∧ b ≠ m ∧ (1 ≤ s.most ∧ s.most ≤ 64) ∧ s.causes.length ≤ 1000

theorem ownsMap_same {w w' : World} {m n : Nat} {D : DataW Unit} (h : w.ownsMap Try.prog 3 entR m n D) (hb : w'.heap[m]? = w.heap[m]?) : w'.ownsMap Try.prog 3 entR m n D := by
  obtain ⟨es, clock, h1, h2⟩ := h
  exact ⟨es, clock, hb.trans h1, h2⟩
theorem Tab.same {w w' : World} {b m : Nat} {s : Ts} (h : Tab w b m s) (hb : w'.heap[b]? = w.heap[b]?) (hm : w'.heap[m]? = w.heap[m]?) : Tab w' b m s := by
  obtain ⟨h1, ⟨D, h2, h3⟩, h4⟩ := h
  exact ⟨hb.trans h1, ⟨D, ownsMap_same h2 hm, h3⟩, h4⟩
theorem Tab.lt {w : World} {b m : Nat} {s : Ts} (h : Tab w b m s) : b < w.heap.size ∧ m < w.heap.size := by
  obtain ⟨h1, ⟨D, h2, h3⟩, h4⟩ := h
  exact ⟨h1.lt, h2.lt⟩
theorem Tab.below {w w' : World} {b m : Nat} {s : Ts} (h : Tab w b m s) (hm : Below w.heap.size w w') : Tab w' b m s := h.same (hm.block b h.lt.1) (hm.block m h.lt.2)
theorem Tab.mod {w w' : World} {b m : Nat} {s : Ts} (h : Tab w b m s) {S : Nat → Prop} (hm : Mod S w w') (h1 : ¬ S b) (h2 : ¬ S m) : Tab w' b m s := h.same (hm.block b h.lt.1 h1) (hm.block m h.lt.2 h2)
theorem Tab.drewN {w : World} {b m : Nat} {s : Ts} (h : Tab w b m s) (n : Nat) : Tab (w.drewN n) b m s := h
theorem Tab.c0 {w : World} {b m : Nat} {s : Ts} (h : Tab w b m s) : w.cell? ⟨b, 0, none⟩ = some (.int .i64 s.most) := h.1.cell rfl
theorem Tab.c1 {w : World} {b m : Nat} {s : Ts} (h : Tab w b m s) : w.cell? ⟨b, 1, none⟩ = some (.int .i64 s.causes.length) := h.1.cell rfl
theorem Tab.c2 {w : World} {b m : Nat} {s : Ts} (h : Tab w b m s) : w.cell? ⟨b, 2, none⟩ = some (.map (some m)) := h.1.cell rfl

theorem law : Keyed Try.prog 3 := int_keyed Try.underlying3
theorem zeroE (w : World) : (zeroValue 56).run Try.prog w = .ok (.agg #[.int .i64 0]) w := by kernel_rfl
theorem hkey (x : Int) (h : (Lit.int .i64 x).wf = true) : keyOf Try.prog 3 (.int .i64 x) = some (.int .i64 x) := keyOf_int_mk Try.underlying3 h
theorem Tab.look {w : World} {b m : Nat} {s : Ts} (h : Tab w b m s) (id : Int) (hid : (Lit.int .i64 id).wf = true) :
    (Instr.lookup 46 (.map (some m)) (.int .i64 id) true).run Try.prog w = .ok (.tuple #[.agg #[.int .i64 (causeAt s.causes id)], .bool (decide (1 ≤ id ∧ id ≤ s.causes.length))]) w := by
  obtain ⟨h1, ⟨D, h2, h3⟩, h4⟩ := h
  obtain ⟨v, ps, hrun, hv⟩ := h2.look_ok law Try.underlying46 (zeroE w) (zd := .lit (.int .i64 0)) (zp := []) rfl (hkey id hid)
  obtain ⟨c, rfl, hc⟩ := entR_inv hv
  rw [h3.at_] at hc
  simp only [Prod.mk.injEq, DataW.lit.injEq, Lit.int.injEq, true_and] at hc
  rw [hrun, h3.has, hc.1]
theorem Tab.look0 {w : World} {b m : Nat} {s : Ts} (h : Tab w b m s) (id : Int) (hid : (Lit.int .i64 id).wf = true) :
    (Instr.lookup 46 (.map (some m)) (.int .i64 id) false).run Try.prog w = .ok (.agg #[.int .i64 (causeAt s.causes id)]) w := by
  obtain ⟨h1, ⟨D, h2, h3⟩, h4⟩ := h
  obtain ⟨v, ps, hrun, hv⟩ := h2.lookup law Try.underlying46 (zeroE w) (zd := .lit (.int .i64 0)) (zp := []) rfl (hkey id hid)
  obtain ⟨c, rfl, hc⟩ := entR_inv hv
  rw [h3.at_] at hc
  simp only [Prod.mk.injEq, DataW.lit.injEq, Lit.int.injEq, true_and] at hc
  rw [hrun, hc.1]

set_option maxHeartbeats 1000000 in
theorem new_no (w : World) (n : Int) (h : n < 1 ∨ 64 < n) :
    Calls Try.prog 9 #[.int .i64 n] w fun e w' => e = .returned (.tuple #[.pointer none, .int .i64 3]) ∧ w' = w := by
  by_cases h1 : n < 1
  · clear h
    go_enter Try.func9, Try.ntmps9
    go_wp2
    go_ret2
    exact ⟨rfl, rfl⟩
  · have h2 : 64 < n := by omega
    clear h
    go_enter Try.func9, Try.ntmps9
    go_wp2
    go_ret2
    exact ⟨rfl, rfl⟩

def newT (n : Nat) : Ts := ⟨n, []⟩
set_option maxHeartbeats 1000000 in
theorem new_ok (w : World) (n : Nat) (h1 : 1 ≤ n) (h2 : n ≤ 64) :
    Calls Try.prog 9 #[.int .i64 n] w fun e w' => (∃ b m, e = .returned (.tuple #[.pointer (some ⟨b, 0, none⟩), .int .i64 0]) ∧ w.heap.size ≤ b ∧ w.heap.size ≤ m ∧ Tab w' b m (newT n)) ∧ Below w.heap.size w w' := by
  have hi1 : (1 : Int) ≤ n := by omega
  have hi2 : (n : Int) ≤ 64 := by omega
  have hmm := @run_makeMap Try.prog
  go_enter Try.func9, Try.ntmps9
  go_wp2
  go_ret2
  refine ⟨⟨w.heap.size + 1, w.heap.size, rfl, by omega, Nat.le_refl _, ?_, ⟨.map [], (World.ownsMap_made _ _ _ _).alloc _, Reads.new⟩, by omega, ⟨h1, h2⟩, by simp [newT]⟩, below_alloc (below_alloc (Below.refl _ _) _) _⟩
  have h := Blk.new (w.alloc (.map #[] 0)) 48 (tcells w.heap.size (newT n))
  rw [World.size_alloc] at h
  exact h

set_option maxHeartbeats 1000000 in
theorem none_no (w : World) (b m : Nat) (s : Ts) (h : Tab w b m s) :
    Calls Try.prog 25 #[.pointer (some ⟨b, 0, none⟩)] w fun e w' => e = .returned (.bool false) ∧ w' = w := by
  have h0 := h.c0
  have hne : ((s.most : Int) == 0) = false := beq_eq_false_iff_ne.2 (by have := h.2.2.2.1.1; omega)
  go_enter Try.func25, Try.ntmps25
  go_wp2
  go_ret
  exact ⟨rfl, rfl⟩

set_option maxHeartbeats 1000000 in
theorem lastF (w : World) (b m : Nat) (s : Ts) (h : Tab w b m s) :
    Calls Try.prog 13 #[.pointer (some ⟨b, 0, none⟩)] w fun e w' => e = .returned (.int .i64 s.causes.length) ∧ w' = w := by
  have h1 := h.c1
  have H := Lib.hid h
  clear h
  go_enter Try.func13, Try.ntmps13
  go_wp2_with fail
  refine (none_no _ b m s H.out).mono ?_
  rintro e w1 ⟨rfl, rfl⟩
  go_wp2
  go_ret
  exact ⟨rfl, rfl⟩

set_option maxHeartbeats 1000000 in
theorem causeF (w : World) (b m : Nat) (s : Ts) (h : Tab w b m s) (id : Int) (hid : (Lit.int .i64 id).wf = true) :
    Calls Try.prog 22 #[.pointer (some ⟨b, 0, none⟩), .int .i64 id] w fun e w' => e = .returned (.tuple #[.int .i64 (causeAt s.causes id), .int .i64 (if 1 ≤ id ∧ id ≤ s.causes.length then 0 else 18)]) ∧ Below w.heap.size w w' := by
  have h2 := h.c2
  have hl := h.look id hid
  have H := Lib.hid h
  clear h
  by_cases hin : 1 ≤ id ∧ id ≤ s.causes.length
  · rw [if_pos hin]
    have hd : decide (1 ≤ id ∧ id ≤ s.causes.length) = true := by rw [decide_eq_true_iff]; exact hin
    rw [hd] at hl
    clear hin hd
    go_enter Try.func22, Try.ntmps22
    go_wp2_with fail
    refine (none_no _ b m s H.out).mono ?_
    rintro e w1 ⟨rfl, rfl⟩
    go_wp2
    go_ret2
    exact ⟨rfl, below_alloc (Below.refl _ _) _⟩
  · rw [if_neg hin]
    have hd : decide (1 ≤ id ∧ id ≤ s.causes.length) = false := by rw [decide_eq_false_iff_not]; exact hin
    rw [hd] at hl
    have hc0 : causeAt s.causes id = 0 := by unfold causeAt; rw [if_neg hin]
    rw [hc0] at hl ⊢
    clear hin hd hc0
    go_enter Try.func22, Try.ntmps22
    go_wp2_with fail
    refine (none_no _ b m s H.out).mono ?_
    rintro e w1 ⟨rfl, rfl⟩
    go_wp2
    go_ret2
    exact ⟨rfl, below_alloc (Below.refl _ _) _⟩

/-- What End leaves, and tells. -/
def endT (s : Ts) (id c : Int) : Ts × Int :=
  if c = 0 then (s, 2) else if 1 ≤ id ∧ id ≤ s.causes.length then (if causeAt s.causes id = 0 then ({ s with causes := s.causes.set (id - 1).toNat c }, 0) else (s, 19)) else (s, 18)

set_option maxHeartbeats 1000000 in
theorem endF (w : World) (b m : Nat) (s : Ts) (h : Tab w b m s) (id c : Int) (hid : (Lit.int .i64 id).wf = true) (hc : (Lit.int .i64 c).wf = true) :
    Calls Try.prog 11 #[.pointer (some ⟨b, 0, none⟩), .int .i64 id, .int .i64 c] w fun e w' => e = .returned (.int .i64 (endT s id c).2) ∧ Tab w' b m (endT s id c).1 ∧ Mod (· = m) w w' := by
  have H := Lib.hid h
  by_cases h0 : c = 0
  · have hd : (c == 0) = true := by rw [beq_iff_eq]; exact h0
    have HT : Hid (endT s id c = (s, 2)) := Lib.hid (by unfold endT; rw [if_pos h0])
    rw [HT.out]
    clear h0 h HT
    go_enter Try.func11, Try.ntmps11
    go_wp2_with fail
    refine (none_no _ b m s H.out).mono ?_
    rintro e w1 ⟨rfl, rfl⟩
    go_wp2
    go_ret
    exact ⟨rfl, H.out, Mod.refl _ _⟩
  have hd : (c == 0) = false := beq_eq_false_iff_ne.2 h0
  have HC := Lib.hid (causeF w b m s h id hid)
  by_cases hin : 1 ≤ id ∧ id ≤ s.causes.length
  · rw [if_pos hin] at HC
    by_cases hz : causeAt s.causes id = 0
    · have HT : Hid (endT s id c = ({ s with causes := s.causes.set (id - 1).toNat c }, 0)) := Lib.hid (by unfold endT; rw [if_neg h0, if_pos hin, if_pos hz])
      rw [HT.out]
      rw [hz] at HC
      have HI := Lib.hid hin
      clear h0 h HT hz hin
      go_enter Try.func11, Try.ntmps11
      go_wp2_with fail
      refine (none_no _ b m s H.out).mono ?_
      rintro e w1 ⟨rfl, rfl⟩
      go_wp2_with fail
      refine HC.out.mono ?_
      rintro e w2 ⟨rfl, hb2⟩
      have HB2 := Lib.hid hb2
      obtain ⟨g1, ⟨D, g2, g3⟩, g4, g5, g6⟩ := H.out.below hb2
      have c2 := (H.out.below hb2).c2
      have HG1 := Lib.hid g1
      have HG2 := Lib.hid g2
      have HG3 := Lib.hid g3
      clear hb2 g1 g2 g3
      go_wp2_with (at_mapUpdate; refine wpList_mapUpdate_own _ rfl _ _ _ 46 rfl 3 56 law Try.underlying46 entR m s.causes.length D rfl HG2.out (by simp [maxLen]; omega) _ _ (.int .i64 id) rfl rfl (hkey id hid) (.lit (.int .i64 c)) [] rfl ?_; intro w3 hown3 hgr3)
      go_ret
      have ht := HG2.out.tidy law
      have hr := HG3.out.set ht ht.isMap id HI.out.1 HI.out.2 c
      refine ⟨rfl, ⟨?_, ⟨_, renorm hown3 (Nat.le_of_eq hr.size), hr⟩, g4, g5, by rw [List.length_set]; exact g6⟩, ?_⟩
      · have : tcells m { s with causes := s.causes.set (id - 1).toNat c } = tcells m s := by unfold tcells; simp
        rw [this]
        exact (hgr3.block b HG1.out.lt (fun e => g4 (by injection e))).trans HG1.out
      · exact (Mod.of_below HB2.out).grown hgr3 (fun k hk => .inr (by injection hk with hk; exact hk.symm))
    · have HT : Hid (endT s id c = (s, 19)) := Lib.hid (by unfold endT; rw [if_neg h0, if_pos hin, if_neg hz])
      rw [HT.out]
      have hz2 : (causeAt s.causes id != 0) = true := by rw [bne_iff_ne]; exact hz
      clear h0 h HT hz hin
      go_enter Try.func11, Try.ntmps11
      go_wp2_with fail
      refine (none_no _ b m s H.out).mono ?_
      rintro e w1 ⟨rfl, rfl⟩
      go_wp2_with fail
      refine HC.out.mono ?_
      rintro e w2 ⟨rfl, hb2⟩
      go_wp2
      go_ret
      exact ⟨rfl, H.out.below hb2, Mod.of_below hb2⟩
  · rw [if_neg hin] at HC
    have HT : Hid (endT s id c = (s, 18)) := Lib.hid (by unfold endT; rw [if_neg h0, if_neg hin])
    rw [HT.out]
    clear h0 h HT hin
    go_enter Try.func11, Try.ntmps11
    go_wp2_with fail
    refine (none_no _ b m s H.out).mono ?_
    rintro e w1 ⟨rfl, rfl⟩
    go_wp2_with fail
    refine HC.out.mono ?_
    rintro e w2 ⟨rfl, hb2⟩
    go_wp2
    go_ret
    exact ⟨rfl, H.out.below hb2, Mod.of_below hb2⟩
end Go.Proofs.Ytlebigefknhgeaa
