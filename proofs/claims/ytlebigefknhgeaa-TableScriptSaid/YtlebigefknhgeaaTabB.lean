/- The walk of table's closure live$1: the numbers of live sessions, rising; no conditions. -/
import Derived.RangeFuncBox
import Derived.RangeFuncLeaves
import Derived.RangeFuncBound
import Derived.Shelf.Abstract
import Derived.Shelf.RegionOpen
import Derived.OwnWalkIn
import Derived.TacticsInMore
import Derived.LoopNIn
import Derived.LoopIn
import Derived.Maps.AppendAt
import Derived.Maps.OwnIn
import Derived.BigRegionIn
import Derived.Test.YtlebigefknhgeaaTailIn
import Derived.Test.YtlebigefknhgeaaTabA
import Derived.Test.YtlebigefknhgeaaTabS
set_option linter.unusedVariables false
set_option linter.unusedSimpArgs false
namespace Go.Proofs.Ytlebigefknhgeaa
open Go.RowKit Go.Shelf Go.Maps

attribute [local go_sem] Oper.semAt_some

/-- The live sessions' numbers among the first k; all numbers. -/
def liveK (cs : List Int) : Nat → List Int
  | 0 => []
  | k + 1 => if el cs k = 0 then liveK cs k ++ [(k : Int) + 1] else liveK cs k
def liveL (cs : List Int) : List Int := liveK cs cs.length
def ids (n : Nat) : List Int := (List.range n).map fun i : Nat => (i : Int) + 1
theorem ids_len (n : Nat) : (ids n).length = n := by simp [ids]
theorem ids_el (n i : Nat) (h : i < n) : el (ids n) i = (i : Int) + 1 := el_map_range _ _ _ h
theorem liveK_len (cs : List Int) (k : Nat) : (liveK cs k).length ≤ k := by
  induction k with
  | zero => simp [liveK]
  | succ k ih =>
    rw [liveK]
    split
    · rw [List.length_append]; simp; omega
    · omega
theorem liveK_prefix (cs : List Int) (k d : Nat) : liveK cs k <+: liveK cs (k + d) := by
  induction d with
  | zero => exact List.prefix_refl _
  | succ d ih =>
    rw [show k + (d + 1) = (k + d) + 1 by omega, liveK]
    split
    · exact ih.trans (List.prefix_append _ _)
    · exact ih
theorem liveK_lt (cs : List Int) (k : Nat) (hk : k < cs.length) (h : el cs k = 0) : (liveK cs k).length < (liveL cs).length := by
  have h1 := (liveK_prefix cs (k + 1) (cs.length - (k + 1))).length_le
  rw [show k + 1 + (cs.length - (k + 1)) = cs.length by omega, liveK, if_pos h, List.length_append] at h1
  unfold liveL
  simp at h1
  omega
theorem causeAt_succ (cs : List Int) (k : Nat) (h : k < cs.length) : causeAt cs ((k : Int) + 1) = el cs k := by
  unfold causeAt
  rw [if_pos ⟨by omega, by omega⟩]
  congr 1
  omega
/-- A table's numbers, sorted, are 1, 2, .. -/
theorem sorted_ids {w : World} {m k : Nat} {D : DataW Unit} {cs ss : List Int} (h : w.ownsMap Try.prog 3 entR m k D) (hr : Reads D cs) (hp : ss.Perm (intKeys D)) : ss.mergeSort (fun x y => decide (x ≤ y)) = ids cs.length := by
  obtain ⟨es, hD, hpw, _⟩ := h.entries law
  obtain ⟨es', hD', hko⟩ := h.keysOf
  obtain rfl : es = es' := by rw [hD] at hD'; simpa using hD'
  subst hD
  have hid : (ids cs.length).Perm (intKeys (.map es)) := perm_intKeys hpw (fun p hp => by obtain ⟨v, hv⟩ := hko p hp; obtain ⟨x, _, hx, _⟩ := Maps.keyOf_i64 Try.underlying3 hv; exact ⟨x, hx⟩)
    (by
      unfold ids
      exact List.pairwise_map.2 ((List.nodup_range).imp fun hne e => hne (by omega)))
    (fun x => by
      rw [hr.has, decide_eq_true_iff]
      unfold ids
      rw [List.mem_map]
      constructor
      · rintro ⟨i, hi, rfl⟩
        have := List.mem_range.1 hi
        omega
      · rintro ⟨h1, h2⟩
        exact ⟨(x - 1).toNat, List.mem_range.2 (by omega), by omega⟩)
  have h1 : ss.mergeSort leI = (ids cs.length).mergeSort leI := mergeSort_of_perm_i (hp.trans hid.symm)
  show ss.mergeSort leI = _
  rw [h1]
  apply List.mergeSort_of_pairwise
  unfold ids
  rw [List.pairwise_map]
  exact List.pairwise_lt_range.imp fun h => by simp [leI]; omega

/-- The row that a boxed slice leads to. -/
def rowOf (W : World) (bo : Nat) : Option Nat := ((W.cell? ⟨bo, 0, none⟩).getD undef).ownBlock
/-- What a round that goes on keeps: what lay below n₀; and every row of cells but the collector's own box and row. -/
structure Kept (n₀ bo : Nat) (W W' : World) : Prop where
  below : Below n₀ W W'
  size : W.heap.size ≤ W'.heap.size
  cells : ∀ (k : Nat) (o : Obj), W.heap[k]? = some o → o.isCells = true → k ≠ bo → rowOf W bo ≠ some k → W'.heap[k]? = some o
  row : rowOf W' bo = rowOf W bo ∨ ∃ r, rowOf W' bo = some r ∧ W.heap.size ≤ r
theorem kept_t {n₀ bo : Nat} {A B C : World} (h : Kept n₀ bo A B) (k : Kept n₀ bo B C) : Kept n₀ bo A C where
  below := h.below.trans k.below
  size := Nat.le_trans h.size k.size
  cells i o hi ho h1 h2 := by
    have hlt : i < A.heap.size := (Array.getElem?_eq_some_iff.1 hi).1
    refine k.cells i o (h.cells i o hi ho h1 h2) ho h1 ?_
    rcases h.row with h3 | ⟨r, h3, h4⟩
    · rw [h3]; exact h2
    · rw [h3]; intro e; injection e with e; omega
  row := by
    rcases k.row with h3 | ⟨r, h3, h4⟩
    · rw [h3]; exact h.row
    · exact .inr ⟨r, h3, Nat.le_trans h.size h4⟩
theorem rowOf_put {bo l : Nat} (W : World) (o' : Obj) (h : bo ≠ l) : rowOf (W.putObj l o') bo = rowOf W bo := by
  unfold rowOf
  rw [World.cell?_of_block (w := W) (a := ⟨bo, 0, none⟩) (World.putObj_heap_other h)]
theorem kept_b {n₀ bo : Nat} {w : World} (hn : n₀ ≤ w.heap.size) (hbo : bo < w.heap.size) (W : World) (l : Nat) (o o' : Obj) (hl : w.heap.size ≤ l) (h : W.heap[l]? = some o) (hc : o.isCells = false) (hw : o.isWalk = false) : Kept n₀ bo W (W.putObj l o') where
  below := belowK_b hn W l o o' hl h hc hw
  size := by simp
  cells k o2 hk ho _ _ := by
    have : k ≠ l := fun e => by
      subst e
      rw [h] at hk
      injection hk with hk
      subst hk
      rw [hc] at ho
      cases ho
    exact (World.putObj_heap_other this).trans hk
  row := .inl (rowOf_put W o' (by omega))
theorem Tab.below' {w w' : World} {b m n₀ : Nat} {s : Ts} (h : Tab w b m s) (hb : b < n₀) (hm : m < n₀) (hk : Below n₀ w w') : Tab w' b m s := h.same (hk.block b hb) (hk.block m hm)

theorem sortsA (k : Nat) : AnyZI.SortsIn Try.prog lay_sortedA_ren Fence.wide k :=
  ⟨fun blk off cap ss W hH hblk hsz => callsIn_wide.2 (AnyM.slices_Sort_int lay_sortA blk off cap ss W hH hblk hsz),
   fun p cap W => callsIn_wide.2 (AnyM.slices_Sort_int_none lay_sortA p cap W)⟩

set_option maxHeartbeats 1000000 in
theorem keysF (mb : Option Nat) (W : World) : CallsIn Fence.wide 10 Try.prog 32 #[.map mb] W fun e w' =>
    e = .returned (.func (.func 35) #[] #[.pointer (some ⟨W.heap.size, 0, none⟩)]) ∧ w' = W.alloc (.cells #[.map mb] 46) := AnyZI.keys_in lay_keysA Fence.wide 10 trivial rfl mb W

set_option maxHeartbeats 1000000 in
theorem sortedF (W : World) (b m : Nat) (s : Ts) (h : Tab W b m s) :
    CallsIn Fence.wide 10 Try.prog 31 #[.func (.func 35) #[] #[.pointer (some ⟨W.heap.size, 0, none⟩)]] (W.alloc (.cells #[.map (some m)] 46)) fun e w' =>
      (∃ A c, e = .returned (.slice A s.causes.length c) ∧ Fresh w' W.heap.size A (nums .i64 (ids s.causes.length))) ∧ Below W.heap.size W w' := by
  obtain ⟨h1, ⟨D, h2, h3⟩, h4, h5, h6⟩ := h
  have hseq : SeqGives Fence.wide 7 Try.prog 35 #[.pointer (some ⟨W.heap.size, 0, none⟩)] encZ (fun ss => ss.Perm (intKeys D)) (Maps.size D) (W.alloc (.cells #[.map (some m)] 46)) :=
    AnyZI.keys_gives (ρ := lay_keysA_ren) { lay_keysA with } Fence.wide _ trivial rfl (by omega) W.heap.size m s.causes.length D _ (by simp) (by simp) (h2.alloc _)
  have cS := AnyZI.sorted_in lay_sortedA Fence.wide 10 trivial trivial trivial trivial rfl (by omega) (sortsA _) (enters_of Try.func34 (by kernel_rfl) rfl) 35 #[.pointer (some ⟨W.heap.size, 0, none⟩)] trivial (enters_of Try.func35 (by kernel_rfl) rfl) _ _ (by rw [h3.size]; simp [maxLen]; omega) (by rw [h3.size]; omega) _ hseq
  refine cS.mono ?_
  rintro e w' ⟨v, ss, rfl, hS, hrow, hnil, hb⟩
  rw [sorted_ids h2 h3 hS] at hrow
  have hlen : ss.length = s.causes.length := by
    have := congrArg List.length (sorted_ids h2 h3 hS)
    rwa [List.length_mergeSort, ids_len] at this
  rw [hlen] at hrow
  have hb2 : Below W.heap.size W w' := ((Below.refl _ W).alloc (Nat.le_refl _) _).trans (hb.mono (by simp))
  refine ⟨?_, hb2⟩
  rcases hrow.2 with ⟨rfl, h0⟩ | ⟨g, cap, cur, rfl, r2, r3, r4, r5, r6, r7⟩
  · refine ⟨none, 0, by rw [h0], .inl ⟨rfl, ?_⟩⟩
    rw [h0]
    rfl
  · refine ⟨_, cap, rfl, .inr ⟨g, rfl, by have : W.heap.size ≤ (W.alloc (.cells #[.map (some m)] 46)).heap.size := by simp
                                          omega, 3, cur.toList, by have r3 : w'.heap[g]? = some (.cells cur 3 (0, 0)) := r3; simpa [Blk] using r3, ?_⟩⟩
    have e : (ids s.causes.length).map encZ = nums .i64 (ids s.causes.length) := rfl
    rw [← e, ← r7]
    exact List.take_prefix _ _
end Go.Proofs.Ytlebigefknhgeaa
