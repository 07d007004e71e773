/- The walk of scan.places: the order as an array; no conditions. -/
import Derived.Test.YthjpdcbcgagbjaaScanA
import Derived.Laws.Tables
import Derived.Laws.Rows
import Derived.Laws.CopyRow
set_option linter.unusedVariables false
set_option linter.unusedSimpArgs false
namespace Go.Proofs.Ythjpdcbcgagbjaa
open Go.RowKit Go.Shelf

attribute [local go_sem] Oper.semAt_some

/-- What has come, and noughts behind. -/
def arr (pre : List Int) : List Int := pre ++ List.replicate (64 - pre.length) 0
theorem arr_set (pre : List Int) (x : Int) (h : pre.length < 64) : (arr pre).set pre.length x = arr (pre ++ [x]) := by
  unfold arr
  rw [List.set_append_right _ _ (Nat.le_refl _), Nat.sub_self, List.append_assoc, List.length_append]
  congr 1
  rw [show 64 - pre.length = (64 - (pre.length + 1)) + 1 by omega, List.replicate_succ, List.set_cons_zero]
  rfl
theorem arr_len (pre : List Int) (h : pre.length ≤ 64) : (arr pre).length = 64 := by unfold arr; simp; omega
theorem arr_all : arr orderL = orderL := by rw [orderL_eq]; decide +kernel
theorem arr_nil : arr [] = List.replicate 64 0 := rfl
theorem orderL_len : orderL.length = 64 := by rw [orderL_eq]; rfl
theorem blk_own {b : Nat} {T : TypeId} (f : List Int → List Value) : Go.Own (fun s W => Blk W b T (f s)) := fun s A B row hs hg hr =>
  (hg.block b hs.lt (fun e => by
    obtain ⟨o, ho, hc⟩ := hr b e.symm
    rw [show A.heap[b]? = _ from hs] at ho
    cases ho
    cases hc)).trans hs

theorem order_stops (n : Nat) (hn : 1 ≤ n) (w : World) :
    SeqStopsK Fence.wide n Try.prog 29 #[] (fun x : Int => #[Value.int .i64 x]) (fun _ _ => True) (fun ys => ys = orderL) (fun pre => pre <+: orderL) 64 w := fun l J Jx W hW hJ _ hY h0 =>
  order1_in n hn l _ J Jx hY W h0

set_option maxHeartbeats 1000000 in
theorem order_in (n : Nat) (w : World) :
    CallsIn Fence.wide n Try.prog 28 #[] w fun e w' => e = .returned (.func (.func 29) #[] #[]) ∧ w' = w := by
  refine callsIn_of_wp Try.func28 rfl trivial ?_ rfl
  simp only [Try.ntmps28, List.size_toArray, List.length_cons, List.length_nil, Nat.reduceAdd, Nat.reduceSub, Array.replicate_succ, Array.replicate_zero, List.push_toArray, List.append_toArray, List.nil_append, List.cons_append]
  gi_wp2
  go_ret
  exact ⟨rfl, rfl⟩

set_option maxRecDepth 100000 in
set_option maxHeartbeats 4000000 in
theorem placesF (w : World) :
    Calls Try.prog 25 #[] w fun e W' => e = .returned (.agg (nums .i64 orderL).toArray) ∧ Below w.heap.size w W' := by
  refine (callsIn_wide (n := 6)).1 ?_
  have hfn1 : Fence.wide.fn 28 := trivial
  have HA := Lib.hid (Blk.new w 48 (nums .i64 (List.replicate 64 0)))
  refine callsIn_of_wp_marks Try.func25 rfl trivial ?_ rfl
  simp only [Try.ntmps25, List.size_toArray, List.length_cons, List.length_nil, Nat.reduceAdd, Nat.reduceSub, Array.replicate_succ, Array.replicate_zero, List.push_toArray, List.append_toArray, List.nil_append, List.cons_append]
  gi_wp2_with (gi_at_call 28; refine (order_in _ _).mono ?_; rintro e w2 ⟨rfl, rfl⟩)
  have HI := Lib.hid (Boxed.new (w.alloc (.cells (nums .i64 (List.replicate 64 0)).toArray 48)) 3 (.int .i64 0))
  have HB0 := Lib.hid (below_alloc (below_alloc (Below.refl w.heap.size w) (.cells (nums .i64 (List.replicate 64 0)).toArray 48)) (.cells #[.int .i64 0] 3))
  obtain ⟨W0, hW0⟩ : ∃ W0, W0 = (w.alloc (.cells (nums .i64 (List.replicate 64 0)).toArray 48)).alloc (.cells #[.int .i64 0] 3) := ⟨_, rfl⟩
  have hA0 : Blk W0 w.heap.size 48 (nums .i64 (arr [])) := by rw [hW0, arr_nil]; exact HA.out.alloc _
  have hI0 : Boxed W0 (w.heap.size + 1) 3 (.int .i64 0) := by rw [hW0]; have h := HI.out; rw [World.size_alloc] at h; exact h
  have hB0 : Below w.heap.size w W0 := by rw [hW0]; exact HB0.out
  have hs0 : W0.heap.size = w.heap.size + 2 := by rw [hW0]; simp
  change Code.wpIn Fence.wide 6 Try.prog _ _ _ ((w.alloc (.cells (nums .i64 (List.replicate 64 0)).toArray 48)).alloc (.cells #[.int .i64 0] 3))
  rw [← hW0]
  have HW0 := Lib.hid hW0
  clear hW0 HA HI HB0
  refine wpIn_rangeFunc_ownG rfl (by omega) (gf := 29) (lb := #[]) rfl trivial (enters_of Try.func29 (by kernel_rfl) rfl)
    (order_stops 5 (by omega) W0) (fun _ _ => trivial) (fun _ _ _ _ _ _ _ _ => trivial) (Below.refl _ _) (fun _ => rfl)
    (fun pre W => (Blk W w.heap.size 48 (nums .i64 (arr pre)) ∧ Blk W (w.heap.size + 1) 3 [.int .i64 pre.length]) ∧ Below w.heap.size w W)
    (fun _ _ _ => False)
    (OwnFrom.and (OwnFrom.and (Own.from (blk_own _) _) (Own.from (blk_own _) _)) (ownFrom_below (Nat.le_refl _) (by omega)))
    (fun _ _ _ _ _ hs _ _ => hs)
    ⟨⟨hA0, hI0⟩, hB0⟩
    (fun x => { tmps := #[.pointer (some ⟨w.heap.size, 0, none⟩), .pointer (some ⟨w.heap.size + 1, 0, none⟩), .int .i64 x, .func (.func 29) #[] #[], .int .i64 x, undef, undef, undef, undef, undef, undef], defers := [] }) ?assign ?body ?done ?stop
  case assign =>
    intro l x W K hK
    gi_wp2
    exact hK
  case body =>
    rintro l pre x W ⟨⟨hA, hI⟩, hB⟩ hlen
    have hi : W.cell? ⟨w.heap.size + 1, 0, none⟩ = some (.int .i64 pre.length) := hI.cell rfl
    have hif : W.frozen? ⟨w.heap.size + 1, 0, none⟩ = false := hI.free 0
    have hc : W.cell? ⟨w.heap.size, pre.length, none⟩ = some (.int .i64 (el (arr pre) pre.length)) := hA.cell (nums_get (by rw [arr_len _ (by omega)]; omega))
    have hf := hA.free pre.length
    have hlt : (pre.length : Int) < 64 := by omega
    have e1 : IntKind.i64.wrap ((pre.length : Int) + 1) = (pre.length : Int) + 1 := IntWalk.i64_in _ (by omega)
    gi_wp2
    have hA1 := (hA.set pre.length (.int .i64 x)).far (a := ⟨w.heap.size + 1, 0, none⟩) (by simp) (.int .i64 ((pre.length : Int) + 1))
    rw [nums_set, arr_set _ _ hlen] at hA1
    have hI1 := (hI.far (a := ⟨w.heap.size, pre.length, none⟩) (by simp) (.int .i64 x)).set 0 (.int .i64 ((pre.length : Int) + 1))
    refine ⟨((KeepsOthers.setCell _ _ _).trans (KeepsOthers.setCell _ _ _)).from _, trivial, ⟨hA1, ?_⟩, (hB.setCell (p := ⟨w.heap.size, pre.length, none⟩) (Nat.le_refl _) _).setCell (p := ⟨w.heap.size + 1, 0, none⟩) (by simp) _⟩
    have e : (((pre ++ [x]).length : Nat) : Int) = (pre.length : Int) + 1 := by rw [List.length_append]; rfl
    rw [e]
    exact hI1
  case done =>
    rintro D ys W hD rfl ⟨⟨hA, hI⟩, hB⟩ hK
    rw [arr_all] at hA
    have h64 : (nums .i64 orderL).toArray.size = 64 := by rw [List.size_toArray, nums_length, orderL_len]
    have hone : (nums .i64 orderL).toArray.all (·.oneCell') = true := by
      rw [Array.all_eq_true_iff_forall_mem]
      intro v hv
      have hv : v ∈ nums .i64 orderL := by simpa using hv
      obtain ⟨y, _, rfl⟩ := List.mem_map.1 hv
      rfl
    have hset := setRow_self W w.heap.size (nums .i64 orderL).toArray 48 (0, 0) hA
    rename_i K0 hK0
    refine hK0 _ _ ?_
    refine wpIn_wide.2 ?_
    go_wp2_with (first
      | (refine wpList_load_row rfl 48 _ rfl w.heap.size rfl 48 (nums .i64 orderL).toArray (0, 0) _ hA Try.underlying48 rfl (by rw [h64]; kernel_rfl) ?_)
      | (refine wpList_store_row rfl 48 _ _ rfl w.heap.size (nums .i64 orderL).toArray rfl rfl 48 (nums .i64 orderL).toArray hA (by rw [h64]; kernel_rfl) rfl hone ?_; rw [hset]))
    refine ⟨by simp, .inl ⟨_, _, rfl, run_takeDeferred hK, ?_⟩⟩
    have hA2 : (W.putObj D (.deferred none)).heap[w.heap.size]? = some (.cells (nums .i64 orderL).toArray 48 (0, 0)) := (World.putObj_heap_other (by omega)).trans hA
    exact ⟨_, results_cell_row rfl _ _ w.heap.size 48 (nums .i64 orderL).toArray (0, 0) _ rfl hA2 Try.underlying48 rfl (by rw [h64]; kernel_rfl), rfl, hB.trans (belowK_b (w := w) (Nat.le_refl _) W D _ _ (by omega) hK rfl rfl)⟩
  case stop =>
    rintro D c pre W _ _ h _
    exact h.elim
end Go.Proofs.Ythjpdcbcgagbjaa
