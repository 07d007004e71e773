/- Lists of pairs that a call owns, grown by append; no conditions. -/
import Derived.Test.YthjpdcbcgagbjaaScanC
import Derived.Test.YthjpdcbcgagbjaaScanP
set_option linter.unusedVariables false
set_option linter.unusedSimpArgs false
namespace Go.Proofs.Ythjpdcbcgagbjaa
open Go.RowKit

/-- A slice of pairs of the call's own (its block's number at least base). -/
def OwnP (w : World) (base : Nat) (v : Value) (l : List (Int × Int)) : Prop := w.ownsRow base 39 2 v l.length (pairsV l)
theorem OwnP.nil (w : World) (base : Nat) : OwnP w base (.slice none 0 0) [] := ⟨by simp [pairsV], .inl ⟨rfl, rfl⟩⟩
theorem OwnP.fresh {w : World} {base : Nat} {v : Value} {l : List (Int × Int)} (h : OwnP w base v l) : ∃ A c, v = .slice A l.length c ∧ Fresh w base A (pairsV l) := by
  rcases h.2 with ⟨rfl, h0⟩ | ⟨g, cap, cur, rfl, h2, h3, h4, h5, h6, h7⟩
  · obtain rfl : l = [] := List.eq_nil_of_length_eq_zero h0
    exact ⟨none, 0, rfl, .inl ⟨rfl, rfl⟩⟩
  · refine ⟨_, cap, rfl, .inr ⟨g, rfl, h2, 39, cur.toList, by simpa [Blk] using h3, ?_⟩⟩
    rw [← h7]
    exact List.take_prefix _ _
theorem OwnP.base {w : World} {base : Nat} {v : Value} {l : List (Int × Int)} (h : OwnP w base v l) (k : Nat) (hk : v.ownBlock = some k) : base ≤ k ∧ k < w.heap.size := by
  rcases h.2 with ⟨rfl, h0⟩ | ⟨g, cap, cur, rfl, h2, h3, _⟩
  · simp [Value.ownBlock] at hk
  · have : g = k := by simpa [Value.ownBlock] using hk
    subst this
    exact ⟨h2, lt_of_block h3⟩
theorem OwnP.alloc {w : World} {base : Nat} {v : Value} {l : List (Int × Int)} (h : OwnP w base v l) (o : Obj) : OwnP (w.alloc o) base v l := World.ownsRow.alloc h o
theorem pair_info : (Try.prog.info? 39).map (fun i => (i.zero, i.size, i.bytes)) = some (some (.agg #[.int .i64 0, .int .i64 0]), 2, 16) := by kernel_rfl
/-- append(v, Pair{r, y}): behind the making of the variadic's block. -/
theorem append_pair {ops : Array Oper} {rest : List Oper} {o : Oper} {a : Act} {Q : Exit → Act → World → Prop} {W : World} (hgd : o.guard = none) (s x : Operand)
    (ho : o.op = .call { callee := .builtin .append, args := #[s, x], argTypes := #[22, 22] })
    (base : Nat) (v : Value) (l : List (Int × Int)) (r y : Int) (hs : a.eval s = v) (hx : a.eval x = .slice (some ⟨W.heap.size, 0, none⟩) 1 1)
    (hown : OwnP W base v l) (hbase : base ≤ W.heap.size) (hm : l.length + 1 ≤ 1000000)
    (h : ∀ v' w', OwnP w' base v' (l ++ [(r, y)]) → W.grownBy w' v.ownBlock → wpList Try.prog ops Q rest (a.put o.dst v') w') : wpList Try.prog ops Q (o :: rest) a (W.alloc (.cells #[.int .i64 r, .int .i64 y] 39)) := by
  obtain ⟨i0, hi, hzz⟩ := Option.map_eq_some_iff.1 pair_info
  simp only [Prod.mk.injEq] at hzz
  obtain ⟨hz0, hz1, hz2⟩ := hzz
  refine wpList_append_own _ hgd s x 22 ho base 39 i0 _ 2 16 Try.underlying22 hi hz0 hz1 hz2 rfl (by omega) v l.length (pairsV l) hs (hown.alloc _) ⟨W.heap.size, 0, none⟩ 1 1 [.int .i64 r, .int .i64 y] hx rfl
    (World.news_of_block (cs := #[.int .i64 r, .int .i64 y]) (t := 39) (fr := (0, 0)) (heap_alloc_new W _)) (by intro u hu; simp at hu; rcases hu with rfl | rfl <;> rfl) (by simp [maxLen]; omega) (by omega) (by simp; omega) ?_
  intro v' w' h2 h3 _
  refine h v' w' ?_ (World.grownBy.trans (World.grownBy_alloc W _ _) h3)
  unfold OwnP
  rw [List.length_append, pairsV_append]
  exact h2
end Go.Proofs.Ythjpdcbcgagbjaa
