/- Small facts on blocks of cells and on worlds that differ in named blocks alone; no conditions. -/
import Derived.WalkKit
import Derived.WalkLawsBesides
import Derived.Deep.QuietTactic
import Derived.BigQuiet
import Derived.Deep.RegionHeld3
import Derived.Deep.LoopGhost
import Derived.Lib.Hide
import Derived.OwnWalk
import Derived.Deep.AppendLies
import Derived.Maps.AppendAt
import Derived.Test.YtnnchmlkgofhpaaEl
set_option linter.unusedVariables false
set_option linter.unusedSimpArgs false
namespace Go.Proofs.Ytnnchmlkgofhpaa
open Go.RowKit

/-- Block b is a row of cells of type T. -/
def Blk (w : World) (b : Nat) (T : TypeId) (cs : List Value) : Prop := w.heap[b]? = some (.cells cs.toArray T (0, 0))

theorem Blk.lt {w : World} {b : Nat} {T : TypeId} {cs : List Value} (h : Blk w b T cs) : b < w.heap.size := lt_of_block h
theorem Blk.cell {w : World} {b : Nat} {T : TypeId} {cs : List Value} (h : Blk w b T cs) {i : Nat} {v : Value} (hi : cs[i]? = some v) : w.cell? ⟨b, i, none⟩ = some v := by
  unfold Blk at h
  simp [World.cell?, h, hi]
theorem Blk.free {w : World} {b : Nat} {T : TypeId} {cs : List Value} (h : Blk w b T cs) (i : Nat) : w.frozen? ⟨b, i, none⟩ = false := by
  unfold Blk at h
  simp [World.frozen?, h]
theorem Blk.new (w : World) (T : TypeId) (cs : List Value) : Blk (w.alloc (.cells cs.toArray T)) w.heap.size T cs := heap_alloc_new w _
theorem Blk.alloc {w : World} {b : Nat} {T : TypeId} {cs : List Value} (h : Blk w b T cs) (o : Obj) : Blk (w.alloc o) b T cs := (Below.heap_alloc w o b h.lt).trans h
theorem Blk.drewN {w : World} {b : Nat} {T : TypeId} {cs : List Value} (h : Blk w b T cs) (n : Nat) : Blk (w.drewN n) b T cs := h
theorem Blk.drew {w : World} {b : Nat} {T : TypeId} {cs : List Value} (h : Blk w b T cs) : Blk w.drew b T cs := h
theorem Blk.set {w : World} {b : Nat} {T : TypeId} {cs : List Value} (h : Blk w b T cs) (i : Nat) (v : Value) : Blk (w.setCell ⟨b, i, none⟩ v) b T (cs.set i v) := by
  have hlt := h.lt
  unfold Blk at h
  have h' : w.heap[b] = .cells cs.toArray T (0, 0) := by simpa [Array.getElem?_eq_getElem hlt] using h
  show (w.heap.modify b _)[b]? = _
  rw [Array.getElem?_eq_getElem (by simpa using hlt), Array.getElem_modify_self, h']
  simp
theorem Blk.far {w : World} {b : Nat} {T : TypeId} {cs : List Value} (h : Blk w b T cs) {a : Addr} (hne : b ≠ a.block) (v : Value) : Blk (w.setCell a v) b T cs :=
  (Below.heap_setCell w a v b hne).trans h

/-- w' is w, but for new blocks and the blocks of S. -/
structure Mod (S : Nat → Prop) (w w' : World) : Prop where
  os : w'.os = w.os
  tape : w'.tape = w.tape
  output : w'.output = w.output
  size : w.heap.size ≤ w'.heap.size
  block : ∀ k, k < w.heap.size → ¬ S k → w'.heap[k]? = w.heap[k]?

theorem Mod.refl (S : Nat → Prop) (w : World) : Mod S w w := ⟨rfl, rfl, rfl, Nat.le_refl _, fun _ _ _ => rfl⟩
theorem Mod.trans {S : Nat → Prop} {a b c : World} (h : Mod S a b) (k : Mod S b c) : Mod S a c :=
  ⟨k.os.trans h.os, k.tape.trans h.tape, k.output.trans h.output, Nat.le_trans h.size k.size, fun i hi hs => (k.block i (Nat.lt_of_lt_of_le hi h.size) hs).trans (h.block i hi hs)⟩
/-- What the second step writes may be new to the first. -/
theorem Mod.then {S S' : Nat → Prop} {a b c : World} (h : Mod S a b) (k : Mod S' b c) (hs : ∀ i, i < a.heap.size → S' i → S i) : Mod S a c :=
  ⟨k.os.trans h.os, k.tape.trans h.tape, k.output.trans h.output, Nat.le_trans h.size k.size, fun i hi hn => (k.block i (Nat.lt_of_lt_of_le hi h.size) (fun h' => hn (hs i hi h'))).trans (h.block i hi hn)⟩
theorem Mod.mono {S S' : Nat → Prop} {a b : World} (h : Mod S a b) (hs : ∀ i, i < a.heap.size → S i → S' i) : Mod S' a b :=
  ⟨h.os, h.tape, h.output, h.size, fun i hi hn => h.block i hi (fun h' => hn (hs i hi h'))⟩
theorem Mod.of_below {S : Nat → Prop} {a b : World} (h : Below a.heap.size a b) : Mod S a b := ⟨h.os, h.tape, h.output, h.size, fun i hi _ => h.block i hi⟩
theorem Mod.below {a b : World} {S : Nat → Prop} (h : Mod S a b) (hs : ∀ i, i < a.heap.size → ¬ S i) : Below a.heap.size a b := ⟨h.os, h.tape, h.output, h.size, fun i hi => h.block i hi (hs i hi)⟩
theorem Mod.alloc {S : Nat → Prop} {a w : World} (h : Mod S a w) (o : Obj) : Mod S a (w.alloc o) :=
  h.then (S' := S) ⟨rfl, rfl, rfl, by simp, fun k hk _ => Below.heap_alloc _ _ _ hk⟩ (fun _ _ h => h)
theorem Mod.drewN {S : Nat → Prop} {a w : World} (h : Mod S a w) (n : Nat) : Mod S a (w.drewN n) := ⟨h.os, h.tape, h.output, h.size, h.block⟩
theorem Mod.drew {S : Nat → Prop} {a w : World} (h : Mod S a w) : Mod S a w.drew := ⟨h.os, h.tape, h.output, h.size, h.block⟩
theorem Mod.set {S : Nat → Prop} {a w : World} (h : Mod S a w) {p : Addr} (hp : a.heap.size ≤ p.block ∨ S p.block) (v : Value) : Mod S a (w.setCell p v) :=
  ⟨h.os, h.tape, h.output, by simpa [World.setCell] using h.size, fun k hk hn => (Below.heap_setCell w p v k (by
    rintro rfl
    rcases hp with hp | hp
    · omega
    · exact hn hp)).trans (h.block k hk hn)⟩
theorem Mod.set1 {b k : Nat} {a w : World} (h : Mod (· = b) a w) (v : Value) : Mod (· = b) a (w.setCell ⟨b, k, none⟩ v) := h.set (.inr rfl) v
theorem Mod.grown {S : Nat → Prop} {a w w' : World} {row : Option Nat} (h : Mod S a w) (hg : w.grownBy w' row) (hr : ∀ k, row = some k → a.heap.size ≤ k ∨ S k) : Mod S a w' :=
  ⟨hg.os.trans h.os, hg.tape.trans h.tape, hg.output.trans h.output, Nat.le_trans h.size hg.size, fun k hk hn => (hg.block k (Nat.lt_of_lt_of_le hk h.size) (by
    intro he
    rcases hr k he.symm with h' | h'
    · omega
    · exact hn h')).trans (h.block k hk hn)⟩
theorem Mod.add {S : Nat → Prop} {a b c : World} (h : Mod S a b) (k : Below b.heap.size b c) : Mod S a c := h.then (Mod.of_below (S := S) k) (fun _ _ h => h)
theorem Blk.mod {w w' : World} {b : Nat} {T : TypeId} {cs : List Value} (h : Blk w b T cs) {S : Nat → Prop} (hm : Mod S w w') (hn : ¬ S b) : Blk w' b T cs := (hm.block b h.lt hn).trans h
theorem Blk.below {w w' : World} {b : Nat} {T : TypeId} {cs : List Value} (h : Blk w b T cs) (hm : Below w.heap.size w w') : Blk w' b T cs := (hm.block b h.lt).trans h

/-- What a cell holds, whatever it is. -/
def cellOf (w : World) (a : Addr) : Value := (w.cell? a).getD undef
/-- Block b is the row cs0, but for what place k holds. -/
def BlkBut (w : World) (b : Nat) (T : TypeId) (cs0 : List Value) (k : Nat) : Prop := ∃ cs, Blk w b T cs ∧ cs.length = cs0.length ∧ ∀ i, i ≠ k → cs[i]? = cs0[i]?
theorem Blk.but {w : World} {b : Nat} {T : TypeId} {cs : List Value} (h : Blk w b T cs) (k : Nat) : BlkBut w b T cs k := ⟨cs, h, rfl, fun _ _ => rfl⟩
theorem BlkBut.drew {w : World} {b k : Nat} {T : TypeId} {cs : List Value} (h : BlkBut w b T cs k) : BlkBut w.drew b T cs k := h
theorem BlkBut.below {w w' : World} {b k : Nat} {T : TypeId} {cs : List Value} (h : BlkBut w b T cs k) (hm : Below w.heap.size w w') : BlkBut w' b T cs k := by
  obtain ⟨c, h1, h2⟩ := h
  exact ⟨c, h1.below hm, h2⟩
theorem BlkBut.set {w : World} {b k : Nat} {T : TypeId} {cs : List Value} (h : BlkBut w b T cs k) (v : Value) : BlkBut (w.setCell ⟨b, k, none⟩ v) b T cs k := by
  obtain ⟨c, h1, h2, h3⟩ := h
  exact ⟨_, h1.set k v, by simpa using h2, fun i hi => by rw [List.getElem?_set_ne (Ne.symm hi)]; exact h3 i hi⟩
theorem BlkBut.done {w : World} {b k : Nat} {T : TypeId} {cs : List Value} (h : BlkBut w b T cs k) (v : Value) : Blk (w.setCell ⟨b, k, none⟩ v) b T (cs.set k v) := by
  obtain ⟨c, h1, h2, h3⟩ := h
  have : c.set k v = cs.set k v := by
    apply List.ext_getElem?
    intro i
    by_cases hi : k = i
    · subst hi
      rcases Nat.lt_or_ge k c.length with h | h
      · rw [List.getElem?_set_self h, List.getElem?_set_self (by omega)]
      · rw [List.getElem?_eq_none (by simpa using h), List.getElem?_eq_none (by simp; omega)]
    · rw [List.getElem?_set_ne hi, List.getElem?_set_ne hi]
      exact h3 i (Ne.symm hi)
  rw [← this]
  exact h1.set k v
theorem BlkBut.cell {w : World} {b k : Nat} {T : TypeId} {cs : List Value} (h : BlkBut w b T cs k) (hk : k < cs.length) : w.cell? ⟨b, k, none⟩ = some (cellOf w ⟨b, k, none⟩) := by
  obtain ⟨c, h1, h2, _⟩ := h
  have := h1.cell (i := k) (List.getElem?_eq_getElem (by omega))
  simp [cellOf, this]
theorem BlkBut.free {w : World} {b k : Nat} {T : TypeId} {cs : List Value} (h : BlkBut w b T cs k) (i : Nat) : w.frozen? ⟨b, i, none⟩ = false := by
  obtain ⟨c, h1, _⟩ := h
  exact h1.free i
theorem below_drewN {B : Nat} {a w : World} (h : Below B a w) (n : Nat) : Below B a (w.drewN n) := ⟨h.os, h.tape, h.output, h.size, h.block⟩
theorem below_alloc {w W : World} (h : Below w.heap.size w W) (o : Obj) : Below w.heap.size w (W.alloc o) := h.alloc h.size o
theorem below_then {w w1 w2 : World} (h : Below w.heap.size w w1) (k : Below w1.heap.size w1 w2) : Below w.heap.size w w2 := h.trans (k.mono h.size)

theorem below_mod {S : Nat → Prop} {a b c : World} (h : Below a.heap.size a b) (k : Mod S b c) (hs : ∀ i, S i → a.heap.size ≤ i) : Below a.heap.size a c :=
  h.trans ⟨k.os, k.tape, k.output, k.size, fun i hi => k.block i (Nat.lt_of_lt_of_le hi h.size) (fun h' => by have := hs i h'; omega)⟩

/-- Whole numbers as cells. -/
def nums (k : IntKind) (xs : List Int) : List Value := xs.map (Value.int k)
theorem nums_get {k : IntKind} {xs : List Int} {i : Nat} (h : i < xs.length) : (nums k xs)[i]? = some (.int k (el xs i)) := by
  simp [nums, List.getElem?_map, List.getElem?_eq_getElem h, el_lt h]
theorem nums_set (k : IntKind) (xs : List Int) (i : Nat) (x : Int) : (nums k xs).set i (.int k x) = nums k (xs.set i x) := by simp [nums, List.map_set]
theorem nums_length (k : IntKind) (xs : List Int) : (nums k xs).length = xs.length := by simp [nums]
theorem nums_append (k : IntKind) (xs ys : List Int) : nums k (xs ++ ys) = nums k xs ++ nums k ys := by simp [nums]

/-- A slice's address leads to the values vs. -/
def Rd (w : World) (A : Option Addr) (vs : List Value) : Prop := vs = [] ∨ ∃ b o, A = some ⟨b, o, none⟩ ∧ b < w.heap.size ∧ ∀ j v, vs[j]? = some v → w.cell? ⟨b, o + j, none⟩ = some v
theorem Rd.below {w w' : World} {A : Option Addr} {vs : List Value} (h : Rd w A vs) (hb : Below w.heap.size w w') : Rd w' A vs := by
  rcases h with h | ⟨b, o, h1, h2, h3⟩
  · exact .inl h
  · exact .inr ⟨b, o, h1, Nat.lt_of_lt_of_le h2 hb.size, fun j v hj => (hb.cell (p := ⟨b, o + j, none⟩) h2).trans (h3 j v hj)⟩
theorem Rd.drewN {w : World} {A : Option Addr} {vs : List Value} (h : Rd w A vs) (n : Nat) : Rd (w.drewN n) A vs := h
theorem Rd.mod {w w' : World} {A : Option Addr} {vs : List Value} (h : Rd w A vs) {S : Nat → Prop} (hm : Mod S w w') (hn : ∀ a, A = some a → ¬ S a.block) : Rd w' A vs := by
  rcases h with h | ⟨b, o, h1, h2, h3⟩
  · exact .inl h
  · exact .inr ⟨b, o, h1, Nat.lt_of_lt_of_le h2 hm.size, fun j v hj => (World.cell?_of_block (w := w) (a := ⟨b, o + j, none⟩) (hm.block b h2 (hn _ h1))).trans (h3 j v hj)⟩
theorem Rd.nil (w : World) (A : Option Addr) : Rd w A [] := .inl rfl
theorem Blk.rd {w : World} {b : Nat} {T : TypeId} {cs : List Value} (h : Blk w b T cs) {vs : List Value} (hp : vs <+: cs) : Rd w (some ⟨b, 0, none⟩) vs :=
  .inr ⟨b, 0, rfl, h.lt, fun j v hj => by
    obtain ⟨t, rfl⟩ := hp
    rw [Nat.zero_add]
    exact h.cell (by rw [List.getElem?_append_left (List.getElem?_eq_some_iff.1 hj).1]; exact hj)⟩
/-- Block b begins with the cells vs. -/
def Row (w : World) (b : Nat) (vs : List Value) : Prop := ∃ T cs, Blk w b T cs ∧ vs <+: cs
theorem Blk.row {w : World} {b : Nat} {T : TypeId} {cs vs : List Value} (h : Blk w b T cs) (hp : vs <+: cs) : Row w b vs := ⟨T, cs, h, hp⟩
theorem Blk.row_ {w : World} {b : Nat} {T : TypeId} {cs : List Value} (h : Blk w b T cs) : Row w b cs := ⟨T, cs, h, List.prefix_refl _⟩
theorem Row.lt {w : World} {b : Nat} {vs : List Value} (h : Row w b vs) : b < w.heap.size := by obtain ⟨T, cs, h, _⟩ := h; exact h.lt
theorem Row.cell {w : World} {b : Nat} {vs : List Value} (h : Row w b vs) {i : Nat} {v : Value} (hi : vs[i]? = some v) : w.cell? ⟨b, i, none⟩ = some v := by
  obtain ⟨T, cs, h, t, rfl⟩ := h
  exact h.cell (by rw [List.getElem?_append_left (List.getElem?_eq_some_iff.1 hi).1]; exact hi)
theorem Row.free {w : World} {b : Nat} {vs : List Value} (h : Row w b vs) (i : Nat) : w.frozen? ⟨b, i, none⟩ = false := by obtain ⟨T, cs, h, _⟩ := h; exact h.free i
theorem Row.rd {w : World} {b : Nat} {vs : List Value} (h : Row w b vs) : Rd w (some ⟨b, 0, none⟩) vs := by obtain ⟨T, cs, h, hp⟩ := h; exact h.rd hp
theorem Row.below {w w' : World} {b : Nat} {vs : List Value} (h : Row w b vs) (hm : Below w.heap.size w w') : Row w' b vs := by obtain ⟨T, cs, h, hp⟩ := h; exact ⟨T, cs, h.below hm, hp⟩
theorem Row.mod {w w' : World} {b : Nat} {vs : List Value} (h : Row w b vs) {S : Nat → Prop} (hm : Mod S w w') (hn : ¬ S b) : Row w' b vs := by obtain ⟨T, cs, h, hp⟩ := h; exact ⟨T, cs, h.mod hm hn, hp⟩
theorem Row.alloc {w : World} {b : Nat} {vs : List Value} (h : Row w b vs) (o : Obj) : Row (w.alloc o) b vs := by obtain ⟨T, cs, h, hp⟩ := h; exact ⟨T, cs, h.alloc o, hp⟩
theorem Row.new_at {w : World} {b : Nat} {T : TypeId} {vs : List Value} (h : b = w.heap.size) : Row (w.alloc (.cells vs.toArray T)) b vs := by rw [h]; exact (Blk.new w T vs).row_
theorem Row.drew {w : World} {b : Nat} {vs : List Value} (h : Row w b vs) : Row w.drew b vs := h
theorem Row.drewN {w : World} {b : Nat} {vs : List Value} (h : Row w b vs) (n : Nat) : Row (w.drewN n) b vs := h
theorem Row.far {w : World} {b : Nat} {vs : List Value} (h : Row w b vs) {a : Addr} (hne : b ≠ a.block) (v : Value) : Row (w.setCell a v) b vs := by obtain ⟨T, cs, h, hp⟩ := h; exact ⟨T, cs, h.far hne v, hp⟩
theorem Row.set {w : World} {b : Nat} {vs : List Value} (h : Row w b vs) {i : Nat} (hi : i < vs.length) (v : Value) : Row (w.setCell ⟨b, i, none⟩ v) b (vs.set i v) := by
  obtain ⟨T, cs, h, t, rfl⟩ := h
  exact ⟨T, _, h.set i v, t, by rw [List.set_append_left _ _ hi]⟩
theorem Row.take {w : World} {b : Nat} {vs us : List Value} (h : Row w b vs) (hp : us <+: vs) : Row w b us := by obtain ⟨T, cs, h, hq⟩ := h; exact ⟨T, cs, h, hp.trans hq⟩

/-- Where there is an element there is an address. -/
theorem Rd.at_ {w : World} {A : Option Addr} {vs : List Value} (h : Rd w A vs) {i : Nat} (hi : i < vs.length) : ∃ b o, A = some ⟨b, o, none⟩ ∧ b < w.heap.size ∧ ∀ j v, vs[j]? = some v → w.cell? ⟨b, o + j, none⟩ = some v := by
  rcases h with rfl | h
  · simp at hi
  · exact h

/-- A slice of the call's own (its block's number at least base), grown by append: its elements, each one cell. -/
def Own (w : World) (base : Nat) (e : TypeId) (v : Value) (vs : List Value) : Prop := w.ownsRow base e 1 v vs.length vs
theorem Own.nil (w : World) (base : Nat) (e : TypeId) : Own w base e (.slice none 0 0) [] := ⟨by simp, .inl ⟨rfl, rfl⟩⟩
theorem Own.form {w : World} {base : Nat} {e : TypeId} {v : Value} {vs : List Value} (h : Own w base e v vs) :
    (v = .slice none 0 0 ∧ vs = []) ∨ ∃ g cap cs, v = .slice (some ⟨g, 0, none⟩) vs.length cap ∧ base ≤ g ∧ Blk w g e cs ∧ vs <+: cs ∧ vs.length ≤ cap ∧ cap ≤ maxLen := by
  rcases h.2 with ⟨h1, h2⟩ | ⟨g, cap, cur, h1, h2, h3, h4, h5, h6, h7⟩
  · exact .inl ⟨h1, List.eq_nil_of_length_eq_zero h2⟩
  · refine .inr ⟨g, cap, cur.toList, h1, h2, by simpa [Blk] using h3, ?_, h4, h5⟩
    rw [← h7]
    exact List.take_prefix _ _
theorem Own.rd {w : World} {base : Nat} {e : TypeId} {v : Value} {vs : List Value} (h : Own w base e v vs) : ∃ A c, v = .slice A vs.length c ∧ vs.length ≤ c ∧ c ≤ maxLen ∧ Rd w A vs := by
  rcases h.form with ⟨rfl, rfl⟩ | ⟨g, cap, cs, rfl, _, h3, h4, h5, h6⟩
  · exact ⟨none, 0, rfl, Nat.le_refl _, by simp [maxLen], .nil _ _⟩
  · exact ⟨_, cap, rfl, h5, h6, h3.rd h4⟩
theorem Own.base {w : World} {base : Nat} {e : TypeId} {v : Value} {vs : List Value} (h : Own w base e v vs) (k : Nat) (hk : v.ownBlock = some k) : base ≤ k ∧ k < w.heap.size := by
  rcases h.form with ⟨rfl, rfl⟩ | ⟨g, cap, cs, rfl, h2, h3, _⟩
  · simp [Value.ownBlock] at hk
  · have : g = k := by simpa [Value.ownBlock] using hk
    subst this
    exact ⟨h2, h3.lt⟩
theorem Own.alloc {w : World} {base : Nat} {e : TypeId} {v : Value} {vs : List Value} (h : Own w base e v vs) (o : Obj) : Own (w.alloc o) base e v vs := World.ownsRow.alloc h o
theorem Own.same {w w' : World} {base : Nat} {e : TypeId} {v : Value} {vs : List Value} (h : Own w base e v vs) (hm : ∀ k, v.ownBlock = some k → w'.heap[k]? = w.heap[k]?) : Own w' base e v vs := by
  obtain ⟨h1, h2⟩ := h
  refine ⟨h1, ?_⟩
  rcases h2 with h2 | ⟨g, cap, cur, rfl, hg, hh, r⟩
  · exact .inl h2
  · exact .inr ⟨g, cap, cur, rfl, hg, (hm g (by simp [Value.ownBlock])).trans hh, r⟩
theorem Own.mod {w w' : World} {base : Nat} {e : TypeId} {v : Value} {vs : List Value} (h : Own w base e v vs) {S : Nat → Prop} (hm : Mod S w w') (hn : ∀ k, v.ownBlock = some k → ¬ S k) : Own w' base e v vs :=
  h.same fun k hk => hm.block k (h.base k hk).2 (hn k hk)
theorem Own.below {w w' : World} {base : Nat} {e : TypeId} {v : Value} {vs : List Value} (h : Own w base e v vs) (hm : Below w.heap.size w w') : Own w' base e v vs :=
  h.same fun k hk => hm.block k (h.base k hk).2
theorem Own.lower {w : World} {base base' : Nat} {e : TypeId} {v : Value} {vs : List Value} (h : Own w base e v vs) (hb : base' ≤ base) : Own w base' e v vs :=
  ⟨h.1, h.2.imp id fun ⟨g, cap, cur, he, hg, hr⟩ => ⟨g, cap, cur, he, Nat.le_trans hb hg, hr⟩⟩
/-- A slice that is nil and empty, or begins a block whose number is at least base. -/
def Fresh (w : World) (base : Nat) (A : Option Addr) (vs : List Value) : Prop := (A = none ∧ vs = []) ∨ ∃ b, A = some ⟨b, 0, none⟩ ∧ base ≤ b ∧ Row w b vs
theorem Fresh.rd {w : World} {base : Nat} {A : Option Addr} {vs : List Value} (h : Fresh w base A vs) : Rd w A vs := by
  rcases h with ⟨_, rfl⟩ | ⟨b, rfl, _, hr⟩
  · exact .nil _ _
  · exact hr.rd
theorem Fresh.below {w w' : World} {base : Nat} {A : Option Addr} {vs : List Value} (h : Fresh w base A vs) (hm : Below w.heap.size w w') : Fresh w' base A vs :=
  h.imp id fun ⟨b, h1, h2, h3⟩ => ⟨b, h1, h2, h3.below hm⟩
theorem Fresh.mod {w w' : World} {base : Nat} {A : Option Addr} {vs : List Value} (h : Fresh w base A vs) {S : Nat → Prop} (hm : Mod S w w') (hn : ∀ i, base ≤ i → i < w.heap.size → ¬ S i) : Fresh w' base A vs :=
  h.imp id fun ⟨b, h1, h2, h3⟩ => ⟨b, h1, h2, h3.mod hm (hn b h2 h3.lt)⟩
theorem Fresh.lower {w : World} {base base' : Nat} {A : Option Addr} {vs : List Value} (h : Fresh w base A vs) (hb : base' ≤ base) : Fresh w base' A vs :=
  h.imp id fun ⟨b, h1, h2, h3⟩ => ⟨b, h1, Nat.le_trans hb h2, h3⟩
theorem Own.fresh {w : World} {base : Nat} {e : TypeId} {v : Value} {vs : List Value} (h : Own w base e v vs) : ∃ A c, v = .slice A vs.length c ∧ vs.length ≤ c ∧ c ≤ maxLen ∧ Fresh w base A vs := by
  rcases h.form with ⟨rfl, rfl⟩ | ⟨g, cap, cs, rfl, h2, h3, h4, h5, h6⟩
  · exact ⟨none, 0, rfl, Nat.le_refl _, by simp [maxLen], .inl ⟨rfl, rfl⟩⟩
  · exact ⟨_, cap, rfl, h5, h6, .inr ⟨g, rfl, h2, h3.row h4⟩⟩

/-- append(v, y), y one cell: behind the making of the variadic's block. -/
theorem append_one {P : Program} {ops : Array Oper} {rest : List Oper} {o : Oper} {a : Act} {Q : Exit → Act → World → Prop} {W : World} (hgd : o.guard = none) (s x : Operand) (t e : TypeId) (z : Value) (bytes : Nat)
    (ho : o.op = .call { callee := .builtin .append, args := #[s, x], argTypes := #[t, t] }) (ht : P.underlying t = some (.slice e)) (hinfo : (P.info? e).map (fun i => (i.zero, i.size, i.bytes)) = some (some z, 1, bytes)) (hz : z.cells.size = 1)
    (base : Nat) (v y : Value) (vs : List Value) (hs : a.eval s = v) (hx : a.eval x = .slice (some ⟨W.heap.size, 0, none⟩) 1 1) (h1 : y.oneCell' = true)
    (hown : Own W base e v vs) (hbase : base ≤ W.heap.size) (hm : vs.length + 1 ≤ maxLen) (hl : (vs.length + 1) * bytes ≤ 140737488355328)
    (h : ∀ v' w', Own w' base e v' (vs ++ [y]) → W.grownBy w' v.ownBlock → wpList P ops Q rest (a.put o.dst v') w') : wpList P ops Q (o :: rest) a (W.alloc (.cells #[y] e)) := by
  obtain ⟨i0, hi, hzz⟩ := Option.map_eq_some_iff.1 hinfo
  simp only [Prod.mk.injEq] at hzz
  obtain ⟨hz0, hz1, hz2⟩ := hzz
  refine wpList_append_own _ hgd s x t ho base e i0 z 1 bytes ht hi hz0 hz1 hz2 hz (by omega) v vs.length vs hs (hown.alloc _) ⟨W.heap.size, 0, none⟩ 1 1 [y] hx rfl
    (World.news_of_block (cs := #[y]) (t := e) (fr := (0, 0)) (heap_alloc_new W _)) (by simpa using h1) hm hl (by simp; omega) ?_
  intro v' w' h2 h3 _
  refine h v' w' (by unfold Own; rw [List.length_append]; exact h2) ?_
  exact World.grownBy.trans (World.grownBy_alloc W _ _) h3

/-- append(v, us..), us read from wherever it lies. -/
theorem run_append_rd {P : Program} {W : World} (t ty e : TypeId) (z : Value) (bytes : Nat) (ht : P.underlying t = some (.slice e)) (hinfo : (P.info? e).map (fun i => (i.zero, i.size, i.bytes)) = some (some z, 1, bytes)) (hz : z.cells.size = 1)
    (base : Nat) (v : Value) (vs : List Value) (hown : Own W base e v vs) {A : Option Addr} {m : Nat} (c : Nat) {us : List Value} (hus : us.length = m) (hr : Rd W A us) (h1 : ∀ u ∈ us, u.oneCell' = true)
    (hbase : base ≤ W.heap.size) (hm : vs.length + m ≤ maxLen) (hl : (vs.length + m) * bytes ≤ 140737488355328) :
    ∃ v' w', (Builtin.append_ #[t, t] ty #[v, .slice A m c]).run P W = .ok v' w' ∧ Own w' base e v' (vs ++ us) ∧ W.grownBy w' v.ownBlock := by
  obtain ⟨i0, hi, hzz⟩ := Option.map_eq_some_iff.1 hinfo
  simp only [Prod.mk.injEq] at hzz
  obtain ⟨hz0, hz1, hz2⟩ := hzz
  cases A with
  | none =>
    have h0 : us = [] := by
      rcases hr with h | ⟨b, o, h, _⟩
      · exact h
      · cases h
    subst h0
    obtain rfl : m = 0 := by simpa using hus.symm
    refine ⟨v, W, ?_, by rw [List.append_nil]; exact hown, ⟨rfl, rfl, rfl, Nat.le_refl _, fun _ _ _ => rfl⟩⟩
    rcases hown.2 with ⟨rfl, hn⟩ | ⟨g, cap, cur, rfl, _, _, hnc, _⟩
    · simp [Builtin.append_, run_underlying ht, sizeOf, typeInfo, hi, Builtin.lenOf, Builtin.firstCells]
    · simp [Builtin.append_, run_underlying ht, sizeOf, typeInfo, hi, Builtin.lenOf, Builtin.firstCells, hnc, storeCells]
  | some ad =>
    obtain ⟨v', w', h2, h3, h4, _⟩ := run_append_own_at (P := P) W base t ty e i0 z 1 bytes ht hi hz0 hz1 hz2 hz (by omega) v vs.length vs hown ad m c us (by rw [hus, Nat.mul_one]) (fun j u hj => by
      rcases hr with h | ⟨b, o, h, _, hc⟩
      · rw [h] at hj; simp at hj
      · injection h with h
        subst h
        have ha : (⟨b, o, none⟩ : Addr).add j = ⟨b, o + j, none⟩ := by unfold Addr.add; split <;> simp_all
        rw [ha]
        exact hc j u hj) h1 hm hl hbase
    exact ⟨v', w', h2, by unfold Own; rw [List.length_append, hus]; exact h3, h4⟩

theorem append_many {P : Program} {ops : Array Oper} {rest : List Oper} {o : Oper} {a : Act} {Q : Exit → Act → World → Prop} {W : World} (hgd : o.guard = none) (s x : Operand) (t e : TypeId) (z : Value) (bytes : Nat)
    (ho : o.op = .call { callee := .builtin .append, args := #[s, x], argTypes := #[t, t] }) (ht : P.underlying t = some (.slice e)) (hinfo : (P.info? e).map (fun i => (i.zero, i.size, i.bytes)) = some (some z, 1, bytes)) (hz : z.cells.size = 1)
    (base : Nat) (v : Value) (vs : List Value) (A : Option Addr) (m c : Nat) (us : List Value) (hs : a.eval s = v) (hx : a.eval x = .slice A m c) (hown : Own W base e v vs) (hus : us.length = m) (hr : Rd W A us) (h1 : ∀ u ∈ us, u.oneCell' = true)
    (hbase : base ≤ W.heap.size) (hm : vs.length + m ≤ maxLen) (hl : (vs.length + m) * bytes ≤ 140737488355328)
    (h : ∀ v' w', Own w' base e v' (vs ++ us) → W.grownBy w' v.ownBlock → wpList P ops Q rest (a.put o.dst v') w') : wpList P ops Q (o :: rest) a W := by
  obtain ⟨v', w', h2, h3, h4⟩ := run_append_rd (P := P) t o.type e z bytes ht hinfo hz base v vs hown c hus hr h1 hbase hm hl
  refine wpList_plain hgd fun K hK => ?_
  unfold Oper.wp execOp
  simp only [ho, resolve, invoke, builtin, Sem.run_bind, Sem.run_pure, Result.andThen_ok, List.map_toArray, List.map_cons, List.map_nil, hs, hx, h2]
  exact hK _ _ (h v' w' h3 h4)

/-- The same, as one step of a region that draws. -/
theorem step_append_rd {P : Program} {ops : Array Oper} {o : Oper} {a : Act} {K : Act → World → Prop} {Q : Exit → Act → World → Prop} {E : Prop} {W : World} (hgd : o.guard = none) (s x : Operand) (t e : TypeId) (z : Value) (bytes : Nat)
    (ho : o.op = .call { callee := .builtin .append, args := #[s, x], argTypes := #[t, t] }) (ht : P.underlying t = some (.slice e)) (hinfo : (P.info? e).map (fun i => (i.zero, i.size, i.bytes)) = some (some z, 1, bytes)) (hz : z.cells.size = 1)
    (base : Nat) (v : Value) (vs : List Value) (A : Option Addr) (m c : Nat) (us : List Value) (hs : a.eval s = v) (hx : a.eval x = .slice A m c) (hown : Own W base e v vs) (hus : us.length = m) (hr : Rd W A us) (h1 : ∀ u ∈ us, u.oneCell' = true)
    (hbase : base ≤ W.heap.size) (hm : vs.length + m ≤ maxLen) (hl : (vs.length + m) * bytes ≤ 140737488355328)
    (h : ∀ v' w', Own w' base e v' (vs ++ us) → W.grownBy w' v.ownBlock → K (a.put o.dst v') w') : if Region.wanted o (yielded ops a.tmps) = true then Oper.wp P o a W K Q else E := by
  obtain ⟨v', w', h2, h3, h4⟩ := run_append_rd (P := P) t o.type e z bytes ht hinfo hz base v vs hown c hus hr h1 hbase hm hl
  have hw : Region.wanted o (yielded ops a.tmps) = true := by simp [Region.wanted, hgd]
  rw [if_pos hw]
  unfold Oper.wp execOp
  simp only [ho, resolve, invoke, builtin, Sem.run_bind, Sem.run_pure, Result.andThen_ok, List.map_toArray, List.map_cons, List.map_nil, hs, hx, h2]
  exact h v' w' h3 h4

/-- What a row tells of a slice of whole numbers that came in: nil, or a row of cells, spare room and all. -/
def IsRow (k : IntKind) (w : World) (a : Option Addr) (len cap : Nat) (zs : List Int) : Prop :=
  (a = none ∧ len = 0 ∧ cap = 0 ∧ zs = []) ∨
  ∃ x, a = some x ∧ len ≤ cap ∧ cap ≤ maxLen ∧ zs.length = cap ∧ (∀ i, i < zs.length → w.cell? (x.add i) = some (.int k (zs.getD i 0))) ∧ ∀ n ∈ zs, (Lit.int k n).wf = true
/-- Its elements. -/
theorem IsRow.rd {k : IntKind} {w : World} {a : Option Addr} {len cap : Nat} {zs : List Int} (h : IsRow k w a len cap zs) :
    (zs.take len).length = len ∧ len ≤ cap ∧ cap ≤ maxLen ∧ Rd w a (nums k (zs.take len)) ∧ ∀ n ∈ zs.take len, (Lit.int k n).wf = true := by
  rcases h with ⟨rfl, rfl, rfl, rfl⟩ | ⟨x, rfl, h1, h2, h3, h4, h5⟩
  · exact ⟨rfl, Nat.le_refl _, by simp [maxLen], .inl rfl, fun n hn => by simp at hn⟩
  · refine ⟨by rw [List.length_take]; omega, h1, h2, ?_, fun n hn => h5 n (List.mem_of_mem_take hn)⟩
    by_cases h0 : len = 0
    · exact .inl (by rw [h0]; rfl)
    · have hc0 := h4 0 (by omega)
      have h00 : x.add 0 = x := by unfold Addr.add; simp
      rw [h00] at hc0
      have hsp := World.cell?_spot hc0
      obtain ⟨b, o, sp⟩ := x
      have hsp : sp = none := hsp
      subst hsp
      have hadd : ∀ i, (⟨b, o, none⟩ : Addr).add i = ⟨b, o + i, none⟩ := fun i => by unfold Addr.add; split <;> simp_all
      refine .inr ⟨b, o, rfl, World.block_lt_of_cell? w _ hc0, fun j v hj => ?_⟩
      have hjl : j < (zs.take len).length := by
        have := (List.getElem?_eq_some_iff.1 hj).1
        simpa [nums] using this
      rw [nums_get hjl] at hj
      injection hj with hj
      have h6 := h4 j (by rw [List.length_take] at hjl; omega)
      rw [hadd] at h6
      rw [h6, ← hj, el_take _ _ _ (by rw [List.length_take] at hjl; omega), el]

theorem bytes_of_wf {l : List Int} (h : ∀ n ∈ l, (Lit.int .u8 n).wf = true) : bytes l := fun x hx => by
  have := h x hx
  simp [Lit.wf, IntKind.min, IntKind.max, IntKind.bits, IntKind.signed] at this
  omega
theorem i64_of_wf {n : Int} (h : (Lit.int .i64 n).wf = true) : -9223372036854775808 ≤ n ∧ n ≤ 9223372036854775807 := by
  simp [Lit.wf, IntKind.min, IntKind.max, IntKind.bits, IntKind.signed] at h
  omega

/-- An element of an array value, each element a whole number. -/
theorem run_index_agg {P : Program} (t e : TypeId) (n : Nat) (cs : List Value) (k kd : IntKind) (i : Nat) (v : Value) (h : P.underlying t = some (.array n e)) (hn : cs.length = n) (he : P.underlying e = some (.int kd)) (h1 : (P.info? e).map (·.size) = some 1) (hv : cs[i]? = some v) (w : World) :
    (Instr.index t (.agg cs.toArray) (.int k i)).run P w = .ok v w := by
  have hi : i < n := by rw [← hn]; exact (List.getElem?_eq_some_iff.1 hv).1
  have hagg : (isAgg e).run P w = .ok false w := by
    unfold isAgg
    rw [Sem.run_bind, run_underlying he w]
    rfl
  cases hq : P.info? e with
  | none => simp [hq] at h1
  | some inf =>
    simp [hq] at h1
    simp [Instr.index, run_underlying h, asIntOf, hi, go_sem, h1, hq, sizeOf, typeInfo, hagg, hv]
end Go.Proofs.Ytnnchmlkgofhpaa
