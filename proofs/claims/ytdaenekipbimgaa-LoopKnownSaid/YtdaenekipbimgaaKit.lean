/- Small facts on blocks of cells and on worlds that differ in named blocks alone; no conditions. -/
import Derived.WalkKit
import Derived.WalkLawsBesides
import Derived.Deep.QuietTactic
import Derived.BigQuiet
import Derived.Deep.RegionHeld3
import Derived.Deep.LoopGhost
import Derived.Lib.Hide
import Derived.Test.YtdaenekipbimgaaEl
set_option linter.unusedVariables false
set_option linter.unusedSimpArgs false
namespace Go.Proofs.Ytdaenekipbimgaa
open Go.RowKit

/-- Block b is a row of cells of type T. -/
def Blk (w : World) (b : Nat) (T : TypeId) (cs : List Value) : Prop := w.heap[b]? = some (.cells cs.toArray T (0, 0))

theorem Blk.lt {w : World} {b : Nat} {T : TypeId} {cs : List Value} (h : Blk w b T cs) : b < w.heap.size := lt_of_block h
theorem Blk.cell {w : World} {b : Nat} {T : TypeId} {cs : List Value} (h : Blk w b T cs) {i : Nat} {v : Value} (hi : cs[i]? = some v) : w.cell? ⟨b, i, none⟩ = some v := by
  unfold Blk at h
  simp [World.cell?, h, hi]
theorem Blk.free {w : World} {b : Nat} {T : TypeId} {cs : List Value} (h : Blk w b T cs) (i : Nat) : w.frozen? ⟨b, i, none⟩ = false := by
  unfold Blk at h
  simp [World.frozen?, h]
theorem Blk.new (w : World) (T : TypeId) (cs : List Value) : Blk (w.alloc (.cells cs.toArray T)) w.heap.size T cs := heap_alloc_new w _
theorem Blk.alloc {w : World} {b : Nat} {T : TypeId} {cs : List Value} (h : Blk w b T cs) (o : Obj) : Blk (w.alloc o) b T cs := (Below.heap_alloc w o b h.lt).trans h
theorem Blk.drewN {w : World} {b : Nat} {T : TypeId} {cs : List Value} (h : Blk w b T cs) (n : Nat) : Blk (w.drewN n) b T cs := h
theorem Blk.drew {w : World} {b : Nat} {T : TypeId} {cs : List Value} (h : Blk w b T cs) : Blk w.drew b T cs := h
theorem Blk.set {w : World} {b : Nat} {T : TypeId} {cs : List Value} (h : Blk w b T cs) (i : Nat) (v : Value) : Blk (w.setCell ⟨b, i, none⟩ v) b T (cs.set i v) := by
  have hlt := h.lt
  unfold Blk at h
  have h' : w.heap[b] = .cells cs.toArray T (0, 0) := by simpa [Array.getElem?_eq_getElem hlt] using h
  show (w.heap.modify b _)[b]? = _
  rw [Array.getElem?_eq_getElem (by simpa using hlt), Array.getElem_modify_self, h']
  simp
theorem Blk.far {w : World} {b : Nat} {T : TypeId} {cs : List Value} (h : Blk w b T cs) {a : Addr} (hne : b ≠ a.block) (v : Value) : Blk (w.setCell a v) b T cs :=
  (Below.heap_setCell w a v b hne).trans h

/-- w' is w, but for new blocks and the blocks of S. -/
structure Mod (S : Nat → Prop) (w w' : World) : Prop where
  os : w'.os = w.os
  tape : w'.tape = w.tape
  output : w'.output = w.output
  size : w.heap.size ≤ w'.heap.size
  block : ∀ k, k < w.heap.size → ¬ S k → w'.heap[k]? = w.heap[k]?

theorem Mod.refl (S : Nat → Prop) (w : World) : Mod S w w := ⟨rfl, rfl, rfl, Nat.le_refl _, fun _ _ _ => rfl⟩
theorem Mod.trans {S : Nat → Prop} {a b c : World} (h : Mod S a b) (k : Mod S b c) : Mod S a c :=
  ⟨k.os.trans h.os, k.tape.trans h.tape, k.output.trans h.output, Nat.le_trans h.size k.size, fun i hi hs => (k.block i (Nat.lt_of_lt_of_le hi h.size) hs).trans (h.block i hi hs)⟩
/-- What the second step writes may be new to the first. -/
theorem Mod.then {S S' : Nat → Prop} {a b c : World} (h : Mod S a b) (k : Mod S' b c) (hs : ∀ i, i < a.heap.size → S' i → S i) : Mod S a c :=
  ⟨k.os.trans h.os, k.tape.trans h.tape, k.output.trans h.output, Nat.le_trans h.size k.size, fun i hi hn => (k.block i (Nat.lt_of_lt_of_le hi h.size) (fun h' => hn (hs i hi h'))).trans (h.block i hi hn)⟩
theorem Mod.mono {S S' : Nat → Prop} {a b : World} (h : Mod S a b) (hs : ∀ i, i < a.heap.size → S i → S' i) : Mod S' a b :=
  ⟨h.os, h.tape, h.output, h.size, fun i hi hn => h.block i hi (fun h' => hn (hs i hi h'))⟩
theorem Mod.of_below {S : Nat → Prop} {a b : World} (h : Below a.heap.size a b) : Mod S a b := ⟨h.os, h.tape, h.output, h.size, fun i hi _ => h.block i hi⟩
theorem Mod.below {a b : World} {S : Nat → Prop} (h : Mod S a b) (hs : ∀ i, i < a.heap.size → ¬ S i) : Below a.heap.size a b := ⟨h.os, h.tape, h.output, h.size, fun i hi => h.block i hi (hs i hi)⟩
theorem Mod.alloc {S : Nat → Prop} {a w : World} (h : Mod S a w) (o : Obj) : Mod S a (w.alloc o) :=
  h.then (S' := S) ⟨rfl, rfl, rfl, by simp, fun k hk _ => Below.heap_alloc _ _ _ hk⟩ (fun _ _ h => h)
theorem Mod.drewN {S : Nat → Prop} {a w : World} (h : Mod S a w) (n : Nat) : Mod S a (w.drewN n) := ⟨h.os, h.tape, h.output, h.size, h.block⟩
theorem Mod.drew {S : Nat → Prop} {a w : World} (h : Mod S a w) : Mod S a w.drew := ⟨h.os, h.tape, h.output, h.size, h.block⟩
theorem Mod.set {S : Nat → Prop} {a w : World} (h : Mod S a w) {p : Addr} (hp : a.heap.size ≤ p.block ∨ S p.block) (v : Value) : Mod S a (w.setCell p v) :=
  ⟨h.os, h.tape, h.output, by simpa [World.setCell] using h.size, fun k hk hn => (Below.heap_setCell w p v k (by
    rintro rfl
    rcases hp with hp | hp
    · omega
    · exact hn hp)).trans (h.block k hk hn)⟩
theorem Mod.set1 {b k : Nat} {a w : World} (h : Mod (· = b) a w) (v : Value) : Mod (· = b) a (w.setCell ⟨b, k, none⟩ v) := h.set (.inr rfl) v
theorem Mod.grown {S : Nat → Prop} {a w w' : World} {row : Option Nat} (h : Mod S a w) (hg : w.grownBy w' row) (hr : ∀ k, row = some k → a.heap.size ≤ k ∨ S k) : Mod S a w' :=
  ⟨hg.os.trans h.os, hg.tape.trans h.tape, hg.output.trans h.output, Nat.le_trans h.size hg.size, fun k hk hn => (hg.block k (Nat.lt_of_lt_of_le hk h.size) (by
    intro he
    rcases hr k he.symm with h' | h'
    · omega
    · exact hn h')).trans (h.block k hk hn)⟩
theorem Mod.add {S : Nat → Prop} {a b c : World} (h : Mod S a b) (k : Below b.heap.size b c) : Mod S a c := h.then (Mod.of_below (S := S) k) (fun _ _ h => h)
theorem Blk.mod {w w' : World} {b : Nat} {T : TypeId} {cs : List Value} (h : Blk w b T cs) {S : Nat → Prop} (hm : Mod S w w') (hn : ¬ S b) : Blk w' b T cs := (hm.block b h.lt hn).trans h
theorem Blk.below {w w' : World} {b : Nat} {T : TypeId} {cs : List Value} (h : Blk w b T cs) (hm : Below w.heap.size w w') : Blk w' b T cs := (hm.block b h.lt).trans h

/-- What a cell holds, whatever it is. -/
def cellOf (w : World) (a : Addr) : Value := (w.cell? a).getD undef
/-- Block b is the row cs0, but for what place k holds. -/
def BlkBut (w : World) (b : Nat) (T : TypeId) (cs0 : List Value) (k : Nat) : Prop := ∃ cs, Blk w b T cs ∧ cs.length = cs0.length ∧ ∀ i, i ≠ k → cs[i]? = cs0[i]?
theorem Blk.but {w : World} {b : Nat} {T : TypeId} {cs : List Value} (h : Blk w b T cs) (k : Nat) : BlkBut w b T cs k := ⟨cs, h, rfl, fun _ _ => rfl⟩
theorem BlkBut.drew {w : World} {b k : Nat} {T : TypeId} {cs : List Value} (h : BlkBut w b T cs k) : BlkBut w.drew b T cs k := h
theorem BlkBut.below {w w' : World} {b k : Nat} {T : TypeId} {cs : List Value} (h : BlkBut w b T cs k) (hm : Below w.heap.size w w') : BlkBut w' b T cs k := by
  obtain ⟨c, h1, h2⟩ := h
  exact ⟨c, h1.below hm, h2⟩
theorem BlkBut.set {w : World} {b k : Nat} {T : TypeId} {cs : List Value} (h : BlkBut w b T cs k) (v : Value) : BlkBut (w.setCell ⟨b, k, none⟩ v) b T cs k := by
  obtain ⟨c, h1, h2, h3⟩ := h
  exact ⟨_, h1.set k v, by simpa using h2, fun i hi => by rw [List.getElem?_set_ne (Ne.symm hi)]; exact h3 i hi⟩
theorem BlkBut.done {w : World} {b k : Nat} {T : TypeId} {cs : List Value} (h : BlkBut w b T cs k) (v : Value) : Blk (w.setCell ⟨b, k, none⟩ v) b T (cs.set k v) := by
  obtain ⟨c, h1, h2, h3⟩ := h
  have : c.set k v = cs.set k v := by
    apply List.ext_getElem?
    intro i
    by_cases hi : k = i
    · subst hi
      rcases Nat.lt_or_ge k c.length with h | h
      · rw [List.getElem?_set_self h, List.getElem?_set_self (by omega)]
      · rw [List.getElem?_eq_none (by simpa using h), List.getElem?_eq_none (by simp; omega)]
    · rw [List.getElem?_set_ne hi, List.getElem?_set_ne hi]
      exact h3 i (Ne.symm hi)
  rw [← this]
  exact h1.set k v
theorem BlkBut.cell {w : World} {b k : Nat} {T : TypeId} {cs : List Value} (h : BlkBut w b T cs k) (hk : k < cs.length) : w.cell? ⟨b, k, none⟩ = some (cellOf w ⟨b, k, none⟩) := by
  obtain ⟨c, h1, h2, _⟩ := h
  have := h1.cell (i := k) (List.getElem?_eq_getElem (by omega))
  simp [cellOf, this]
theorem BlkBut.free {w : World} {b k : Nat} {T : TypeId} {cs : List Value} (h : BlkBut w b T cs k) (i : Nat) : w.frozen? ⟨b, i, none⟩ = false := by
  obtain ⟨c, h1, _⟩ := h
  exact h1.free i
theorem below_drewN {B : Nat} {a w : World} (h : Below B a w) (n : Nat) : Below B a (w.drewN n) := ⟨h.os, h.tape, h.output, h.size, h.block⟩
theorem below_alloc {w W : World} (h : Below w.heap.size w W) (o : Obj) : Below w.heap.size w (W.alloc o) := h.alloc h.size o
theorem below_then {w w1 w2 : World} (h : Below w.heap.size w w1) (k : Below w1.heap.size w1 w2) : Below w.heap.size w w2 := h.trans (k.mono h.size)

theorem below_mod {S : Nat → Prop} {a b c : World} (h : Below a.heap.size a b) (k : Mod S b c) (hs : ∀ i, S i → a.heap.size ≤ i) : Below a.heap.size a c :=
  h.trans ⟨k.os, k.tape, k.output, k.size, fun i hi => k.block i (Nat.lt_of_lt_of_le hi h.size) (fun h' => by have := hs i h'; omega)⟩

/-- Whole numbers as cells. -/
def nums (k : IntKind) (xs : List Int) : List Value := xs.map (Value.int k)
theorem nums_get {k : IntKind} {xs : List Int} {i : Nat} (h : i < xs.length) : (nums k xs)[i]? = some (.int k (el xs i)) := by
  simp [nums, List.getElem?_map, List.getElem?_eq_getElem h, el_lt h]
theorem nums_set (k : IntKind) (xs : List Int) (i : Nat) (x : Int) : (nums k xs).set i (.int k x) = nums k (xs.set i x) := by simp [nums, List.map_set]
theorem nums_length (k : IntKind) (xs : List Int) : (nums k xs).length = xs.length := by simp [nums]
theorem nums_append (k : IntKind) (xs ys : List Int) : nums k (xs ++ ys) = nums k xs ++ nums k ys := by simp [nums]

/-- A slice's address leads to the values vs. -/
def Rd (w : World) (A : Option Addr) (vs : List Value) : Prop := vs = [] ∨ ∃ b o, A = some ⟨b, o, none⟩ ∧ b < w.heap.size ∧ ∀ j v, vs[j]? = some v → w.cell? ⟨b, o + j, none⟩ = some v
theorem Rd.below {w w' : World} {A : Option Addr} {vs : List Value} (h : Rd w A vs) (hb : Below w.heap.size w w') : Rd w' A vs := by
  rcases h with h | ⟨b, o, h1, h2, h3⟩
  · exact .inl h
  · exact .inr ⟨b, o, h1, Nat.lt_of_lt_of_le h2 hb.size, fun j v hj => (hb.cell (p := ⟨b, o + j, none⟩) h2).trans (h3 j v hj)⟩
theorem Rd.drewN {w : World} {A : Option Addr} {vs : List Value} (h : Rd w A vs) (n : Nat) : Rd (w.drewN n) A vs := h
theorem Rd.mod {w w' : World} {A : Option Addr} {vs : List Value} (h : Rd w A vs) {S : Nat → Prop} (hm : Mod S w w') (hn : ∀ a, A = some a → ¬ S a.block) : Rd w' A vs := by
  rcases h with h | ⟨b, o, h1, h2, h3⟩
  · exact .inl h
  · exact .inr ⟨b, o, h1, Nat.lt_of_lt_of_le h2 hm.size, fun j v hj => (World.cell?_of_block (w := w) (a := ⟨b, o + j, none⟩) (hm.block b h2 (hn _ h1))).trans (h3 j v hj)⟩
theorem Rd.nil (w : World) (A : Option Addr) : Rd w A [] := .inl rfl
theorem Blk.rd {w : World} {b : Nat} {T : TypeId} {cs : List Value} (h : Blk w b T cs) {vs : List Value} (hp : vs <+: cs) : Rd w (some ⟨b, 0, none⟩) vs :=
  .inr ⟨b, 0, rfl, h.lt, fun j v hj => by
    obtain ⟨t, rfl⟩ := hp
    rw [Nat.zero_add]
    exact h.cell (by rw [List.getElem?_append_left (List.getElem?_eq_some_iff.1 hj).1]; exact hj)⟩
/-- Block b begins with the cells vs. -/
def Row (w : World) (b : Nat) (vs : List Value) : Prop := ∃ T cs, Blk w b T cs ∧ vs <+: cs
theorem Blk.row {w : World} {b : Nat} {T : TypeId} {cs vs : List Value} (h : Blk w b T cs) (hp : vs <+: cs) : Row w b vs := ⟨T, cs, h, hp⟩
theorem Blk.row_ {w : World} {b : Nat} {T : TypeId} {cs : List Value} (h : Blk w b T cs) : Row w b cs := ⟨T, cs, h, List.prefix_refl _⟩
theorem Row.lt {w : World} {b : Nat} {vs : List Value} (h : Row w b vs) : b < w.heap.size := by obtain ⟨T, cs, h, _⟩ := h; exact h.lt
theorem Row.cell {w : World} {b : Nat} {vs : List Value} (h : Row w b vs) {i : Nat} {v : Value} (hi : vs[i]? = some v) : w.cell? ⟨b, i, none⟩ = some v := by
  obtain ⟨T, cs, h, t, rfl⟩ := h
  exact h.cell (by rw [List.getElem?_append_left (List.getElem?_eq_some_iff.1 hi).1]; exact hi)
theorem Row.free {w : World} {b : Nat} {vs : List Value} (h : Row w b vs) (i : Nat) : w.frozen? ⟨b, i, none⟩ = false := by obtain ⟨T, cs, h, _⟩ := h; exact h.free i
theorem Row.rd {w : World} {b : Nat} {vs : List Value} (h : Row w b vs) : Rd w (some ⟨b, 0, none⟩) vs := by obtain ⟨T, cs, h, hp⟩ := h; exact h.rd hp
theorem Row.below {w w' : World} {b : Nat} {vs : List Value} (h : Row w b vs) (hm : Below w.heap.size w w') : Row w' b vs := by obtain ⟨T, cs, h, hp⟩ := h; exact ⟨T, cs, h.below hm, hp⟩
theorem Row.mod {w w' : World} {b : Nat} {vs : List Value} (h : Row w b vs) {S : Nat → Prop} (hm : Mod S w w') (hn : ¬ S b) : Row w' b vs := by obtain ⟨T, cs, h, hp⟩ := h; exact ⟨T, cs, h.mod hm hn, hp⟩
theorem Row.alloc {w : World} {b : Nat} {vs : List Value} (h : Row w b vs) (o : Obj) : Row (w.alloc o) b vs := by obtain ⟨T, cs, h, hp⟩ := h; exact ⟨T, cs, h.alloc o, hp⟩
theorem Row.drewN {w : World} {b : Nat} {vs : List Value} (h : Row w b vs) (n : Nat) : Row (w.drewN n) b vs := h
theorem Row.far {w : World} {b : Nat} {vs : List Value} (h : Row w b vs) {a : Addr} (hne : b ≠ a.block) (v : Value) : Row (w.setCell a v) b vs := by obtain ⟨T, cs, h, hp⟩ := h; exact ⟨T, cs, h.far hne v, hp⟩
theorem Row.set {w : World} {b : Nat} {vs : List Value} (h : Row w b vs) {i : Nat} (hi : i < vs.length) (v : Value) : Row (w.setCell ⟨b, i, none⟩ v) b (vs.set i v) := by
  obtain ⟨T, cs, h, t, rfl⟩ := h
  exact ⟨T, _, h.set i v, t, by rw [List.set_append_left _ _ hi]⟩
theorem Row.take {w : World} {b : Nat} {vs us : List Value} (h : Row w b vs) (hp : us <+: vs) : Row w b us := by obtain ⟨T, cs, h, hq⟩ := h; exact ⟨T, cs, h, hp.trans hq⟩

/-- Where there is an element there is an address. -/
theorem Rd.at_ {w : World} {A : Option Addr} {vs : List Value} (h : Rd w A vs) {i : Nat} (hi : i < vs.length) : ∃ b o, A = some ⟨b, o, none⟩ ∧ b < w.heap.size ∧ ∀ j v, vs[j]? = some v → w.cell? ⟨b, o + j, none⟩ = some v := by
  rcases h with rfl | h
  · simp at hi
  · exact h

/-- An element of an array value, each element a whole number. -/
theorem run_index_agg {P : Program} (t e : TypeId) (n : Nat) (cs : List Value) (k kd : IntKind) (i : Nat) (v : Value) (h : P.underlying t = some (.array n e)) (hn : cs.length = n) (he : P.underlying e = some (.int kd)) (h1 : (P.info? e).map (·.size) = some 1) (hv : cs[i]? = some v) (w : World) :
    (Instr.index t (.agg cs.toArray) (.int k i)).run P w = .ok v w := by
  have hi : i < n := by rw [← hn]; exact (List.getElem?_eq_some_iff.1 hv).1
  have hagg : (isAgg e).run P w = .ok false w := by
    unfold isAgg
    rw [Sem.run_bind, run_underlying he w]
    rfl
  cases hq : P.info? e with
  | none => simp [hq] at h1
  | some inf =>
    simp [hq] at h1
    simp [Instr.index, run_underlying h, asIntOf, hi, go_sem, h1, hq, sizeOf, typeInfo, hagg, hv]
end Go.Proofs.Ytdaenekipbimgaa
