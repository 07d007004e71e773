/- A list of a table's acts that came in, opened; no conditions. -/
import Derived.Test.YtlebigefknhgeaaOpenS
import Derived.Test.YtlebigefknhgeaaProg
set_option linter.unusedVariables false
set_option linter.unusedSimpArgs false
namespace Go.Proofs.Ytlebigefknhgeaa
open Go.Deep Go.ChangeShapes Go.WideShapes Go.RowKit

/-- An act: its kind, a session's number, a cause. -/
structure TAct where
  kind : Int
  id : Int
  cause : Int
instance : Inhabited TAct := ⟨⟨0, 0, 0⟩⟩

def actsV (l : List TAct) : List Value := l.flatMap fun p => [.int .i64 p.kind, .int .i64 p.id, .int .i64 p.cause]
structure ActOk (p : TAct) : Prop where
  kind : -9223372036854775808 ≤ p.kind ∧ p.kind ≤ 9223372036854775807
  id : (Lit.int .i64 p.id).wf = true
  cause : (Lit.int .i64 p.cause).wf = true
/-- A slice that leads to acts. -/
def IsActs (w : World) (a : Option Addr) (len cap : Nat) (zs : List TAct) : Prop :=
  zs.length = len ∧ len ≤ cap ∧ cap ≤ maxLen ∧ Rd w a (actsV zs) ∧ ∀ p ∈ zs, ActOk p

theorem acts_rows (n : Nat) (f : Nat → TAct) : actsV ((List.range n).map f) = rowsV n 3 (fun i j => if j = 0 then .int .i64 (f i).kind else if j = 1 then .int .i64 (f i).id else .int .i64 (f i).cause) := by
  unfold actsV rowsV
  rw [List.flatMap_map]
  rfl
theorem actsV_len (l : List TAct) : (actsV l).length = 3 * l.length := by
  induction l with
  | nil => rfl
  | cons p t ih => simp [actsV] at ih ⊢; omega
theorem actsV_get (l : List TAct) (k : Nat) (p : TAct) (h : l[k]? = some p) : (actsV l)[3 * k]? = some (.int .i64 p.kind) ∧ (actsV l)[3 * k + 1]? = some (.int .i64 p.id) ∧ (actsV l)[3 * k + 2]? = some (.int .i64 p.cause) := by
  induction l generalizing k with
  | nil => simp at h
  | cons q t ih =>
    have e : actsV (q :: t) = .int .i64 q.kind :: .int .i64 q.id :: .int .i64 q.cause :: actsV t := rfl
    cases k with
    | zero =>
      simp at h
      subst h
      exact ⟨rfl, rfl, rfl⟩
    | succ k =>
      have := ih k (by simpa using h)
      rw [e, show 3 * (k + 1) = 3 * k + 1 + 1 + 1 by omega, show 3 * k + 1 + 1 + 1 + 1 = (3 * k + 1) + 1 + 1 + 1 by omega, show 3 * k + 1 + 1 + 1 + 2 = (3 * k + 2) + 1 + 1 + 1 by omega]
      simpa using this

theorem open_acts {H : Type} {enc : TypeId × Value → H} {w : World} {base : Nat} {spare : Nat → Bool} {held : Bool} {fuel : Nat} {a : Option Addr} {len cap : Nat} {x : DataW H × List MemPlace}
    (h : DataW.trod enc Try.prog w base spare held fuel 22 [.slice a len cap] = some x) : ∃ zs, IsActs w a len cap zs := by
  rcases open_structs Try.underlying22 Try.underlying31 (by kernel_rfl) (by kernel_rfl) (by decide) h with h0 | ⟨ad, len', cap', n, V, h0, hl, hm, hr, hV⟩
  · simp only [List.cons.injEq, Value.slice.injEq, and_true] at h0
    obtain ⟨rfl, rfl, rfl⟩ := h0
    exact ⟨[], rfl, Nat.le_refl _, by simp [maxLen], .nil _ _, by simp⟩
  · simp only [List.cons.injEq, Value.slice.injEq, and_true] at h0
    obtain ⟨rfl, rfl, rfl⟩ := h0
    have key : ∀ i, i < len → ∃ p : TAct, V i 0 = .int .i64 p.kind ∧ V i 1 = .int .i64 p.id ∧ V i 2 = .int .i64 p.cause ∧ ActOk p := by
      intro i hi
      obtain ⟨z0, e0, w0⟩ := open_num Try.underlying3 (hV i hi 0 _ rfl)
      obtain ⟨z1, e1, w1⟩ := open_num Try.underlying3 (hV i hi 1 _ rfl)
      obtain ⟨z2, e2, w2⟩ := open_num Try.underlying26 (hV i hi 2 _ rfl)
      exact ⟨⟨z0, z1, z2⟩, e0, e1, e2, i64_of_wf w0, w1, w2⟩
    obtain ⟨f, hf⟩ := choose_lt key
    refine ⟨(List.range len).map f, by simp, hl, hm, ?_, ?_⟩
    · rw [acts_rows]
      have e : rowsV len 3 (fun i j => if j = 0 then .int .i64 (f i).kind else if j = 1 then .int .i64 (f i).id else .int .i64 (f i).cause) = rowsV len 3 V := by
        unfold rowsV
        apply flatMap_congr_range
        intro i hi
        have h1 := hf i hi
        show [Value.int .i64 (f i).kind, Value.int .i64 (f i).id, Value.int .i64 (f i).cause] = [V i 0, V i 1, V i 2]
        rw [h1.1, h1.2.1, h1.2.2.1]
      rw [e]
      exact hr
    · intro p hp
      obtain ⟨i, hi, rfl⟩ := List.mem_map.1 hp
      exact (hf i (List.mem_range.1 hi)).2.2.2

/-- An act, by its number. -/
def actAt (l : List TAct) (i : Nat) : TAct := l.getD i ⟨0, 0, 0⟩
theorem actAt_get {l : List TAct} {i : Nat} (h : i < l.length) : l[i]? = some (actAt l i) := by simp [actAt, List.getD_eq_getElem?_getD, List.getElem?_eq_getElem h]
theorem actAt_mem {l : List TAct} {i : Nat} (h : i < l.length) : actAt l i ∈ l := List.mem_of_getElem? (actAt_get h)
/-- The cells of an act, in whatever world comes of this one. -/
theorem act_cells_all {w : World} {A : Option Addr} {l : List TAct} (hr : Rd w A (actsV l)) {i : Nat} (hi : i < l.length) :
    ∃ b o, A = some ⟨b, o, none⟩ ∧ ∀ W, Below w.heap.size w W → W.cell? ⟨b, o + i * 3, none⟩ = some (.int .i64 (actAt l i).kind) ∧ W.cell? ⟨b, o + i * 3 + 1, none⟩ = some (.int .i64 (actAt l i).id) ∧
      W.cell? ⟨b, o + i * 3 + 2, none⟩ = some (.int .i64 (actAt l i).cause) := by
  obtain ⟨b, o, rfl, hb, hc⟩ := hr.at_ (i := 0) (by rw [actsV_len]; omega)
  obtain ⟨h0, h1, h2⟩ := actsV_get l i _ (actAt_get hi)
  refine ⟨b, o, rfl, fun W hW => ⟨?_, ?_, ?_⟩⟩
  · have := hc _ _ h0; rw [show o + 3 * i = o + i * 3 by omega] at this; exact (hW.cell (p := ⟨b, o + i * 3, none⟩) hb).trans this
  · have := hc _ _ h1; rw [show o + (3 * i + 1) = o + i * 3 + 1 by omega] at this; exact (hW.cell (p := ⟨b, o + i * 3 + 1, none⟩) hb).trans this
  · have := hc _ _ h2; rw [show o + (3 * i + 2) = o + i * 3 + 2 by omega] at this; exact (hW.cell (p := ⟨b, o + i * 3 + 2, none⟩) hb).trans this
end Go.Proofs.Ytlebigefknhgeaa
