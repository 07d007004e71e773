/- A list of a queue's acts that came in, opened; no conditions. -/
import Derived.Test.YtnnchmlkgofhpaaOpenS
import Derived.Test.YtnnchmlkgofhpaaProg
import Derived.ChangeSlices
set_option linter.unusedVariables false
set_option linter.unusedSimpArgs false
namespace Go.Proofs.Ytnnchmlkgofhpaa
open Go.Deep Go.ChangeShapes Go.WideShapes Go.RowKit

/-- An act: its kind, a number, and bytes, with the slice that leads to them. -/
structure QAct where
  kind : Int
  n : Int
  a : Option Addr
  len : Nat
  cap : Nat
  b : List Int
instance : Inhabited QAct := ⟨⟨0, 0, none, 0, 0, []⟩⟩

def actsV (l : List QAct) : List Value := l.flatMap fun p => [.int .i64 p.kind, .int .i64 p.n, .slice p.a p.len p.cap]
structure ActOk (w : World) (p : QAct) : Prop where
  kind : -9223372036854775808 ≤ p.kind ∧ p.kind ≤ 9223372036854775807
  n : -9223372036854775808 ≤ p.n ∧ p.n ≤ 9223372036854775807
  len : p.b.length = p.len
  cap : p.len ≤ p.cap
  max : p.cap ≤ maxLen
  rd : Rd w p.a (nums .u8 p.b)
  bytes : bytes p.b
/-- A slice that leads to acts. -/
def IsActs (w : World) (a : Option Addr) (len cap : Nat) (zs : List QAct) : Prop :=
  zs.length = len ∧ len ≤ cap ∧ cap ≤ maxLen ∧ Rd w a (actsV zs) ∧ ∀ p ∈ zs, ActOk w p

theorem acts_rows (n : Nat) (f : Nat → QAct) : actsV ((List.range n).map f) = rowsV n 3 (fun i j => if j = 0 then .int .i64 (f i).kind else if j = 1 then .int .i64 (f i).n else .slice (f i).a (f i).len (f i).cap) := by
  unfold actsV rowsV
  rw [List.flatMap_map]
  rfl
theorem actsV_len (l : List QAct) : (actsV l).length = 3 * l.length := by
  induction l with
  | nil => rfl
  | cons p t ih => simp [actsV] at ih ⊢; omega
theorem actsV_get (l : List QAct) (k : Nat) (p : QAct) (h : l[k]? = some p) : (actsV l)[3 * k]? = some (.int .i64 p.kind) ∧ (actsV l)[3 * k + 1]? = some (.int .i64 p.n) ∧ (actsV l)[3 * k + 2]? = some (.slice p.a p.len p.cap) := by
  induction l generalizing k with
  | nil => simp at h
  | cons q t ih =>
    have e : actsV (q :: t) = .int .i64 q.kind :: .int .i64 q.n :: .slice q.a q.len q.cap :: actsV t := rfl
    cases k with
    | zero =>
      simp at h
      subst h
      exact ⟨rfl, rfl, rfl⟩
    | succ k =>
      have := ih k (by simpa using h)
      rw [e, show 3 * (k + 1) = 3 * k + 1 + 1 + 1 by omega, show 3 * k + 1 + 1 + 1 + 1 = (3 * k + 1) + 1 + 1 + 1 by omega, show 3 * k + 1 + 1 + 1 + 2 = (3 * k + 2) + 1 + 1 + 1 by omega]
      simpa using this

theorem open_acts {H : Type} {enc : TypeId × Value → H} {w : World} {fuel : Nat} {a : Option Addr} {len cap : Nat} {x : DataW H × List MemPlace}
    (h : DataW.trod enc Try.prog w 0 (fun _ => true) true fuel 38 [.slice a len cap] = some x) : ∃ zs, IsActs w a len cap zs := by
  rcases open_structs Try.underlying38 Try.underlying41 (by kernel_rfl) (by kernel_rfl) (by decide) h with h0 | ⟨ad, len', cap', n, V, h0, hl, hm, hr, hV⟩
  · simp only [List.cons.injEq, Value.slice.injEq, and_true] at h0
    obtain ⟨rfl, rfl, rfl⟩ := h0
    exact ⟨[], rfl, Nat.le_refl _, by simp [maxLen], .nil _ _, by simp⟩
  · simp only [List.cons.injEq, Value.slice.injEq, and_true] at h0
    obtain ⟨rfl, rfl, rfl⟩ := h0
    have key : ∀ i, i < len → ∃ p : QAct, V i 0 = .int .i64 p.kind ∧ V i 1 = .int .i64 p.n ∧ V i 2 = .slice p.a p.len p.cap ∧ ActOk w p := by
      intro i hi
      obtain ⟨z0, e0, w0⟩ := open_num Try.underlying3 (hV i hi 0 _ rfl)
      obtain ⟨z1, e1, w1⟩ := open_num Try.underlying3 (hV i hi 1 _ rfl)
      obtain ⟨y, hy⟩ := hV i hi 2 _ rfl
      have hb : ∃ (A : Option Addr) (l c : Nat) (zs : List Int), V i 2 = .slice A l c ∧ IsRow .u8 w A l c zs := by
        rcases open_ints Try.underlying22 Try.underlying5 (by kernel_rfl) hy with ⟨hcs, _⟩ | ⟨x, l, c, zs, hcs, _, hl, hm, hz, _, hcell, hwz⟩
        · exact ⟨none, 0, 0, [], by simpa using hcs, .inl ⟨rfl, rfl, rfl, rfl⟩⟩
        · exact ⟨some x, l, c, zs, by simpa using hcs, .inr ⟨x, rfl, hl, hm, by simpa using hz, hcell, hwz⟩⟩
      obtain ⟨A, l, c, zs, e2, hrow⟩ := hb
      obtain ⟨k1, k2, k3, k4, k5⟩ := hrow.rd
      exact ⟨⟨z0, z1, A, l, c, zs.take l⟩, e0, e1, e2, i64_of_wf w0, i64_of_wf w1, k1, k2, k3, k4, bytes_of_wf k5⟩
    obtain ⟨f, hf⟩ := choose_lt key
    refine ⟨(List.range len).map f, by simp, hl, hm, ?_, ?_⟩
    · rw [acts_rows]
      have e : rowsV len 3 (fun i j => if j = 0 then .int .i64 (f i).kind else if j = 1 then .int .i64 (f i).n else .slice (f i).a (f i).len (f i).cap) = rowsV len 3 V := by
        unfold rowsV
        apply flatMap_congr_range
        intro i hi
        have h1 := hf i hi
        show [Value.int .i64 (f i).kind, Value.int .i64 (f i).n, Value.slice (f i).a (f i).len (f i).cap] = [V i 0, V i 1, V i 2]
        rw [h1.1, h1.2.1, h1.2.2.1]
      rw [e]
      exact hr
    · intro p hp
      obtain ⟨i, hi, rfl⟩ := List.mem_map.1 hp
      exact (hf i (List.mem_range.1 hi)).2.2.2
end Go.Proofs.Ytnnchmlkgofhpaa
