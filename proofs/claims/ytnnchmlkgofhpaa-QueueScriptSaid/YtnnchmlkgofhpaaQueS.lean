/- The walks of praxinoscopelaw02's bit and Long, and what a queue is beside all that ever came; no conditions but the bounds that they name. -/
import Derived.Test.YtnnchmlkgofhpaaQueG
import Derived.Test.YtnnchmlkgofhpaaQueF
import Derived.Test.YtnnchmlkgofhpaaQueR
set_option linter.unusedVariables false
set_option linter.unusedSimpArgs false
namespace Go.Proofs.Ytnnchmlkgofhpaa
open Go.RowKit

/-- The bit at a place. -/
def bitV (l : List Int) (p : Nat) : Int := el l (p / 8) / 2 ^ (7 - p % 8) % 2

set_option maxHeartbeats 2000000 in
theorem bitF (w : World) (A : Option Addr) (n c : Nat) (l : List Int) (hn : l.length = n) (hm : n ≤ 1000000) (hr : Rd w A (nums .u8 l)) (hb : bytes l) (p : Nat) (hp : p / 8 < n) :
    Calls Try.prog 23 #[.slice A n c, .int .i64 p] w fun e w' => e = .returned (.int .i64 (bitV l p)) ∧ w' = w := by
  obtain ⟨b, o, rfl, hlt, hc⟩ := hr.at_ (i := 0) (by rw [nums_length]; omega)
  have c0 : w.cell? ⟨b, o + p / 8, none⟩ = some (.int .u8 (el l (p / 8))) := hc _ _ (nums_get (by omega))
  have hbd := bytes_el hb (p / 8)
  obtain ⟨y, hy⟩ : ∃ y, y = el l (p / 8) := ⟨_, rfl⟩
  rw [← hy] at c0 hbd
  have hp2 : p < 8 * n := by omega
  have hp63 : p < 8000000 := by omega
  have e : bitV l p = y / 2 ^ (7 - p % 8) % 2 := by rw [hy]; rfl
  have hd1 : ((p : Int) / 8).toNat = p / 8 := by omega
  rw [e]
  clear hc hb hr e hy hn
  rcases (by omega : p % 8 = 0 ∨ p % 8 = 1 ∨ p % 8 = 2 ∨ p % 8 = 3 ∨ p % 8 = 4 ∨ p % 8 = 5 ∨ p % 8 = 6 ∨ p % 8 = 7) with h | h | h | h | h | h | h | h
  · have hz : (p : Int) % 8 = 0 := by omega
    rw [h]
    go_enter Try.func23, Try.ntmps23
    go_wp2
    go_ret
    exact ⟨rfl, rfl⟩
  · have hz : (p : Int) % 8 = 1 := by omega
    rw [h]
    go_enter Try.func23, Try.ntmps23
    go_wp2
    go_ret
    exact ⟨rfl, rfl⟩
  · have hz : (p : Int) % 8 = 2 := by omega
    rw [h]
    go_enter Try.func23, Try.ntmps23
    go_wp2
    go_ret
    exact ⟨rfl, rfl⟩
  · have hz : (p : Int) % 8 = 3 := by omega
    rw [h]
    go_enter Try.func23, Try.ntmps23
    go_wp2
    go_ret
    exact ⟨rfl, rfl⟩
  · have hz : (p : Int) % 8 = 4 := by omega
    rw [h]
    go_enter Try.func23, Try.ntmps23
    go_wp2
    go_ret
    exact ⟨rfl, rfl⟩
  · have hz : (p : Int) % 8 = 5 := by omega
    rw [h]
    go_enter Try.func23, Try.ntmps23
    go_wp2
    go_ret
    exact ⟨rfl, rfl⟩
  · have hz : (p : Int) % 8 = 6 := by omega
    rw [h]
    go_enter Try.func23, Try.ntmps23
    go_wp2
    go_ret
    exact ⟨rfl, rfl⟩
  · have hz : (p : Int) % 8 = 7 := by omega
    have e0 : y / 2 ^ (7 - 7) % 2 = y % 2 := by simp
    rw [h, e0]
    clear e0
    go_enter Try.func23, Try.ntmps23
    go_wp2
    go_ret
    exact ⟨rfl, rfl⟩

/-- How many bytes an act has, by its number. -/
def actAt (l : List QAct) (i : Nat) : QAct := l.getD i ⟨0, 0, none, 0, 0, []⟩
theorem actAt_get {l : List QAct} {i : Nat} (h : i < l.length) : l[i]? = some (actAt l i) := by simp [actAt, List.getD_eq_getElem?_getD, List.getElem?_eq_getElem h]
theorem actAt_mem {l : List QAct} {i : Nat} (h : i < l.length) : actAt l i ∈ l := by
  have := actAt_get h
  exact List.mem_of_getElem? this

/-- The cells of an act. -/
theorem act_cells {w : World} {A : Option Addr} {l : List QAct} (hr : Rd w A (actsV l)) {i : Nat} (hi : i < l.length) :
    ∃ b o, A = some ⟨b, o, none⟩ ∧ w.cell? ⟨b, o + i * 3, none⟩ = some (.int .i64 (actAt l i).kind) ∧ w.cell? ⟨b, o + i * 3 + 1, none⟩ = some (.int .i64 (actAt l i).n) ∧
      w.cell? ⟨b, o + i * 3 + 2, none⟩ = some (.slice (actAt l i).a (actAt l i).len (actAt l i).cap) := by
  obtain ⟨b, o, rfl, _, hc⟩ := hr.at_ (i := 0) (by rw [actsV_len]; omega)
  obtain ⟨h0, h1, h2⟩ := actsV_get l i _ (actAt_get hi)
  refine ⟨b, o, rfl, ?_, ?_, ?_⟩
  · have := hc _ _ h0; rwa [show o + 3 * i = o + i * 3 by omega] at this
  · have := hc _ _ h1; rwa [show o + (3 * i + 1) = o + i * 3 + 1 by omega] at this
  · have := hc _ _ h2; rwa [show o + (3 * i + 2) = o + i * 3 + 2 by omega] at this

set_option maxHeartbeats 2000000 in
theorem longF (w : World) (A : Option Addr) (n c : Nat) (l : List QAct) (hn : l.length = n) (hm : n ≤ maxLen) (hr : Rd w A (actsV l)) (hok : ∀ p ∈ l, ActOk w p) :
    Calls Try.prog 21 #[.slice A n c] w fun e w' => (e = .returned (.bool true) ∨ (e = .returned (.bool false) ∧ n ≤ 60 ∧ ∀ i, i < n → (actAt l i).len ≤ 100)) ∧ w' = w := by
  have HC : Hid (∀ i, i < n → ∃ b o, A = some ⟨b, o, none⟩ ∧ w.cell? ⟨b, o + i * 3 + 2, none⟩ = some (.slice (actAt l i).a (actAt l i).len (actAt l i).cap)) := Lib.hid fun i hi => by
    obtain ⟨b, o, h1, _, _, h2⟩ := act_cells hr (i := i) (by omega)
    exact ⟨b, o, h1, h2⟩
  have HM : Hid (∀ i, i < n → (actAt l i).len ≤ 9223372036854775807) := Lib.hid fun i hi => by
    have := hok _ (actAt_mem (i := i) (by omega))
    have h1 := this.cap
    have h2 := this.max
    unfold maxLen at h2
    omega
  have hm9 : n ≤ 9223372036854775807 := by unfold maxLen at hm; omega
  clear hr hok hn hm
  go_enter Try.func21, Try.ntmps21
  go_wp2
  go_loopw [3] (fun i wr => ∃ k : Nat, k ≤ n ∧ k ≤ 61 ∧ i = .int .i64 k ∧ Hid (∀ j, j < k → (actAt l j).len ≤ 100) ∧ wr = w) (fun i _ => n - (intOf i).toNat)
  case atStart => exact ⟨0, by omega, by omega, rfl, Lib.hid (fun j hj => by omega), rfl⟩
  case round =>
    obtain ⟨k, hk, hk61, rfl, hs, rfl⟩ := hrel
    by_cases hlt : k < n ∧ k < 61
    · have hd : decide ((k : Int) < n) = true := by simp; omega
      have hd2 : decide ((k : Int) < 61) = true := by simp; omega
      obtain ⟨b, o, rfl, hc⟩ := HC.out k hlt.1
      have hkn := hlt.1
      have hk61' := hlt.2
      obtain ⟨q, hq⟩ : ∃ q, q = (actAt l k).len := ⟨_, rfl⟩
      have hq9 : q ≤ 9223372036854775807 := by rw [hq]; exact HM.out k hlt.1
      rw [← hq] at hc
      have HQ := Lib.hid hq
      clear hlt hq
      by_cases hl : 100 < q
      · have hd3 : decide ((100 : Int) < q) = true := by simp; omega
        go_wp2
        go_ret
        exact ⟨.inl rfl, rfl⟩
      · have hd3 : decide ((100 : Int) < q) = false := by simp; omega
        have HS : Hid (∀ j, j < k + 1 → (actAt l j).len ≤ 100) := Lib.hid (fun j hj => by
          by_cases h : j = k
          · subst h; rw [← HQ.out]; omega
          · exact hs.out j (by omega))
        go_wp2
        go_roundw
        case rel => exact ⟨k + 1, by omega, by omega, by go_num, HS, trivial⟩
        case measure => simp [intOf]; omega
    · by_cases hn61 : 60 < n
      · have hd4 : decide ((60 : Int) < n) = true := by simp; omega
        by_cases hkn : k < n
        · have hd : decide ((k : Int) < n) = true := by simp; omega
          have hd2 : decide ((k : Int) < 61) = false := by simp; omega
          clear hlt
          go_wp2
          go_ret
          exact ⟨.inl rfl, rfl⟩
        · have hd : decide ((k : Int) < n) = false := by simp; omega
          clear hlt
          go_wp2
          go_ret
          exact ⟨.inl rfl, rfl⟩
      · have hd4 : decide ((60 : Int) < n) = false := by simp; omega
        have hd : decide ((k : Int) < n) = false := by simp; omega
        have hkn : k = n := by omega
        clear hlt
        have HS : Hid (∀ j, j < n → (actAt l j).len ≤ 100) := Lib.hid (fun j hj => hs.out j (by omega))
        have hkn2 : ¬ k < n := by omega
        clear hkn
        go_wp2
        go_ret
        exact ⟨.inr ⟨rfl, by omega, HS.out⟩, rfl⟩

/-- A queue beside all that ever came and how much of it was read. -/
structure Beside (s : Qs) (all : List Int) (rd : Nat) : Prop where
  data : s.data = all.drop (rd / 8)
  place : s.place = rd % 8
  came : s.came = all.length
  gone : s.gone = rd
  le : rd ≤ 8 * all.length
theorem Beside.left {s : Qs} {all : List Int} {rd : Nat} (h : Beside s all rd) : lefts s = 8 * all.length - rd := by
  unfold lefts
  rw [h.data, h.place, List.length_drop]
  have := h.le
  omega
theorem Beside.len {s : Qs} {all : List Int} {rd : Nat} (h : Beside s all rd) : s.data.length = all.length - rd / 8 := by rw [h.data, List.length_drop]
theorem Beside.fed {s : Qs} {all : List Int} {rd : Nat} (h : Beside s all rd) (l : List Int) (K : Nat) (hK : K ≤ l.length) : Beside (fedQ s l K) (all ++ l.take K) rd where
  data := by
    show s.data ++ l.take K = _
    have := h.le
    rw [h.data, List.drop_append_of_le_length (by omega)]
  place := h.place
  came := by
    show s.came + K = _
    rw [h.came, List.length_append, List.length_take]
    omega
  gone := h.gone
  le := by
    have := h.le
    rw [List.length_append]
    omega
theorem Beside.skip {s : Qs} {all : List Int} {rd : Nat} (h : Beside s all rd) (n : Nat) (hn : rd + n ≤ 8 * all.length) : Beside (skipQ s n) all (rd + n) where
  data := by
    show s.data.drop ((s.place + n) / 8) = _
    rw [h.data, h.place, List.drop_drop]
    congr 1
    omega
  place := by
    show (s.place + n) % 8 = _
    rw [h.place]
    omega
  came := h.came
  gone := by
    show s.gone + n = _
    rw [h.gone]
  le := hn
theorem Beside.new (M : Nat) : Beside (newQ M) [] 0 := ⟨rfl, rfl, rfl, rfl, by simp⟩
/-- The bits ahead of all are the bits of what is there. -/
theorem Beside.bit {s : Qs} {all : List Int} {rd : Nat} (h : Beside s all rd) (k : Nat) : bitV s.data (s.place + k) = bitV all (rd + k) := by
  unfold bitV
  rw [h.data, h.place, el_drop, show rd / 8 + (rd % 8 + k) / 8 = (rd + k) / 8 by omega, show (rd % 8 + k) % 8 = (rd + k) % 8 by omega]
end Go.Proofs.Ytnnchmlkgofhpaa
