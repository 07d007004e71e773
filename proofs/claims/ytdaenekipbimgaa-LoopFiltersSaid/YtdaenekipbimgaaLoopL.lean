/- The walk of praxinoscoperef15.Soften: a row, softened, or the error. -/
import Derived.Test.YtdaenekipbimgaaLoopC
import Derived.Test.YtdaenekipbimgaaKfCopyInts
set_option linter.unusedVariables false
set_option linter.unusedSimpArgs false
namespace Go.Proofs.Ytdaenekipbimgaa
open Go.RowKit

set_option maxHeartbeats 1000000 in
theorem refSoften_len (w : World) (A : Option Addr) (n c : Nat) (hn : n ≠ 8) :
    Calls Try.prog 14 #[.slice A n c] w fun e w' => e = .returned (.tuple #[.slice none 0 0, .int .i64 2]) ∧ Below w.heap.size w w' := by
  have h1 : ((n : Int) == 8) = false := beq_eq_false_iff_ne.2 (by omega)
  have h2 : ((n : Int) != 8) = true := by rw [bne_iff_ne]; omega
  clear hn
  go_enter Try.func14, Try.ntmps14
  go_wp2
  go_ret2
  exact ⟨rfl, Below.refl _ _⟩

theorem Own.single (w : World) (base : Nat) (e : TypeId) (x : Value) (hb : base ≤ w.heap.size) : Own (w.alloc (.cells #[x] e)) base e (.slice (some ⟨w.heap.size, 0, none⟩) 1 1) [x] :=
  ⟨rfl, .inr ⟨w.heap.size, 1, #[x], rfl, hb, heap_alloc_new w _, Nat.le_refl _, by simp [maxLen], rfl, rfl⟩⟩
theorem softL_take1 (l : List Int) : nums .i64 ((softL l).take 1) = [.int .i64 (4 * el l 0)] := rfl
theorem softL_take8 (l : List Int) : nums .i64 (softL l) = nums .i64 ((softL l).take 7) ++ [.int .i64 (4 * el l 7)] := rfl
theorem softL_next (l : List Int) (k : Nat) (h : k < 8) : nums .i64 ((softL l).take (k + 1)) = nums .i64 ((softL l).take k) ++ [.int .i64 (soft8 (el l) k)] := by
  rw [take_succ_el _ _ (by rw [softL_len]; exact h), nums_append, softL_el _ _ h]
  rfl

theorem Own.drew {w : World} {base : Nat} {e : TypeId} {v : Value} {vs : List Value} (h : Own w base e v vs) : Own w.drew base e v vs := h
theorem Rd.drew {w : World} {A : Option Addr} {vs : List Value} (h : Rd w A vs) : Rd w.drew A vs := h
theorem oneInt {k : IntKind} {x : Int} : ∀ u ∈ [Value.int k x], u.oneCell' = true := by simp [Value.oneCell']

/-- What it tells. -/
def RefSoftPost (w : World) (l : List Int) (e : Ending) (w' : World) : Prop :=
  ((rowOk l ∧ ∃ v, e = .returned (.tuple #[v, .int .i64 0]) ∧ Own w' w.heap.size 3 v (nums .i64 (softL l))) ∨
    (¬ rowOk l ∧ e = .returned (.tuple #[.slice none 0 0, .int .i64 2]))) ∧ Below w.heap.size w w'

set_option maxHeartbeats 2000000 in
set_option maxRecDepth 100000 in
theorem refSoften_eight (w : World) (A : Option Addr) (c : Nat) (l : List Int) (hl : l.length = 8) (hr : Rd w A (nums .i64 l)) :
    Calls Try.prog 14 #[.slice A 8 c] w (RefSoftPost w l) := by
  obtain ⟨b, o, rfl, hlt, hc⟩ := hr.at_ (i := 0) (by rw [nums_length]; omega)
  have HL := Lib.hid hl
  have HC : Hid (∀ k W, k < 8 → Below w.heap.size w W → W.cell? ⟨b, o + k, none⟩ = some (.int .i64 (el l k))) := Lib.hid (fun k W hk hb => (hb.cell (by exact hlt)).trans (hc k _ (nums_get (by rw [hl]; exact hk))))
  clear hl hc hr
  go_enter Try.func14, Try.ntmps14
  go_wp2
  go_loopw [4] (fun i wr => ∃ k : Nat, k ≤ 8 ∧ i = .int .i64 k ∧ Hid (∀ i, i < k → -1099511627776 ≤ el l i ∧ el l i ≤ 1099511627776) ∧ Below w.heap.size w wr)
    (fun i _ => 8 - (intOf i).toNat)
  case atStart => exact ⟨0, by omega, rfl, fun _ h => absurd h (by omega), Below.refl _ _⟩
  case round =>
    obtain ⟨k, hk, rfl, hok, hbel⟩ := hrel
    by_cases hlt' : k < 8
    · have hcx := HC.out k (wr) hlt' hbel
      have hd : decide ((k : Int) < 8) = true := by simp; omega
      by_cases hlow : el l k < -1099511627776
      · go_wp2
        go_ret2
        exact ⟨.inr ⟨fun h => by have := h.2 k hlt'; omega, rfl⟩, hbel⟩
      · by_cases hhigh : 1099511627776 < el l k
        · go_wp2
          go_ret2
          exact ⟨.inr ⟨fun h => by have := h.2 k hlt'; omega, rfl⟩, hbel⟩
        · go_wp2
          go_roundw
          case rel =>
            refine ⟨k + 1, by omega, by go_num, fun i hi => ?_, hbel⟩
            by_cases h : i = k
            · subst h; omega
            · exact hok.out i (by omega)
          case measure => simp [intOf]; omega
    · have hk8 : k = 8 := by omega
      rw [hk8] at hok
      have hcx := HC.out 0 wr (by omega) hbel
      rw [Nat.add_zero] at hcx
      have hb0 := hok.out 0 (by omega)
      have hown := Lib.hid (Own.single wr w.heap.size 3 (.int .i64 (4 * el l 0)) hbel.size)
      have hbel1 := Lib.hid (below_alloc hbel (.cells #[.int .i64 (4 * el l 0)] 3))
      have HS : Hid (∀ k, k < 8 → soft8 (el l) k = if k = 0 ∨ k = 7 then 4 * el l k else el l (k - 1) + 2 * el l k + el l (k + 1)) := Lib.hid (fun k _ => rfl)
      clear hk8
      go_wp2
      go_loopw [5, 6] (fun s i wr => ∃ k : Nat, 1 ≤ k ∧ k ≤ 7 ∧ i = .int .i64 k ∧ Own wr w.heap.size 3 s (nums .i64 ((softL l).take k)) ∧ Below w.heap.size w wr)
        (fun _ i _ => 7 - (intOf i).toNat)
      case atStart => exact ⟨1, by omega, by omega, rfl, by rw [softL_take1]; exact hown.out, hbel1.out⟩
      case round =>
        obtain ⟨k, hk1, hk7, rfl, ho, hb2⟩ := hrel
        clear hown hbel1 hcx
        by_cases hlt2 : k < 7
        · have HS2 : Hid (∀ W, Below w.heap.size w W → W.cell? ⟨b, o + (k - 1), none⟩ = some (.int .i64 (el l (k - 1))) ∧ W.cell? ⟨b, o + k, none⟩ = some (.int .i64 (el l k)) ∧ W.cell? ⟨b, o + (k + 1), none⟩ = some (.int .i64 (el l (k + 1))) ∧ Below w.heap.size w W) := Lib.hid (fun W hW => ⟨HC.out _ W (by omega) hW, HC.out _ W (by omega) hW, HC.out _ W (by omega) hW, hW⟩)
          have hr0 := hok.out (k - 1) (by omega)
          have hr1 := hok.out k (by omega)
          have hr2 := hok.out (k + 1) (by omega)
          have hd : decide ((k : Int) < 7) = true := by simp; omega
          have e1 : IntKind.i64.wrap ((k : Int) - 1) = (k : Int) - 1 := IntWalk.i64_in _ (by omega)
          have e2 : IntKind.i64.wrap ((k : Int) + 1) = (k : Int) + 1 := IntWalk.i64_in _ (by omega)
          have e3 : IntKind.i64.wrap (2 * el l k) = 2 * el l k := IntWalk.i64_in _ (by omega)
          have e4 : IntKind.i64.wrap (el l (k - 1) + 2 * el l k) = el l (k - 1) + 2 * el l k := IntWalk.i64_in _ (by omega)
          have e5 : IntKind.i64.wrap (el l (k - 1) + 2 * el l k + el l (k + 1)) = el l (k - 1) + 2 * el l k + el l (k + 1) := IntWalk.i64_in _ (by omega)
          have i3 : (1 : Int) ≤ (k : Int) := by omega
          have i4 : (k : Int) < 8 := by omega
          have i5 : (0 : Int) ≤ (k : Int) + 1 := by omega
          have i1 : (k : Int) - 1 < 8 := by omega
          have i2 : (k : Int) + 1 < 8 := by omega
          have HSo : Hid (soft8 (el l) k = el l (k - 1) + 2 * el l k + el l (k + 1)) := Lib.hid (by rw [HS.out k (by omega), if_neg (by omega)])
          have HBA := Lib.hid (below_alloc hb2 (.cells #[.int .i64 (el l (k - 1) + 2 * el l k + el l (k + 1))] 3))
          have HLN : Hid ((nums .i64 ((softL l).take k)).length + 1 ≤ maxLen) := Lib.hid (by rw [nums_length, List.length_take, softL_len]; simp [maxLen]; omega)
          have HLB : Hid (((nums .i64 ((softL l).take k)).length + 1) * 8 ≤ 140737488355328) := Lib.hid (by rw [nums_length, List.length_take, softL_len]; omega)
          clear HS
          go_wp2
          go_region_held3 (fun W => W.cell? ⟨b, o + (k - 1), none⟩ = some (.int .i64 (el l (k - 1))) ∧ W.cell? ⟨b, o + k, none⟩ = some (.int .i64 (el l k)) ∧ W.cell? ⟨b, o + (k + 1), none⟩ = some (.int .i64 (el l (k + 1))) ∧ Below w.heap.size w W)
            (first | exact HS2.out _ (below_drewN hb2 1) | exact HS2.out _ (below_drewN (below_alloc hb2 _) 1) | exact HS2.out _ hbw1)
            (first | (refine step_append_rd rfl (.tmp 35) (.tmp 53) 23 3 (.int .i64 0) 8 rfl Try.underlying23 infoInt rfl w.heap.size _ (nums .i64 ((softL l).take k)) (some ⟨wr.heap.size, 0, none⟩) 1 1 [.int .i64 (el l (k - 1) + 2 * el l k + el l (k + 1))] rfl rfl (ho.alloc (.cells #[.int .i64 (el l (k - 1) + 2 * el l k + el l (k + 1))] 3)).drew rfl (Blk.new wr 3 [.int .i64 (el l (k - 1) + 2 * el l k + el l (k + 1))]).row_.rd.drew oneInt HBA.out.size HLN.out HLB.out ?_; intro v1 w1 hown1 hg1; have hbw1 := (below_drewN HBA.out 1).grown hg1 HBA.out.size (fun k hk => (ho.base k hk).1); clear hg1))
          go_wp2
          go_roundw
          case rel => exact ⟨k + 1, by omega, by omega, by go_num, by rw [softL_next _ _ (by omega), HSo.out]; exact hown1, hbw1⟩
          case measure => simp [intOf]; omega
        · have hk7 : k = 7 := by omega
          rw [hk7] at ho
          have hcx := HC.out 7 wr (by omega) hb2
          have hb7 := hok.out 7 (by omega)
          clear hk7
          have hd : decide ((k : Int) < 7) = false := by simp; omega
          go_wp2_with (refine append_one rfl (.tmp 55) (.tmp 60) 23 3 (.int .i64 0) 8 rfl Try.underlying23 infoInt rfl w.heap.size _ (.int .i64 (4 * el l 7)) (nums .i64 ((softL l).take 7)) rfl rfl rfl ho hb2.size (by rw [nums_length, List.length_take, softL_len]; simp [maxLen]) (by rw [nums_length, List.length_take, softL_len]; simp) ?_; intro v1 w1 hown1 hg1)
          have hbel1 := hb2.grown hg1 hb2.size (fun k hk => (ho.base k hk).1)
          go_wp2
          go_ret2
          exact ⟨.inl ⟨⟨HL.out, hok.out⟩, _, rfl, by rw [softL_take8]; exact hown1⟩, hbel1⟩

theorem refSoftenF (w : World) (A : Option Addr) (c : Nat) (l : List Int) (hr : Rd w A (nums .i64 l)) :
    Calls Try.prog 14 #[.slice A l.length c] w (RefSoftPost w l) := by
  by_cases h : l.length = 8
  · rw [h]; exact refSoften_eight w A c l h hr
  · exact (refSoften_len w A _ c h).mono fun e w' ⟨he, hb⟩ => ⟨.inr ⟨fun h' => h h'.1, he⟩, hb⟩
end Go.Proofs.Ytdaenekipbimgaa
