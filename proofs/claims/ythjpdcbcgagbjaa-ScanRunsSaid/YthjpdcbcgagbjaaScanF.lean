/- The walk of the reference's Runs; no conditions but a bound on the length. -/
import Derived.Test.YthjpdcbcgagbjaaScanQ
import Derived.Test.YthjpdcbcgagbjaaScanD
set_option linter.unusedVariables false
set_option linter.unusedSimpArgs false
namespace Go.Proofs.Ythjpdcbcgagbjaa
open Go.RowKit

/-- What Runs tells of pairs. -/
def ToldP (w : World) (r : List (Int × Int)) (er : Int) (e : Ending) (w' : World) : Prop :=
  (∃ A c, e = .returned (.tuple #[.slice A r.length c, .int .i64 er]) ∧ Fresh w' w.heap.size A (pairsV r)) ∧ Below w.heap.size w w'
theorem toldP_nil {w w' : World} {er : Int} {e : Ending} (h : e = .returned (.tuple #[.slice none 0 0, .int .i64 er])) (hb : Below w.heap.size w w') : ToldP w [] er e w' :=
  ⟨⟨none, 0, h, .inl ⟨rfl, rfl⟩⟩, hb⟩

set_option maxHeartbeats 1000000 in
theorem refRuns_range (w : World) (A : Option Addr) (n c : Nat) (f : Int) (h : ¬ (f = 0 ∨ f = 1)) :
    Calls Try.prog 19 #[.slice A n c, .int .i64 f] w (ToldP w [] 3) := by
  have h0 : (f == 0) = false := beq_eq_false_iff_ne.2 (by omega)
  have h1 : (f == 1) = false := beq_eq_false_iff_ne.2 (by omega)
  have h2 : (f != 0) = true := by rw [bne_iff_ne]; omega
  have h3 : (f != 1) = true := by rw [bne_iff_ne]; omega
  clear h
  go_enter Try.func19, Try.ntmps19
  go_wp2
  go_ret2
  exact toldP_nil rfl (Below.refl _ _)

set_option maxHeartbeats 1000000 in
theorem refRuns_len (w : World) (A : Option Addr) (n c : Nat) (f : Nat) (hf : f ≤ 1) (h : n ≠ 64) :
    Calls Try.prog 19 #[.slice A n c, .int .i64 f] w (ToldP w [] 2) := by
  have h1 : ((n : Int) == 64) = false := beq_eq_false_iff_ne.2 (by omega)
  have h2 : ((n : Int) != 64) = true := by rw [bne_iff_ne]; omega
  clear h
  rcases (by omega : f = 0 ∨ f = 1) with rfl | rfl
  · go_enter Try.func19, Try.ntmps19
    go_wp2
    go_ret2
    exact toldP_nil rfl (Below.refl _ _)
  · go_enter Try.func19, Try.ntmps19
    go_wp2
    go_ret2
    exact toldP_nil rfl (Below.refl _ _)

/-- Every number is one that a level may be, or nought. -/
def okB (l : List Int) : Prop := ∀ j, j < 64 → -127 ≤ el l j ∧ el l j ≤ 127
def RunsPost (w : World) (l : List Int) (f : Nat) (e : Ending) (w' : World) : Prop :=
  (okB l ∧ ToldP w (runsGo l (orderL.drop f) 0 []) 0 e w') ∨ (¬ okB l ∧ ToldP w [] 10 e w')
theorem runsGo_step (l : List Int) (k : Nat) (hk : k < 64) (run : Int) (out : List (Int × Int)) :
    runsGo l (orderL.drop k) run out = if el l (el orderL k).toNat = 0 then runsGo l (orderL.drop (k + 1)) (run + 1) out else runsGo l (orderL.drop (k + 1)) 0 (out ++ [(run, el l (el orderL k).toNat)]) := by
  rw [List.drop_eq_getElem_cons (by rw [orderL_len]; exact hk), runsGo, ← el_lt (by rw [orderL_len]; exact hk)]
theorem runsGo_end (l : List Int) (run : Int) (out : List (Int × Int)) : runsGo l (orderL.drop 64) run out = out := by
  rw [List.drop_of_length_le (by rw [orderL_len]; omega)]
  rfl

set_option maxHeartbeats 1000000 in
theorem refRuns_first (w : World) (A : Option Addr) (c : Nat) (l : List Int) (hl : l.length = 64) (hr : Rd w A (nums .i64 l)) (h0 : el l 0 ≠ 0) :
    Calls Try.prog 19 #[.slice A 64 c, .int .i64 1] w (ToldP w [] 2) := by
  obtain ⟨b, o, rfl, hlt, hc⟩ := hr.at_ (i := 0) (by rw [nums_length]; omega)
  have hc0 : w.cell? ⟨b, o, none⟩ = some (.int .i64 (el l 0)) := hc 0 _ (nums_get (by omega))
  have h1 : (el l 0 == 0) = false := beq_eq_false_iff_ne.2 h0
  have h2 : (el l 0 != 0) = true := by rw [bne_iff_ne]; exact h0
  clear hc hr h0 hl
  go_enter Try.func19, Try.ntmps19
  go_wp2
  go_ret2
  exact toldP_nil rfl (Below.refl _ _)

set_option maxHeartbeats 4000000 in
set_option maxRecDepth 100000 in
theorem refRuns_ok (w : World) (A : Option Addr) (c : Nat) (l : List Int) (hl : l.length = 64) (hr : Rd w A (nums .i64 l)) (f : Nat) (hf : f ≤ 1) (h0 : f = 1 → el l 0 = 0) :
    Calls Try.prog 19 #[.slice A 64 c, .int .i64 f] w (RunsPost w l f) := by
  obtain ⟨b, o, rfl, hlt, hc⟩ := hr.at_ (i := 0) (by rw [nums_length]; omega)
  have HC : Hid (∀ k W, k < 64 → Below w.heap.size w W → W.cell? ⟨b, o + k, none⟩ = some (.int .i64 (el l k))) := Lib.hid (fun k W hk hb => (hb.cell (by exact hlt)).trans (hc k _ (nums_get (by rw [hl]; exact hk))))
  have hcz : w.cell? ⟨b, o, none⟩ = some (.int .i64 (el l 0)) := hc 0 _ (nums_get (by omega))
  clear hc hr hl
  rcases (by omega : f = 0 ∨ f = 1) with rfl | rfl
  · go_enter Try.func19, Try.ntmps19
    go_wp2
    clear hcz
    go_loopw [6] (fun i wr => ∃ k : Nat, k ≤ 64 ∧ i = .int .i64 k ∧ Hid (∀ j, j < k → -127 ≤ el l j ∧ el l j ≤ 127) ∧ Below w.heap.size w wr) (fun i _ => 64 - (intOf i).toNat)
    case atStart => exact ⟨0, by omega, rfl, Lib.hid (fun j hj => by omega), Below.refl _ _⟩
    case round =>
      obtain ⟨k, hk, rfl, hok, hbel⟩ := hrel
      by_cases hlt' : k < 64
      · have hd : decide ((k : Int) < 64) = true := by simp; omega
        have hcx := HC.out k wr hlt' hbel
        by_cases hlow : el l k < -127
        · have hd1 : decide (el l k < -127) = true := by rw [decide_eq_true_iff]; exact hlow
          have HNO : Hid (¬ okB l) := Lib.hid (fun h => by have := h k hlt'; omega)
          clear hlow
          go_wp2
          go_ret2
          exact .inr ⟨HNO.out, toldP_nil rfl hbel⟩
        · have hd1 : decide (el l k < -127) = false := by rw [decide_eq_false_iff_not]; exact hlow
          by_cases hhigh : 127 < el l k
          · have hd2 : decide (127 < el l k) = true := by rw [decide_eq_true_iff]; exact hhigh
            have HNO : Hid (¬ okB l) := Lib.hid (fun h => by have := h k hlt'; omega)
            clear hlow hhigh
            go_wp2
            go_ret2
            exact .inr ⟨HNO.out, toldP_nil rfl hbel⟩
          · have hd2 : decide (127 < el l k) = false := by rw [decide_eq_false_iff_not]; exact hhigh
            have HOK : Hid (∀ j, j < k + 1 → -127 ≤ el l j ∧ el l j ≤ 127) := Lib.hid (fun j hj => by
              by_cases h : j = k
              · subst h; omega
              · exact hok.out j (by omega))
            clear hlow hhigh hok
            go_wp2
            go_roundw
            case rel => exact ⟨k + 1, by omega, by go_num, HOK, hbel⟩
            case measure => simp [intOf]; omega
      · have hk64 : k = 64 := by omega
        rw [hk64] at hok
        have hd : decide ((k : Int) < 64) = false := by simp; omega
        clear hk64
        go_wp2_with fail
        refine (refOrderF _).mono ?_
        rintro e w1 ⟨rfl, hord, hb1⟩
        have hbel1 := below_then hbel hb1
        obtain ⟨g, hg⟩ : ∃ g : Nat, g = wr.heap.size := ⟨_, rfl⟩
        rw [← hg] at hord ⊢
        have hgb : w.heap.size ≤ g := by rw [hg]; exact hbel.size
        have hord := Lib.hid hord
        have hgl : g < w1.heap.size := hord.out.lt
        clear hg hb1 hbel
        go_wp2
        obtain ⟨wo, rfl⟩ : ∃ wo : World, wo = w1 := ⟨_, rfl⟩
        go_loopw [7, 8, 10] (fun v r i wr => ∃ (k : Nat) (run : Nat) (out : List (Int × Int)), k ≤ 64 ∧ i = .int .i64 k ∧ r = .int .i64 run ∧ run ≤ k ∧ out.length ≤ k ∧ Hid (runsGo l (orderL.drop k) run out = runsGo l (orderL.drop 0) 0 []) ∧ Hid (OwnP wr (g + 1) v out) ∧ Hid (Blk wr g 3 (nums .i64 orderL)) ∧ Below w.heap.size w wr) (fun _ _ i _ => 64 - (intOf i).toNat)
        case atStart => exact ⟨0, 0, [], by omega, rfl, rfl, by omega, by simp, Lib.hid rfl, Lib.hid (OwnP.nil _ _), hord, hbel1⟩
        case round =>
          clear hord hbel1
          obtain ⟨k, run, out, hk, rfl, rfl, hrk, hol, hsp, hown, hord, hbel⟩ := hrel
          by_cases hlt2 : k < 64
          · have hd : decide ((k : Int) < 64) = true := by simp; omega
            obtain ⟨P, hP⟩ : ∃ P : Nat, el orderL k = (P : Int) := ⟨(el orderL k).toNat, by have := order_bd _ hlt2; omega⟩
            have hP64 : P < 64 := by have := order_bd _ hlt2; omega
            have cO : wr.cell? ⟨g, k, none⟩ = some (.int .i64 P) := hord.out.cell (by rw [nums_get (by rw [orderL_len]; exact hlt2), hP])
            have cX := HC.out P wr hP64 hbel
            have i2 : (P : Int) < 64 := by omega
            have hst := runsGo_step l k hlt2 run out
            rw [hP, Int.toNat_natCast] at hst
            have eR : IntKind.i64.wrap ((run : Int) + 1) = (run : Int) + 1 := IntWalk.i64_in _ (by omega)
            by_cases hz : el l P = 0
            · have hd3 : (el l P == 0) = true := by rw [beq_iff_eq]; exact hz
              have HSP : Hid (runsGo l (orderL.drop (k + 1)) ((run + 1 : Nat) : Int) out = runsGo l (orderL.drop 0) 0 []) := Lib.hid (by rw [← hsp.out, hst, if_pos hz]; rfl)
              clear hst hz hP hsp
              go_wp2
              go_roundw
              case rel => exact ⟨k + 1, run + 1, out, by omega, by go_num, by go_num, by omega, by omega, HSP, hown, hord, hbel⟩
              case measure => simp [intOf]; omega
            · have hd3 : (el l P == 0) = false := beq_eq_false_iff_ne.2 hz
              have HSP : Hid (runsGo l (orderL.drop (k + 1)) ((0 : Nat) : Int) (out ++ [((run : Int), el l P)]) = runsGo l (orderL.drop 0) 0 []) := Lib.hid (by rw [← hsp.out, hst, if_neg hz]; rfl)
              have hgl2 := hord.out.lt
              clear hst hz hP hsp
              go_wp2_with (refine append_pair rfl (.tmp 66) (.tmp 70) rfl (g + 1) _ out run (el l P) rfl rfl hown.out hgl2 (by omega) ?_; intro v' w1 hown1 hg1)
              have hne : ∀ q, u7.ownBlock = some q → g + 1 ≤ q := fun q hq => (hown.out.base q hq).1
              have hg1 : wr.grownBy w1 u7.ownBlock := hg1
              have hord1 : Hid (Blk w1 g 3 (nums .i64 orderL)) := Lib.hid ((hg1.block _ hgl2 (fun h => by have := hne _ h.symm; omega)).trans hord.out)
              have hbel1 := hbel.grown hg1 hbel.size (fun q hq => by have := hne q hq; omega)
              have hown1 := Lib.hid hown1
              clear hown hord hbel hne hg1
              go_wp2
              go_roundw
              case rel => exact ⟨k + 1, 0, _, by omega, by go_num, rfl, by omega, by simp; omega, HSP, hown1, hord1, hbel1⟩
              case measure => simp [intOf]; omega
          · have hk64 : k = 64 := by omega
            have hd : decide ((k : Int) < 64) = false := by simp; omega
            have hsp : Hid (runsGo l (orderL.drop 0) 0 [] = out) := Lib.hid (by rw [← hsp.out, hk64, runsGo_end])
            clear hk64
            obtain ⟨A, cc, rfl, hfr⟩ := hown.out.fresh
            go_wp2
            go_ret2
            refine .inl ⟨hok.out, ⟨A, cc, ?_, ?_⟩, hbel⟩
            · rw [hsp.out]; rfl
            · rw [hsp.out]; exact hfr.lower (by omega)
  · have h1 : (el l 0 == 0) = true := by rw [beq_iff_eq]; exact h0 rfl
    have h2 : (el l 0 != 0) = false := by rw [bne_eq_false_iff_eq]; exact h0 rfl
    go_enter Try.func19, Try.ntmps19
    go_wp2
    clear hcz
    go_loopw [6] (fun i wr => ∃ k : Nat, k ≤ 64 ∧ i = .int .i64 k ∧ Hid (∀ j, j < k → -127 ≤ el l j ∧ el l j ≤ 127) ∧ Below w.heap.size w wr) (fun i _ => 64 - (intOf i).toNat)
    case atStart => exact ⟨0, by omega, rfl, Lib.hid (fun j hj => by omega), Below.refl _ _⟩
    case round =>
      obtain ⟨k, hk, rfl, hok, hbel⟩ := hrel
      by_cases hlt' : k < 64
      · have hd : decide ((k : Int) < 64) = true := by simp; omega
        have hcx := HC.out k wr hlt' hbel
        by_cases hlow : el l k < -127
        · have hd1 : decide (el l k < -127) = true := by rw [decide_eq_true_iff]; exact hlow
          have HNO : Hid (¬ okB l) := Lib.hid (fun h => by have := h k hlt'; omega)
          clear hlow
          go_wp2
          go_ret2
          exact .inr ⟨HNO.out, toldP_nil rfl hbel⟩
        · have hd1 : decide (el l k < -127) = false := by rw [decide_eq_false_iff_not]; exact hlow
          by_cases hhigh : 127 < el l k
          · have hd2 : decide (127 < el l k) = true := by rw [decide_eq_true_iff]; exact hhigh
            have HNO : Hid (¬ okB l) := Lib.hid (fun h => by have := h k hlt'; omega)
            clear hlow hhigh
            go_wp2
            go_ret2
            exact .inr ⟨HNO.out, toldP_nil rfl hbel⟩
          · have hd2 : decide (127 < el l k) = false := by rw [decide_eq_false_iff_not]; exact hhigh
            have HOK : Hid (∀ j, j < k + 1 → -127 ≤ el l j ∧ el l j ≤ 127) := Lib.hid (fun j hj => by
              by_cases h : j = k
              · subst h; omega
              · exact hok.out j (by omega))
            clear hlow hhigh hok
            go_wp2
            go_roundw
            case rel => exact ⟨k + 1, by omega, by go_num, HOK, hbel⟩
            case measure => simp [intOf]; omega
      · have hk64 : k = 64 := by omega
        rw [hk64] at hok
        have hd : decide ((k : Int) < 64) = false := by simp; omega
        clear hk64
        go_wp2_with fail
        refine (refOrderF _).mono ?_
        rintro e w1 ⟨rfl, hord, hb1⟩
        have hbel1 := below_then hbel hb1
        obtain ⟨g, hg⟩ : ∃ g : Nat, g = wr.heap.size := ⟨_, rfl⟩
        rw [← hg] at hord ⊢
        have hgb : w.heap.size ≤ g := by rw [hg]; exact hbel.size
        have hord := Lib.hid hord
        have hgl : g < w1.heap.size := hord.out.lt
        clear hg hb1 hbel
        go_wp2
        obtain ⟨wo, rfl⟩ : ∃ wo : World, wo = w1 := ⟨_, rfl⟩
        go_loopw [7, 8, 10] (fun v r i wr => ∃ (k : Nat) (run : Nat) (out : List (Int × Int)), k ≤ 64 ∧ i = .int .i64 k ∧ r = .int .i64 run ∧ run ≤ k ∧ out.length ≤ k ∧ Hid (runsGo l (orderL.drop k) run out = runsGo l (orderL.drop 1) 0 []) ∧ Hid (OwnP wr (g + 1) v out) ∧ Hid (Blk wr g 3 (nums .i64 orderL)) ∧ Below w.heap.size w wr) (fun _ _ i _ => 64 - (intOf i).toNat)
        case atStart => exact ⟨1, 0, [], by omega, rfl, rfl, by omega, by simp, Lib.hid rfl, Lib.hid (OwnP.nil _ _), hord, hbel1⟩
        case round =>
          clear hord hbel1
          obtain ⟨k, run, out, hk, rfl, rfl, hrk, hol, hsp, hown, hord, hbel⟩ := hrel
          by_cases hlt2 : k < 64
          · have hd : decide ((k : Int) < 64) = true := by simp; omega
            obtain ⟨P, hP⟩ : ∃ P : Nat, el orderL k = (P : Int) := ⟨(el orderL k).toNat, by have := order_bd _ hlt2; omega⟩
            have hP64 : P < 64 := by have := order_bd _ hlt2; omega
            have cO : wr.cell? ⟨g, k, none⟩ = some (.int .i64 P) := hord.out.cell (by rw [nums_get (by rw [orderL_len]; exact hlt2), hP])
            have cX := HC.out P wr hP64 hbel
            have i2 : (P : Int) < 64 := by omega
            have hst := runsGo_step l k hlt2 run out
            rw [hP, Int.toNat_natCast] at hst
            have eR : IntKind.i64.wrap ((run : Int) + 1) = (run : Int) + 1 := IntWalk.i64_in _ (by omega)
            by_cases hz : el l P = 0
            · have hd3 : (el l P == 0) = true := by rw [beq_iff_eq]; exact hz
              have HSP : Hid (runsGo l (orderL.drop (k + 1)) ((run + 1 : Nat) : Int) out = runsGo l (orderL.drop 1) 0 []) := Lib.hid (by rw [← hsp.out, hst, if_pos hz]; rfl)
              clear hst hz hP hsp
              go_wp2
              go_roundw
              case rel => exact ⟨k + 1, run + 1, out, by omega, by go_num, by go_num, by omega, by omega, HSP, hown, hord, hbel⟩
              case measure => simp [intOf]; omega
            · have hd3 : (el l P == 0) = false := beq_eq_false_iff_ne.2 hz
              have HSP : Hid (runsGo l (orderL.drop (k + 1)) ((0 : Nat) : Int) (out ++ [((run : Int), el l P)]) = runsGo l (orderL.drop 1) 0 []) := Lib.hid (by rw [← hsp.out, hst, if_neg hz]; rfl)
              have hgl2 := hord.out.lt
              clear hst hz hP hsp
              go_wp2_with (refine append_pair rfl (.tmp 66) (.tmp 70) rfl (g + 1) _ out run (el l P) rfl rfl hown.out hgl2 (by omega) ?_; intro v' w1 hown1 hg1)
              have hne : ∀ q, u7.ownBlock = some q → g + 1 ≤ q := fun q hq => (hown.out.base q hq).1
              have hg1 : wr.grownBy w1 u7.ownBlock := hg1
              have hord1 : Hid (Blk w1 g 3 (nums .i64 orderL)) := Lib.hid ((hg1.block _ hgl2 (fun h => by have := hne _ h.symm; omega)).trans hord.out)
              have hbel1 := hbel.grown hg1 hbel.size (fun q hq => by have := hne q hq; omega)
              have hown1 := Lib.hid hown1
              clear hown hord hbel hne hg1
              go_wp2
              go_roundw
              case rel => exact ⟨k + 1, 0, _, by omega, by go_num, rfl, by omega, by simp; omega, HSP, hown1, hord1, hbel1⟩
              case measure => simp [intOf]; omega
          · have hk64 : k = 64 := by omega
            have hd : decide ((k : Int) < 64) = false := by simp; omega
            have hsp : Hid (runsGo l (orderL.drop 1) 0 [] = out) := Lib.hid (by rw [← hsp.out, hk64, runsGo_end])
            clear hk64
            obtain ⟨A, cc, rfl, hfr⟩ := hown.out.fresh
            go_wp2
            go_ret2
            refine .inl ⟨hok.out, ⟨A, cc, ?_, ?_⟩, hbel⟩
            · rw [hsp.out]; rfl
            · rw [hsp.out]; exact hfr.lower (by omega)
end Go.Proofs.Ythjpdcbcgagbjaa
