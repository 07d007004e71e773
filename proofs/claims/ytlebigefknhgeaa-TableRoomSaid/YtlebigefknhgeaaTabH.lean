/- The walk of TableRoom: a table that is full takes as many as end, and no more; for every input. -/
import Derived.Test.YtlebigefknhgeaaTabP
import Derived.Test.YtlebigefknhgeaaTabF
import Derived.Test.YtlebigefknhgeaaKfPick
set_option linter.unusedVariables false
set_option linter.unusedSimpArgs false
namespace Go.Proofs.Ytlebigefknhgeaa
open Go.RowKit Go.Maps

set_option maxHeartbeats 16000000 in
set_option maxRecDepth 100000 in
theorem tableRoom_walk (a0 : Int) (a1 : Option Addr) (len1 cap1 : Nat) (z1 : List Int) (w : World) (w0 : (Lit.int .i64 a0).wf = true) (w1 : IsRow .i64 w a1 len1 cap1 z1) :
    Calls Try.prog 4 #[.int .i64 a0, .slice a1 len1 cap1] w fun e w' => e = .returned (.bool true) ∧ Below w.heap.size w w' := by
  obtain ⟨h1, h2, h3, h4, h5⟩ := w1.rd
  obtain ⟨M0, hM0⟩ : ∃ M0 : Nat, (M0 : Int) = pick a0 20 := ⟨(pick a0 20).toNat, by have := pick_bd a0 20 (by omega); omega⟩
  have hMb : M0 < 20 := by have := pick_bd a0 20 (by omega); omega
  have eM : IntKind.i64.wrap (1 + (M0 : Int)) = ((1 + M0 : Nat) : Int) := by rw [IntWalk.i64_in _ (by omega)]; omega
  have HM0 := Lib.hid hM0
  obtain ⟨l, hl⟩ : ∃ l, l = z1.take len1 := ⟨_, rfl⟩
  rw [← hl] at h1 h4
  have HN := Lib.hid h1
  have HR : Hid (∀ W, Below w.heap.size w W → Rd W a1 (nums .i64 l)) := Lib.hid fun W hW => h4.below hW
  have hm1 : len1 ≤ 9223372036854775807 := by unfold maxLen at h3; omega
  clear h1 h2 h3 h4 h5 hM0 w0 w1 hl
  go_enter Try.func4, Try.ntmps4
  go_wp2_with fail
  refine (awakeF _).mono ?_
  rintro e w1 ⟨rfl, hb1⟩
  go_wp2_with fail
  refine (pickF _ a0 20 (by omega) (by omega)).mono ?_
  rintro e w2 ⟨rfl, rfl⟩
  rw [← HM0.out]
  go_wp2_with fail
  obtain ⟨M, hM⟩ : ∃ M : Nat, 1 + (M0 : Int) = (M : Int) := ⟨1 + M0, by omega⟩
  rw [hM]
  have hMb1 : 1 ≤ M := by omega
  have hMb2 : M ≤ 20 := by omega
  clear hM eM hMb HM0
  refine (new_ok _ M (by omega) (by omega)).mono ?_
  rintro e w2 ⟨⟨b, m, rfl, hb, hm, hq⟩, hb2⟩
  have hsz := hb1.size
  have HW2 := Lib.hid (below_then hb1 hb2)
  have HQ2 := Lib.hid hq
  have hwb : w.heap.size ≤ b := by omega
  have hwm : w.heap.size ≤ m := by omega
  clear hb hm hq hb1 hb2 hsz
  by_cases hlong : 60 < len1
  · have hd : decide ((60 : Int) < len1) = true := by simp; omega
    go_wp2
    go_ret
    exact ⟨rfl, HW2.out⟩
  have hd : decide ((60 : Int) < len1) = false := by simp; omega
  have hn60 : len1 ≤ 60 := by omega
  clear hlong
  go_wp2
  go_loopw [8] (fun i wr => ∃ k : Nat, k ≤ M ∧ i = .int .i64 ((k : Int) + 1) ∧ Hid (Tab wr b m ⟨M, List.replicate k 0⟩) ∧ Hid (Below w.heap.size w wr)) (fun i _ => M + 1 - (intOf i).toNat)
  case atStart => exact ⟨0, by omega, rfl, HQ2, HW2⟩
  case round =>
    clear HQ2 HW2 hd
    obtain ⟨k, hk, rfl, HQ, HW⟩ := hrel
    by_cases hlt : k < M
    · have hd : decide ((k : Int) + 1 ≤ M) = true := by simp; omega
      go_wp2_with fail
      refine (opensF _ b m ⟨M, List.replicate k 0⟩ HQ.out (by show lives (List.replicate k 0) ≤ M; rw [lives_noughts]; omega) (by show (List.replicate k (0 : Int)).length < 1000; rw [List.length_replicate]; omega) ((k : Int) + 1) 0 (by
        rw [openT_ok (by show lives (List.replicate k 0) < M; rw [lives_noughts]; exact hlt)]
        show (((List.replicate k (0 : Int)).length : Int) + 1, (0 : Int)) = _
        rw [List.length_replicate])).mono ?_
      rintro e w3 ⟨rfl, hq3, hm3⟩
      rw [openT_ok (by show lives (List.replicate k 0) < M; rw [lives_noughts]; exact hlt)] at hq3
      have HQ3 : Hid (Tab w3 b m ⟨M, List.replicate (k + 1) 0⟩) := Lib.hid (by rw [List.replicate_succ']; exact hq3)
      have HW3 := Lib.hid (below_mod HW.out hm3 (fun i hi => by omega))
      clear hq3 hm3 HQ HW
      go_wp2
      go_roundw
      case rel => exact ⟨k + 1, by omega, by go_num, HQ3, HW3⟩
      case measure => simp [intOf]; omega
    · have hd : decide ((k : Int) + 1 ≤ M) = false := by simp; omega
      have HS : Hid (∃ cs, Tab wr b m ⟨M, cs⟩ ∧ cs.length = M ∧ lives cs + 0 = M) := Lib.hid ⟨List.replicate M 0, by
        have : k = M := by omega
        rw [this] at HQ
        exact HQ.out, List.length_replicate, by rw [lives_noughts]; rfl⟩
      clear HQ
      go_wp2
      obtain ⟨wo, rfl⟩ : ∃ wo : World, wo = wr := ⟨_, rfl⟩
      go_loopw [9, 10] (fun g i wr => ∃ (q gn : Nat) (cs : List Int), q ≤ len1 ∧ i = .int .i64 q ∧ g = .int .i64 gn ∧ gn ≤ q ∧ cs.length = M ∧ lives cs + gn = M ∧ Hid (Tab wr b m ⟨M, cs⟩) ∧ Hid (Below w.heap.size w wr)) (fun _ i _ => len1 - (intOf i).toNat)
      case atStart =>
        obtain ⟨cs, g1, g2, g3⟩ := HS.out
        exact ⟨0, 0, cs, by omega, rfl, rfl, by omega, g2, g3, Lib.hid g1, HW⟩
      case round =>
        clear HS HW hd
        obtain ⟨q, gn, cs, hq, rfl, rfl, hgn, hcl, hlv, HQ, HW⟩ := hrel
        by_cases hlq : q < len1
        · have hdq : decide ((q : Int) < len1) = true := by simp; omega
          obtain ⟨ab, ao, rfl, _, hc⟩ := (HR.out wr HW.out).at_ (i := q) (by rw [nums_length, HN.out]; exact hlq)
          have c0 : wr.cell? ⟨ab, ao + q, none⟩ = some (.int .i64 (el l q)) := hc q _ (nums_get (by rw [HN.out]; exact hlq))
          have hpk := pick_bd (el l q) M (by omega)
          obtain ⟨P, hP⟩ : ∃ P, P = pick (el l q) M := ⟨_, rfl⟩
          rw [← hP] at hpk
          have HP := Lib.hid hP
          have eP : IntKind.i64.wrap (1 + P) = 1 + P := IntWalk.i64_in _ (by omega)
          clear hc hP
          go_wp2_with fail
          refine (pickF _ (el l q) M (by omega) (by omega)).mono ?_
          rintro e w4 ⟨rfl, rfl⟩
          rw [← HP.out]
          go_wp2_with fail
          refine (endF _ b m ⟨M, cs⟩ HQ.out (1 + P) 21 (WalkArith.wf_i64 (by omega)) (by decide)).mono ?_
          rintro e w5 ⟨rfl, hq5, hm5⟩
          have HW5 := Lib.hid (below_mod HW.out hm5 (fun i hi => by omega))
          rcases endT_cases ⟨M, cs⟩ (1 + P) 21 with ⟨h0, _⟩ | ⟨_, h1, _⟩ | ⟨_, h1, h2, he⟩ | ⟨_, h1, h2, he⟩
          · exact absurd h0 (by decide)
          · exact absurd (show 1 ≤ 1 + P ∧ 1 + P ≤ (cs.length : Int) from ⟨by omega, by omega⟩) h1
          · rw [he] at hq5 ⊢
            have HQ5 := Lib.hid hq5
            clear hq5 hm5 HQ HW he h1 h2 HP
            go_wp2
            go_roundw
            case rel => exact ⟨q + 1, gn, cs, by omega, by go_num, rfl, by omega, hcl, hlv, HQ5, HW5⟩
            case measure => simp [intOf]; omega
          · rw [he] at hq5 ⊢
            have hz : el cs (1 + P - 1).toNat = 0 := by
              have h2 : causeAt cs (1 + P) = 0 := h2
              rwa [causeAt_in h1] at h2
            have HQ5 : Hid (Tab w5 b m ⟨M, cs.set (1 + P - 1).toNat 21⟩) := Lib.hid hq5
            have hls := lives_set cs (1 + P - 1).toNat 21 (by omega) hz (by decide)
            have hcl2 : (cs.set (1 + P - 1).toNat 21).length = M := by rw [List.length_set]; exact hcl
            obtain ⟨ds, hds⟩ : ∃ ds, ds = cs.set (1 + P - 1).toNat 21 := ⟨_, rfl⟩
            rw [← hds] at HQ5 hls hcl2
            have hlv2 : lives ds + (gn + 1) = M := by omega
            clear hq5 hm5 HQ HW he h1 h2 HP hz hds hls
            go_wp2
            go_roundw
            case rel => exact ⟨q + 1, gn + 1, ds, by omega, by go_num, by go_num, by omega, hcl2, hlv2, HQ5, HW5⟩
            case measure => simp [intOf]; omega
        · have hdq : decide ((q : Int) < len1) = false := by simp; omega
          have HS : Hid (∃ cs, Tab wr b m ⟨M, cs⟩ ∧ cs.length = M + 0 ∧ lives cs + gn = M + 0) := Lib.hid ⟨cs, HQ.out, hcl, hlv⟩
          clear HQ hcl hlv
          go_wp2
          obtain ⟨wo, rfl⟩ : ∃ wo : World, wo = wr := ⟨_, rfl⟩
          go_loopw [11] (fun i wr => ∃ (j : Nat) (cs : List Int), j ≤ gn ∧ i = .int .i64 ((j : Int) + 1) ∧ cs.length = M + j ∧ lives cs + gn = M + j ∧ Hid (Tab wr b m ⟨M, cs⟩) ∧ Hid (Below w.heap.size w wr)) (fun i _ => gn + 1 - (intOf i).toNat)
          case atStart =>
            obtain ⟨cs, g1, g2, g3⟩ := HS.out
            exact ⟨0, cs, by omega, rfl, g2, g3, Lib.hid g1, HW⟩
          case round =>
            clear HS HW hdq
            obtain ⟨j, cs, hj, rfl, hcl, hlv, HQ, HW⟩ := hrel
            by_cases hlj : j < gn
            · have hdj : decide ((j : Int) + 1 ≤ gn) = true := by simp; omega
              have e1 : IntKind.i64.wrap ((M : Int) + ((j : Int) + 1)) = (M : Int) + ((j : Int) + 1) := IntWalk.i64_in _ (by omega)
              have ho := openT_ok (s := ⟨M, cs⟩) (by show lives cs < M; omega)
              have HO := Lib.hid ho
              clear ho
              go_wp2_with fail
              refine (opensF _ b m ⟨M, cs⟩ HQ.out (by show lives cs ≤ M; omega) (by show cs.length < 1000; omega) ((M : Int) + ((j : Int) + 1)) 0 (by
                rw [HO.out]
                show ((cs.length : Int) + 1, (0 : Int)) = _
                rw [hcl, show (((M + j : Nat) : Int) + 1) = (M : Int) + ((j : Int) + 1) by omega])).mono ?_
              rintro e w5 ⟨rfl, hq5, hm5⟩
              rw [HO.out] at hq5
              have HQ5 : Hid (Tab w5 b m ⟨M, cs ++ [0]⟩) := Lib.hid hq5
              have HW5 := Lib.hid (below_mod HW.out hm5 (fun i hi => by omega))
              have hlp := lives_push cs
              have hcl2 : (cs ++ [0]).length = M + (j + 1) := by rw [List.length_append, hcl]; rfl
              obtain ⟨ds, hds⟩ : ∃ ds, ds = cs ++ [0] := ⟨_, rfl⟩
              rw [← hds] at HQ5 hlp hcl2
              have hlv2 : lives ds + gn = M + (j + 1) := by omega
              clear hq5 hm5 HQ HW HO hds hlp
              go_wp2
              go_roundw
              case rel => exact ⟨j + 1, ds, by omega, by go_num, hcl2, hlv2, HQ5, HW5⟩
              case measure => simp [intOf]; omega
            · have hdj : decide ((j : Int) + 1 ≤ gn) = false := by simp; omega
              have hlM : lives cs = M := by omega
              have hlL : cs.length = M + gn := by omega
              have HF := Lib.hid (openT_full (s := ⟨M, cs⟩) hlM)
              have HLM := Lib.hid hlM
              have HLL := Lib.hid hlL
              have hbnd : lives cs ≤ M := by omega
              clear hcl hlv hlM hlL
              go_wp2_with fail
              refine (opensF _ b m ⟨M, cs⟩ HQ.out hbnd (by show cs.length < 1000; rw [HLL.out]; omega) 0 15 (by rw [HF.out])).mono ?_
              rintro e w5 ⟨rfl, hq5, hm5⟩
              rw [HF.out] at hq5
              have HQ5 := Lib.hid hq5
              have HW5 := Lib.hid (below_mod HW.out hm5 (fun i hi => by omega))
              clear hq5 hm5 HQ HW hbnd
              go_wp2_with fail
              refine (liveF _ b m ⟨M, cs⟩ HQ5.out).mono ?_
              rintro e w6 ⟨v, rfl, hv, hb6⟩
              obtain ⟨A6, c6, rfl, _, _, _⟩ := own_nums hv
              have hll : (liveL (Ts.causes ⟨M, cs⟩)).length = M := HLM.out
              rw [hll]
              have HQ6 := Lib.hid (HQ5.out.below hb6)
              have HW6 := Lib.hid (below_then HW5.out hb6)
              have HLL2 := Lib.hid hll
              clear hv hb6 HQ5 HW5 hll
              go_wp2_with fail
              refine (roomF _ b m ⟨M, cs⟩ HQ6.out).mono ?_
              rintro e w7 ⟨rfl, hb7⟩
              rw [HLL2.out, show ((Ts.most ⟨M, cs⟩ : Nat) : Int) - (M : Int) = 0 from Int.sub_self _]
              have HQ7 := Lib.hid (HQ6.out.below hb7)
              have HW7 := Lib.hid (below_then HW6.out hb7)
              clear hb7 HQ6 HW6
              go_wp2_with fail
              refine (lastF _ b m ⟨M, cs⟩ HQ7.out).mono ?_
              rintro e w8 ⟨rfl, rfl⟩
              rw [show ((Ts.causes ⟨M, cs⟩).length : Int) = (M : Int) + gn by show ((cs.length : Nat) : Int) = _; rw [HLL.out]; omega]
              go_wp2
              go_ret
              exact ⟨rfl, HW7.out⟩
end Go.Proofs.Ytlebigefknhgeaa
