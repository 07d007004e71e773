/- The walk of TableScript: what a table answers to any calls, who is live, and why others ended; for every input. Printed by genL.py. -/
import Derived.Test.YtlebigefknhgeaaTabK
set_option linter.unusedVariables false
set_option linter.unusedSimpArgs false
namespace Go.Proofs.Ytlebigefknhgeaa
open Go.RowKit Go.Maps

theorem openT_state (M : Nat) (cs : List Int) (h : lives cs ≤ M) : ∃ cs', (openT ⟨M, cs⟩).1 = ⟨M, cs'⟩ ∧ cs'.length ≤ cs.length + 1 ∧ lives cs' ≤ M := by
  by_cases hf : lives cs = M
  · exact ⟨cs, by rw [openT_full (s := ⟨M, cs⟩) hf], by omega, h⟩
  · exact ⟨cs ++ [0], by rw [openT_ok (s := ⟨M, cs⟩) (by show lives cs < M; omega)], by rw [List.length_append]; simp, by rw [lives_push]; omega⟩
theorem endT_state (M : Nat) (cs : List Int) (id c : Int) (h : lives cs ≤ M) : ∃ cs', (endT ⟨M, cs⟩ id c).1 = ⟨M, cs'⟩ ∧ cs'.length ≤ cs.length + 1 ∧ lives cs' ≤ M := by
  rcases endT_cases ⟨M, cs⟩ id c with ⟨h0, he⟩ | ⟨h0, h1, he⟩ | ⟨h0, h1, h2, he⟩ | ⟨h0, h1, h2, he⟩
  · exact ⟨cs, by rw [he], by omega, h⟩
  · exact ⟨cs, by rw [he], by omega, h⟩
  · exact ⟨cs, by rw [he], by omega, h⟩
  · have h1 : 1 ≤ id ∧ id ≤ (cs.length : Int) := h1
    have h2 : causeAt cs id = 0 := h2
    rw [causeAt_in h1] at h2
    have := lives_set cs (id - 1).toNat c (by omega) h2 h0
    exact ⟨cs.set (id - 1).toNat c, by rw [he], by rw [List.length_set]; omega, by omega⟩

set_option maxHeartbeats 1000000 in
theorem script_none (w : World) (x : Int) (hx : x < 1 ∨ 64 < x) (A : Option Addr) (n c : Nat) :
    Calls Try.prog 5 #[.int .i64 x, .slice A n c] w fun e w' => e = .returned (.bool true) ∧ Below w.heap.size w w' := by
  have H1 := Lib.hid (new_no w x hx)
  have H2 := Lib.hid (refNew_no w x hx)
  clear hx
  go_enter Try.func5, Try.ntmps5
  go_wp2_with fail
  refine H1.out.mono ?_
  rintro e w1 ⟨rfl, rfl⟩
  go_wp2_with fail
  refine H2.out.mono ?_
  rintro e w2 ⟨rfl, rfl⟩
  go_wp2_with fail
  refine (awakeF _).mono ?_
  rintro e w3 ⟨rfl, hb⟩
  go_wp2
  go_ret
  exact ⟨rfl, hb⟩

set_option maxHeartbeats 16000000 in
set_option maxRecDepth 100000 in
theorem script_some (w : World) (M : Nat) (hM1 : 1 ≤ M) (hM2 : M ≤ 64) (a1 : Option Addr) (len1 cap1 : Nat) (z1 : List TAct) (w1 : IsActs w a1 len1 cap1 z1) :
    Calls Try.prog 5 #[.int .i64 M, .slice a1 len1 cap1] w fun e w' => e = .returned (.bool true) ∧ Below w.heap.size w w' := by
  obtain ⟨h1, h2, h3, h4, h5⟩ := w1
  have HN := Lib.hid h1
  have HA1 := Lib.hid h4
  have HA : Hid (∀ i, i < len1 → ActOk (actAt z1 i)) := Lib.hid fun i hi => h5 _ (actAt_mem (by omega))
  have hm1 : len1 ≤ 9223372036854775807 := by unfold maxLen at h3; omega
  clear h1 h2 h3 h4 h5
  go_enter Try.func5, Try.ntmps5
  go_wp2_with fail
  refine (new_ok _ M hM1 hM2).mono ?_
  rintro e w1 ⟨⟨b, m, rfl, hwb, hwm, hq⟩, hb1⟩
  go_wp2_with fail
  refine (refNew_ok _ M hM1 hM2).mono ?_
  rintro e w2 ⟨⟨r, rfl, hwr, hr⟩, hb2⟩
  have hsz := hb1.size
  have hbr : b < r := by have := hq.lt.1; omega
  have hmr : m < r := by have := hq.lt.2; omega
  have HQ2 := Lib.hid (hq.below hb2)
  have HR2 := Lib.hid hr
  have HW2 := Lib.hid (below_then hb1 hb2)
  have hwr2 : w.heap.size ≤ r := by omega
  clear hq hr hb1 hb2 hwr hsz
  by_cases hlong : 150 < len1
  · have hd : decide ((150 : Int) < len1) = true := by simp; omega
    go_wp2_with fail
    refine (awakeF _).mono ?_
    rintro e w3 ⟨rfl, hb⟩
    go_wp2
    go_ret
    exact ⟨rfl, below_then HW2.out hb⟩
  have hd : decide ((150 : Int) < len1) = false := by simp; omega
  have hn150 : len1 ≤ 150 := by omega
  clear hlong
  have HS0 : Hid (∃ cs, cs.length = 0 ∧ lives cs ≤ M ∧ Tab w2 b m ⟨M, cs⟩ ∧ RTab w2 r ⟨M, cs⟩) := Lib.hid ⟨[], rfl, by show 0 ≤ M; omega, HQ2.out, HR2.out⟩
  clear HQ2 HR2
  go_wp2
  go_loopw [9] (fun i wr => ∃ (k : Nat) (cs : List Int), k ≤ len1 ∧ i = .int .i64 k ∧ cs.length ≤ k ∧ Hid (lives cs ≤ M) ∧ Hid (Tab wr b m ⟨M, cs⟩) ∧ Hid (RTab wr r ⟨M, cs⟩) ∧ Hid (Below w.heap.size w wr)) (fun i _ => len1 - (intOf i).toNat)
  case atStart =>
    obtain ⟨cs, g1, g2, g3, g4⟩ := HS0.out
    exact ⟨0, cs, by omega, rfl, by omega, Lib.hid g2, Lib.hid g3, Lib.hid g4, HW2⟩
  case round =>
    clear HS0 HW2 hd
    obtain ⟨k, cs, hk, rfl, hal, HLV, HQ, HR, HW⟩ := hrel
    by_cases hlt : k < len1
    · have hdk : decide ((k : Int) < len1) = true := by simp; omega
      obtain ⟨ab, ao, rfl, hc⟩ := act_cells_all HA1.out (i := k) (by rw [HN.out]; exact hlt)
      obtain ⟨p, hp⟩ : ∃ p, p = actAt z1 k := ⟨_, rfl⟩
      have hpo : ActOk p := by rw [hp]; exact HA.out k hlt
      rw [← hp] at hc
      obtain ⟨kd, pid, pc⟩ := p
      simp only at hc
      have hkd := hpo.kind
      simp only at hkd
      have HP := Lib.hid hpo
      have HC := Lib.hid hc
      obtain ⟨c0, c1, c2⟩ := hc wr HW.out
      clear hp hpo hc
      by_cases hop : kd = 0 ∨ kd = 1
      · have HO1 := Lib.hid (openF wr b m ⟨M, cs⟩ HQ.out HLV.out (by show cs.length < 1000; omega))
        obtain ⟨ov, hov⟩ : ∃ ov, ov = (openT ⟨M, cs⟩).2.1 := ⟨_, rfl⟩
        obtain ⟨oe, hoe⟩ : ∃ oe, oe = (openT ⟨M, cs⟩).2.2 := ⟨_, rfl⟩
        rw [← hov, ← hoe] at HO1
        have HO2 : Hid (∀ W, RTab W r ⟨M, cs⟩ → Calls Try.prog 19 #[.pointer (some ⟨r, 0, none⟩)] W fun e w' => e = .returned (.tuple #[.int .i64 ov, .int .i64 oe]) ∧ RTab w' r (openT ⟨M, cs⟩).1 ∧ Mod (fun i => r ≤ i) W w') := Lib.hid fun W hW => by
          rw [hov, hoe]
          exact refOpenF W r ⟨M, cs⟩ hW HLV.out (by show cs.length < 1000; omega)
        clear hov hoe
        rcases hop with hk0 | hk1
        · have e0 : (kd == 0) = true := by rw [beq_iff_eq]; exact hk0
          clear hk0
          go_wp2_with fail
          refine HO1.out.mono ?_
          rintro e w5 ⟨rfl, hq5, hm5⟩
          have HR5 := Lib.hid (HR.out.mod hm5 (fun i hi e => by omega))
          have HW5 := Lib.hid (below_mod HW.out hm5 (fun i hi => by omega))
          clear hm5 HR HW HO1 HQ c0 c1 c2
          go_wp2_with fail
          refine (HO2.out _ HR5.out).mono ?_
          rintro e w6 ⟨rfl, hq6, hm6⟩
          clear HR5 HO2
          obtain ⟨cs', hcs1, hcs2, hcs3⟩ := openT_state M cs HLV.out
          rw [hcs1] at hq5 hq6
          have HQ : Hid (Tab w6 b m ⟨M, cs'⟩) := Lib.hid (hq5.mod hm6 (by omega) (by omega))
          have HR : Hid (RTab w6 r ⟨M, cs'⟩) := Lib.hid hq6
          have HW := Lib.hid (below_mod HW5.out hm6 (fun i hi => by have hi : r ≤ i := hi; omega))
          have hcl : cs'.length ≤ k + 1 := by omega
          have HL := Lib.hid hcs3
          clear hcs1 hcs2 hcs3 hq5 hq6 hm6 HW5
          obtain ⟨f0, f1, f2⟩ := HC.out _ HW.out
          go_wp2_with fail
          refine (alikeF _ b m r ⟨M, cs'⟩ HQ.out HR.out pid HP.out.id).mono ?_
          rintro e wA ⟨rfl, hbA⟩
          have HQ := Lib.hid (HQ.out.below hbA)
          have HR := Lib.hid (HR.out.below hbA)
          have HW := Lib.hid (below_then HW.out hbA)
          clear hbA f0 f1 f2
          go_wp2
          go_roundw
          case rel => exact ⟨k + 1, cs', by omega, by go_num, hcl, HL, HQ, HR, HW⟩
          case measure => simp [intOf]; omega
        · have e0 : (kd == 0) = false := beq_eq_false_iff_ne.2 (by omega)
          have e1 : (kd == 1) = true := by rw [beq_iff_eq]; exact hk1
          clear hk1
          go_wp2_with fail
          refine HO1.out.mono ?_
          rintro e w5 ⟨rfl, hq5, hm5⟩
          have HR5 := Lib.hid (HR.out.mod hm5 (fun i hi e => by omega))
          have HW5 := Lib.hid (below_mod HW.out hm5 (fun i hi => by omega))
          clear hm5 HR HW HO1 HQ c0 c1 c2
          go_wp2_with fail
          refine (HO2.out _ HR5.out).mono ?_
          rintro e w6 ⟨rfl, hq6, hm6⟩
          clear HR5 HO2
          obtain ⟨cs', hcs1, hcs2, hcs3⟩ := openT_state M cs HLV.out
          rw [hcs1] at hq5 hq6
          have HQ : Hid (Tab w6 b m ⟨M, cs'⟩) := Lib.hid (hq5.mod hm6 (by omega) (by omega))
          have HR : Hid (RTab w6 r ⟨M, cs'⟩) := Lib.hid hq6
          have HW := Lib.hid (below_mod HW5.out hm6 (fun i hi => by have hi : r ≤ i := hi; omega))
          have hcl : cs'.length ≤ k + 1 := by omega
          have HL := Lib.hid hcs3
          clear hcs1 hcs2 hcs3 hq5 hq6 hm6 HW5
          obtain ⟨f0, f1, f2⟩ := HC.out _ HW.out
          go_wp2_with fail
          refine (alikeF _ b m r ⟨M, cs'⟩ HQ.out HR.out pid HP.out.id).mono ?_
          rintro e wA ⟨rfl, hbA⟩
          have HQ := Lib.hid (HQ.out.below hbA)
          have HR := Lib.hid (HR.out.below hbA)
          have HW := Lib.hid (below_then HW.out hbA)
          clear hbA f0 f1 f2
          go_wp2
          go_roundw
          case rel => exact ⟨k + 1, cs', by omega, by go_num, hcl, HL, HQ, HR, HW⟩
          case measure => simp [intOf]; omega
      · have e0 : (kd == 0) = false := beq_eq_false_iff_ne.2 (by omega)
        have e1 : (kd == 1) = false := beq_eq_false_iff_ne.2 (by omega)
        by_cases hen : kd = 2 ∨ kd = 3
        · have HE1 := Lib.hid (endF wr.drew b m ⟨M, cs⟩ (HQ.out.drewN 1) pid pc HP.out.id HP.out.cause)
          obtain ⟨oe, hoe⟩ : ∃ oe, oe = (endT ⟨M, cs⟩ pid pc).2 := ⟨_, rfl⟩
          rw [← hoe] at HE1
          have HE2 : Hid (∀ W, RTab W r ⟨M, cs⟩ → Calls Try.prog 20 #[.pointer (some ⟨r, 0, none⟩), .int .i64 pid, .int .i64 pc] W fun e w' => e = .returned (.int .i64 oe) ∧ RTab w' r (endT ⟨M, cs⟩ pid pc).1 ∧ Mod (fun i => r ≤ i) W w') := Lib.hid fun W hW => by
            rw [hoe]
            exact refEndF W r ⟨M, cs⟩ hW pid pc (i64_of_wf HP.out.id)
          clear hoe hop
          rcases hen with hk2 | hk3
          · have e2 : (kd == 2) = true := by rw [beq_iff_eq]; exact hk2
            clear hk2
            go_wp2
            go_region_held3 (fun W => W.cell? ⟨ab, ao + k * 3 + 1, none⟩ = some (.int .i64 pid) ∧ W.cell? ⟨ab, ao + k * 3 + 2, none⟩ = some (.int .i64 pc) ∧ Below w.heap.size w W)
              (first | exact ⟨(HC.out _ (below_drewN HW.out 1)).2.1, (HC.out _ (below_drewN HW.out 1)).2.2, below_drewN HW.out 1⟩ | exact ⟨(HC.out _ HW6.out).2.1, (HC.out _ HW6.out).2.2, HW6.out⟩ | exact ⟨(HC.out _ HW5.out).2.1, (HC.out _ HW5.out).2.2, HW5.out⟩)
              (first | (go_at_call 11; refine HE1.out.mono ?_; rintro e w5 ⟨rfl, hq5, hm5⟩; have HR5 := Lib.hid ((HR.out.drewN 1).mod hm5 (fun i hi e => by omega)); have HW5 := Lib.hid (below_mod (below_drewN HW.out 1) hm5 (fun i hi => by omega)); clear hm5) | (go_at_call 20; refine (HE2.out _ HR5.out).mono ?_; rintro e w6 ⟨rfl, hq6, hm6⟩; have HW6 := Lib.hid (below_mod HW5.out hm6 (fun i hi => by have hi : r ≤ i := hi; omega))))
            clear HR HW HE1 HQ c0 c1 c2 HW6 HR5 HE2
            obtain ⟨cs', hcs1, hcs2, hcs3⟩ := endT_state M cs pid pc HLV.out
            rw [hcs1] at hq5 hq6
            have HQ : Hid (Tab w6 b m ⟨M, cs'⟩) := Lib.hid (hq5.mod hm6 (by omega) (by omega))
            have HR : Hid (RTab w6 r ⟨M, cs'⟩) := Lib.hid hq6
            have HW := Lib.hid (below_mod HW5.out hm6 (fun i hi => by have hi : r ≤ i := hi; omega))
            have hcl : cs'.length ≤ k + 1 := by omega
            have HL := Lib.hid hcs3
            clear hcs1 hcs2 hcs3 hq5 hq6 hm6 HW5
            obtain ⟨f0, f1, f2⟩ := HC.out _ HW.out
            go_wp2_with fail
            refine (alikeF _ b m r ⟨M, cs'⟩ HQ.out HR.out pid HP.out.id).mono ?_
            rintro e wA ⟨rfl, hbA⟩
            have HQ := Lib.hid (HQ.out.below hbA)
            have HR := Lib.hid (HR.out.below hbA)
            have HW := Lib.hid (below_then HW.out hbA)
            clear hbA f0 f1 f2
            go_wp2
            go_roundw
            case rel => exact ⟨k + 1, cs', by omega, by go_num, hcl, HL, HQ, HR, HW⟩
            case measure => simp [intOf]; omega
          · have e2 : (kd == 2) = false := beq_eq_false_iff_ne.2 (by omega)
            have e3 : (kd == 3) = true := by rw [beq_iff_eq]; exact hk3
            clear hk3
            go_wp2
            go_region_held3 (fun W => W.cell? ⟨ab, ao + k * 3 + 1, none⟩ = some (.int .i64 pid) ∧ W.cell? ⟨ab, ao + k * 3 + 2, none⟩ = some (.int .i64 pc) ∧ Below w.heap.size w W)
              (first | exact ⟨(HC.out _ (below_drewN HW.out 1)).2.1, (HC.out _ (below_drewN HW.out 1)).2.2, below_drewN HW.out 1⟩ | exact ⟨(HC.out _ HW6.out).2.1, (HC.out _ HW6.out).2.2, HW6.out⟩ | exact ⟨(HC.out _ HW5.out).2.1, (HC.out _ HW5.out).2.2, HW5.out⟩)
              (first | (go_at_call 11; refine HE1.out.mono ?_; rintro e w5 ⟨rfl, hq5, hm5⟩; have HR5 := Lib.hid ((HR.out.drewN 1).mod hm5 (fun i hi e => by omega)); have HW5 := Lib.hid (below_mod (below_drewN HW.out 1) hm5 (fun i hi => by omega)); clear hm5) | (go_at_call 20; refine (HE2.out _ HR5.out).mono ?_; rintro e w6 ⟨rfl, hq6, hm6⟩; have HW6 := Lib.hid (below_mod HW5.out hm6 (fun i hi => by have hi : r ≤ i := hi; omega))))
            clear HR HW HE1 HQ c0 c1 c2 HW6 HR5 HE2
            obtain ⟨cs', hcs1, hcs2, hcs3⟩ := endT_state M cs pid pc HLV.out
            rw [hcs1] at hq5 hq6
            have HQ : Hid (Tab w6 b m ⟨M, cs'⟩) := Lib.hid (hq5.mod hm6 (by omega) (by omega))
            have HR : Hid (RTab w6 r ⟨M, cs'⟩) := Lib.hid hq6
            have HW := Lib.hid (below_mod HW5.out hm6 (fun i hi => by have hi : r ≤ i := hi; omega))
            have hcl : cs'.length ≤ k + 1 := by omega
            have HL := Lib.hid hcs3
            clear hcs1 hcs2 hcs3 hq5 hq6 hm6 HW5
            obtain ⟨f0, f1, f2⟩ := HC.out _ HW.out
            go_wp2_with fail
            refine (alikeF _ b m r ⟨M, cs'⟩ HQ.out HR.out pid HP.out.id).mono ?_
            rintro e wA ⟨rfl, hbA⟩
            have HQ := Lib.hid (HQ.out.below hbA)
            have HR := Lib.hid (HR.out.below hbA)
            have HW := Lib.hid (below_then HW.out hbA)
            clear hbA f0 f1 f2
            go_wp2
            go_roundw
            case rel => exact ⟨k + 1, cs', by omega, by go_num, hcl, HL, HQ, HR, HW⟩
            case measure => simp [intOf]; omega
        · have e2 : (kd == 2) = false := beq_eq_false_iff_ne.2 (by omega)
          have e3 : (kd == 3) = false := beq_eq_false_iff_ne.2 (by omega)
          clear hop hen
          obtain ⟨cs', rfl⟩ : ∃ cs' : List Int, cs' = cs := ⟨_, rfl⟩
          have hcl : cs'.length ≤ k + 1 := by omega
          have HL := HLV
          clear HLV c1 c2
          obtain ⟨f0, f1, f2⟩ := HC.out _ HW.out
          go_wp2_with fail
          refine (alikeF _ b m r ⟨M, cs'⟩ HQ.out HR.out pid HP.out.id).mono ?_
          rintro e wA ⟨rfl, hbA⟩
          have HQ := Lib.hid (HQ.out.below hbA)
          have HR := Lib.hid (HR.out.below hbA)
          have HW := Lib.hid (below_then HW.out hbA)
          clear hbA f0 f1 f2
          go_wp2
          go_roundw
          case rel => exact ⟨k + 1, cs', by omega, by go_num, hcl, HL, HQ, HR, HW⟩
          case measure => simp [intOf]; omega
    · have hdk : decide ((k : Int) < len1) = false := by simp; omega
      go_wp2_with fail
      refine (alikeF _ b m r ⟨M, cs⟩ HQ.out HR.out 1 (by decide)).mono ?_
      rintro e w4 ⟨rfl, hb4⟩
      have HW4 := Lib.hid (below_then HW.out hb4)
      go_wp2_with fail
      refine (awakeF _).mono ?_
      rintro e w5 ⟨rfl, hb5⟩
      have HW5 := Lib.hid (below_then HW4.out hb5)
      go_wp2
      go_ret
      exact ⟨rfl, HW5.out⟩

theorem tableScript_walk (a0 : Int) (a1 : Option Addr) (len1 cap1 : Nat) (z1 : List TAct) (w : World) (w0 : (Lit.int .i64 a0).wf = true) (w1 : IsActs w a1 len1 cap1 z1) :
    Calls Try.prog 5 #[.int .i64 a0, .slice a1 len1 cap1] w fun e w' => e = .returned (.bool true) ∧ Below w.heap.size w w' := by
  by_cases h : a0 < 1 ∨ 64 < a0
  · exact script_none w a0 h a1 len1 cap1
  · obtain ⟨M, rfl⟩ : ∃ M : Nat, a0 = M := ⟨a0.toNat, by omega⟩
    exact script_some w M (by omega) (by omega) a1 len1 cap1 z1 w1
end Go.Proofs.Ytlebigefknhgeaa
