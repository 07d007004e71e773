/- The walk of QueueScript: what a queue answers to any calls, and what is in it then; for every input. Printed by genZ.py. -/
import Derived.Test.YtnnchmlkgofhpaaQueY
set_option linter.unusedVariables false
set_option linter.unusedSimpArgs false
namespace Go.Proofs.Ytnnchmlkgofhpaa
open Go.RowKit

set_option maxHeartbeats 1000000 in
theorem script_none (w : World) (x : Int) (hx : x < 1 ∨ 1048576 < x) (A : Option Addr) (n c : Nat) :
    Calls Try.prog 6 #[.int .i64 x, .slice A n c] w fun e w' => e = .returned (.bool true) ∧ Below w.heap.size w w' := by
  have H1 := Lib.hid (new_no w x hx)
  have H2 := Lib.hid (refNew_no w x hx)
  clear hx
  go_enter Try.func6, Try.ntmps6
  go_wp2_with fail
  refine H1.out.mono ?_
  rintro e w1 ⟨rfl, rfl⟩
  go_wp2_with fail
  refine H2.out.mono ?_
  rintro e w2 ⟨rfl, rfl⟩
  go_wp2_with fail
  refine (awakeF _).mono ?_
  rintro e w3 ⟨rfl, hb⟩
  go_wp2
  go_ret
  exact ⟨rfl, hb⟩

set_option maxHeartbeats 16000000 in
set_option maxRecDepth 100000 in
theorem script_some (w : World) (M : Nat) (hM1 : 1 ≤ M) (hM2 : M ≤ 1048576) (a1 : Option Addr) (len1 cap1 : Nat) (z1 : List QAct) (w1 : IsActs w a1 len1 cap1 z1) :
    Calls Try.prog 6 #[.int .i64 M, .slice a1 len1 cap1] w fun e w' => e = .returned (.bool true) ∧ Below w.heap.size w w' := by
  obtain ⟨h1, h2, h3, h4, h5⟩ := w1
  have HN := Lib.hid h1
  have HA1 := Lib.hid h4
  have HA : Hid (∀ i, i < len1 → ActOk w (actAt z1 i)) := Lib.hid fun i hi => h5 _ (actAt_mem (by omega))
  have HLF : Hid (∀ W, Below w.heap.size w W → Calls Try.prog 21 #[.slice a1 len1 cap1] W fun e w' => (e = .returned (.bool true) ∨ (e = .returned (.bool false) ∧ len1 ≤ 60 ∧ ∀ i, i < len1 → (actAt z1 i).len ≤ 100)) ∧ w' = W) :=
    Lib.hid fun W hW => longF W a1 len1 cap1 z1 h1 (by omega) (h4.below hW) (fun p hp => by
      have := h5 p hp
      exact ⟨this.kind, this.n, this.len, this.cap, this.max, this.rd.below hW, this.bytes⟩)
  have hm1 : len1 ≤ 9223372036854775807 := by unfold maxLen at h3; omega
  clear h1 h2 h3 h4 h5
  go_enter Try.func6, Try.ntmps6
  go_wp2_with fail
  refine (new_ok _ M hM1 hM2).mono ?_
  rintro e w1 ⟨⟨b, g, rfl, hwb, hwg, hq⟩, hb1⟩
  go_wp2_with fail
  refine (refNew_ok _ M hM1 hM2).mono ?_
  rintro e w2 ⟨⟨r, rfl, hwr, hr⟩, hb2⟩
  have hsz := hb1.size
  have hbr : b < r := by have := hq.lt.1; omega
  have hgr : g < r := by have := hq.lt.2; omega
  have HQ2 := Lib.hid (hq.below hb2)
  have HR2 := Lib.hid hr
  have HW2 := Lib.hid (below_then hb1 hb2)
  have hwr2 : w.heap.size ≤ r := by omega
  clear hq hr hb1 hb2 hwr hsz
  go_wp2_with fail
  refine (HLF.out _ HW2.out).mono ?_
  rintro e w3 ⟨hlong, rfl⟩
  rcases hlong with rfl | ⟨rfl, hn60, hl100⟩
  · go_wp2_with fail
    refine (awakeF _).mono ?_
    rintro e w4 ⟨rfl, hb⟩
    go_wp2
    go_ret
    exact ⟨rfl, below_then HW2.out hb⟩
  have HL := Lib.hid hl100
  clear hl100 HLF
  have HS0 : Hid (∃ s all EV, Beside s all 0 ∧ Que w3 b g s ∧ RQue w3 r ⟨M, all, 0, EV⟩ ∧ s.ended = EV ∧ s.most = M ∧ all.length = 0) := Lib.hid ⟨_, [], false, Beside.new M, HQ2.out, HR2.out, rfl, rfl, rfl⟩
  clear HQ2 HR2
  go_wp2
  go_loopw [9] (fun i wr => ∃ (k rd : Nat) (s : Qs) (all : List Int) (EV : Bool), k ≤ len1 ∧ i = .int .i64 k ∧ all.length ≤ 100 * k ∧ Hid (Beside s all rd) ∧ Hid (Que wr b g s) ∧ Hid (RQue wr r ⟨M, all, rd, EV⟩) ∧ Hid (s.ended = EV ∧ s.most = M) ∧ Hid (Below w.heap.size w wr)) (fun i _ => len1 - (intOf i).toNat)
  case atStart =>
    obtain ⟨s, all, EV, g1, g2, g3, g4, g5, g6⟩ := HS0.out
    exact ⟨0, 0, s, all, EV, by omega, rfl, by omega, Lib.hid g1, Lib.hid g2, Lib.hid g3, Lib.hid ⟨g4, g5⟩, HW2⟩
  case round =>
    clear HS0 HW2
    obtain ⟨k, rd, s, all, EV, hk, rfl, hal, HBE, HQ, HR, HE, HW⟩ := hrel
    by_cases hlt : k < len1
    · have hdk : decide ((k : Int) < len1) = true := by simp; omega
      obtain ⟨ab, ao, rfl, hc⟩ := act_cells_all HA1.out (i := k) (by rw [HN.out]; exact hlt)
      obtain ⟨p, hp⟩ : ∃ p, p = actAt z1 k := ⟨_, rfl⟩
      have hpo : ActOk w p := by rw [hp]; exact HA.out k hlt
      have hpl : p.len ≤ 100 := by rw [hp]; exact HL.out k hlt
      rw [← hp] at hc
      obtain ⟨kd, pn, pa, pl, pc, pb⟩ := p
      simp only at hc hpl
      have hkd := hpo.kind
      have hpn := hpo.n
      have hpc := hpo.cap
      simp only at hkd hpn hpc
      have HP := Lib.hid hpo
      have HPB : Hid (pb.length = pl) := Lib.hid hpo.len
      have HC := Lib.hid hc
      obtain ⟨c0, c1, c2⟩ := hc wr HW.out
      clear hp hpo hc
      by_cases hk0 : kd = 0
      · have e0 : (kd == 0) = true := by rw [beq_iff_eq]; exact hk0
        clear hk0
        obtain ⟨kv, oe, s', all', n1, n2, n3, n4, n5, n6⟩ := feed_both M s all rd EV b g r pl pb HPB.out HP.out.bytes HBE.out HE.out.2 HE.out.1 (by omega)
        have HBE' := Lib.hid n1
        have HE' : Hid (s'.ended = EV ∧ s'.most = M) := Lib.hid ⟨n2, n3⟩
        have hal' : all'.length ≤ 100 * (k + 1) := by omega
        have HF1 := Lib.hid n5
        have HF2 := Lib.hid n6
        clear n1 n2 n3 n4 n5 n6 HBE HE
        go_wp2_with fail
        refine (lentBytesF _ pa pl pc pb HPB.out (by omega) (HP.out.rd.below HW.out)).mono ?_
        rintro e w5 ⟨⟨gg, cap, rfl, hg1, hg2, hg3, hg4⟩, hb5⟩
        have hbl := HQ.out.lt.1
        have hgl := HQ.out.lt.2
        have hrl := HR.out.lt
        have hggw : w.heap.size ≤ gg := Nat.le_trans HW.out.size hg1
        have hgb : gg ≠ b := by omega
        have hgg : gg ≠ g := by omega
        have hgr : gg ≠ r := by omega
        have HQ5 := Lib.hid (HQ.out.below hb5)
        have HR5 := Lib.hid ((HR.out.far hg1).below hb5)
        have HW5 := Lib.hid (below_then HW.out hb5)
        have HG5 := Lib.hid hg4
        obtain ⟨c50, c51, c52⟩ := HC.out _ HW5.out
        clear hg1 hg4 hb5 hbl hgl hrl HQ HR HW c0 c1 c2
        go_wp2_with fail
        refine (HF1.out _ (some ⟨gg, 0, none⟩) cap HQ5.out (fun W' hW' => (HG5.out.mod hW' (fun h => h.elim hgb hgg)).rd.upto (List.prefix_append _ _))).mono ?_
        rintro e w6 ⟨rfl, hq6, hm6⟩
        have HQ6 := Lib.hid hq6
        have HR6 := Lib.hid (HR5.out.mod hm6 (fun i hi _ h => by omega))
        have HW6 := Lib.hid (below_mod HW5.out hm6 (fun i hi => by omega))
        have HG6 := Lib.hid (HG5.out.mod hm6 (fun h => h.elim hgb hgg))
        have hgs6 := HG6.out.lt
        obtain ⟨c60, c61, c62⟩ := HC.out _ HW6.out
        clear hq6 hm6 HQ5 HR5 HW5 HG5 c50 c51 c52 HF1
        go_wp2_with fail
        refine (HF2.out _ pa pc gg HR6.out hgs6 hpc (HP.out.rd.below HW6.out)).mono ?_
        rintro e w7 ⟨rfl, hr7, hm7⟩
        have HR7 := Lib.hid hr7
        have HQ7 := Lib.hid (HQ6.out.mod hm7 (by omega) (by omega))
        have HW7 := Lib.hid (below_mod HW6.out hm7 (fun i hi => by have hi := hi.1; omega))
        have HG7 := Lib.hid (HG6.out.mod hm7 (fun h => h.2 rfl))
        obtain ⟨c70, c71, c72⟩ := HC.out _ HW7.out
        clear hr7 hm7 HQ6 HR6 HW6 HG6 c60 c61 c62 HF2 hgs6
        go_wp2_with fail
        refine (keptBytesF _ gg pa pl cap pc pb HPB.out (by omega) hg2 hg3 HG7.out (HP.out.rd.below HW7.out)).mono ?_
        rintro e w8 ⟨rfl, hb8⟩
        have HQ8 := Lib.hid (HQ7.out.below hb8)
        have HR8 := Lib.hid (HR7.out.below hb8)
        have HW8 := Lib.hid (below_then HW7.out hb8)
        have HG8 : Hid (Row w8 gg (nums .u8 pb)) := Lib.hid ((HG7.out.below hb8).take (by rw [nums_append]; exact List.prefix_append _ _))
        clear hb8 HQ7 HR7 HW7 HG7 c70 c71 c72
        go_wp2_with fail
        refine (overBytesF _ gg cap pb pl HPB.out (by omega) HG8.out).mono ?_
        rintro e w9 ⟨rfl, hm9⟩
        have HQ := Lib.hid (HQ8.out.mod hm9 (fun h => hgb h.symm) (fun h => hgg h.symm))
        have HR := Lib.hid (HR8.out.mod hm9 (fun i hi hn h => hn h)).near
        have HW := Lib.hid (below_mod HW8.out hm9 (fun i hi => by have hi : i = gg := hi; omega))
        have HR : Hid (RQue w9 r ⟨M, all', rd, EV⟩) := Lib.hid HR
        clear hm9 HQ8 HR8 HW8 HG8 hg2 hg3
        obtain ⟨rd', hrd'⟩ : ∃ rd', rd' = rd := ⟨_, rfl⟩
        obtain ⟨EV', hEV'⟩ : ∃ EV', EV' = EV := ⟨_, rfl⟩
        have HBE : Hid (Beside s' all' rd') := by rw [hrd']; exact HBE'
        have HE : Hid (s'.ended = EV' ∧ s'.most = M) := by rw [hEV']; exact HE'
        rw [← hrd', ← hEV'] at HR
        clear HBE' HE' hrd' hEV'
        go_wp2_with fail
        refine (alikeF _ b g r M s' all' rd' EV' HQ.out HR.out HBE.out HE.out.2 HE.out.1).mono ?_
        rintro e wA ⟨rfl, hbA⟩
        have HQ := Lib.hid (HQ.out.below hbA)
        have HR := Lib.hid (HR.out.below hbA)
        have HW := Lib.hid (below_then HW.out hbA)
        clear hbA
        go_wp2
        go_roundw
        case rel => exact ⟨k + 1, rd', s', all', EV', by omega, by go_num, hal', HBE, HQ, HR, HE, HW⟩
        case measure => simp [intOf]; omega
      have e0 : (kd == 0) = false := beq_eq_false_iff_ne.2 hk0
      by_cases hk1 : kd = 1
      · have e1 : (kd == 1) = true := by rw [beq_iff_eq]; exact hk1
        clear hk0 hk1
        obtain ⟨kv, oe, s', all', n1, n2, n3, n4, n5, n6⟩ := feed_both M s all rd EV b g r pl pb HPB.out HP.out.bytes HBE.out HE.out.2 HE.out.1 (by omega)
        have HBE' := Lib.hid n1
        have HE' : Hid (s'.ended = EV ∧ s'.most = M) := Lib.hid ⟨n2, n3⟩
        have hal' : all'.length ≤ 100 * (k + 1) := by omega
        have HF1 := Lib.hid n5
        have HF2 := Lib.hid n6
        clear n1 n2 n3 n4 n5 n6 HBE HE
        go_wp2_with fail
        refine (lentBytesF _ pa pl pc pb HPB.out (by omega) (HP.out.rd.below HW.out)).mono ?_
        rintro e w5 ⟨⟨gg, cap, rfl, hg1, hg2, hg3, hg4⟩, hb5⟩
        have hbl := HQ.out.lt.1
        have hgl := HQ.out.lt.2
        have hrl := HR.out.lt
        have hggw : w.heap.size ≤ gg := Nat.le_trans HW.out.size hg1
        have hgb : gg ≠ b := by omega
        have hgg : gg ≠ g := by omega
        have hgr : gg ≠ r := by omega
        have HQ5 := Lib.hid (HQ.out.below hb5)
        have HR5 := Lib.hid ((HR.out.far hg1).below hb5)
        have HW5 := Lib.hid (below_then HW.out hb5)
        have HG5 := Lib.hid hg4
        obtain ⟨c50, c51, c52⟩ := HC.out _ HW5.out
        clear hg1 hg4 hb5 hbl hgl hrl HQ HR HW c0 c1 c2
        go_wp2_with fail
        refine (HF1.out _ (some ⟨gg, 0, none⟩) cap HQ5.out (fun W' hW' => (HG5.out.mod hW' (fun h => h.elim hgb hgg)).rd.upto (List.prefix_append _ _))).mono ?_
        rintro e w6 ⟨rfl, hq6, hm6⟩
        have HQ6 := Lib.hid hq6
        have HR6 := Lib.hid (HR5.out.mod hm6 (fun i hi _ h => by omega))
        have HW6 := Lib.hid (below_mod HW5.out hm6 (fun i hi => by omega))
        have HG6 := Lib.hid (HG5.out.mod hm6 (fun h => h.elim hgb hgg))
        have hgs6 := HG6.out.lt
        obtain ⟨c60, c61, c62⟩ := HC.out _ HW6.out
        clear hq6 hm6 HQ5 HR5 HW5 HG5 c50 c51 c52 HF1
        go_wp2_with fail
        refine (HF2.out _ pa pc gg HR6.out hgs6 hpc (HP.out.rd.below HW6.out)).mono ?_
        rintro e w7 ⟨rfl, hr7, hm7⟩
        have HR7 := Lib.hid hr7
        have HQ7 := Lib.hid (HQ6.out.mod hm7 (by omega) (by omega))
        have HW7 := Lib.hid (below_mod HW6.out hm7 (fun i hi => by have hi := hi.1; omega))
        have HG7 := Lib.hid (HG6.out.mod hm7 (fun h => h.2 rfl))
        obtain ⟨c70, c71, c72⟩ := HC.out _ HW7.out
        clear hr7 hm7 HQ6 HR6 HW6 HG6 c60 c61 c62 HF2 hgs6
        go_wp2_with fail
        refine (keptBytesF _ gg pa pl cap pc pb HPB.out (by omega) hg2 hg3 HG7.out (HP.out.rd.below HW7.out)).mono ?_
        rintro e w8 ⟨rfl, hb8⟩
        have HQ8 := Lib.hid (HQ7.out.below hb8)
        have HR8 := Lib.hid (HR7.out.below hb8)
        have HW8 := Lib.hid (below_then HW7.out hb8)
        have HG8 : Hid (Row w8 gg (nums .u8 pb)) := Lib.hid ((HG7.out.below hb8).take (by rw [nums_append]; exact List.prefix_append _ _))
        clear hb8 HQ7 HR7 HW7 HG7 c70 c71 c72
        go_wp2_with fail
        refine (overBytesF _ gg cap pb pl HPB.out (by omega) HG8.out).mono ?_
        rintro e w9 ⟨rfl, hm9⟩
        have HQ := Lib.hid (HQ8.out.mod hm9 (fun h => hgb h.symm) (fun h => hgg h.symm))
        have HR := Lib.hid (HR8.out.mod hm9 (fun i hi hn h => hn h)).near
        have HW := Lib.hid (below_mod HW8.out hm9 (fun i hi => by have hi : i = gg := hi; omega))
        have HR : Hid (RQue w9 r ⟨M, all', rd, EV⟩) := Lib.hid HR
        clear hm9 HQ8 HR8 HW8 HG8 hg2 hg3
        obtain ⟨rd', hrd'⟩ : ∃ rd', rd' = rd := ⟨_, rfl⟩
        obtain ⟨EV', hEV'⟩ : ∃ EV', EV' = EV := ⟨_, rfl⟩
        have HBE : Hid (Beside s' all' rd') := by rw [hrd']; exact HBE'
        have HE : Hid (s'.ended = EV' ∧ s'.most = M) := by rw [hEV']; exact HE'
        rw [← hrd', ← hEV'] at HR
        clear HBE' HE' hrd' hEV'
        go_wp2_with fail
        refine (alikeF _ b g r M s' all' rd' EV' HQ.out HR.out HBE.out HE.out.2 HE.out.1).mono ?_
        rintro e wA ⟨rfl, hbA⟩
        have HQ := Lib.hid (HQ.out.below hbA)
        have HR := Lib.hid (HR.out.below hbA)
        have HW := Lib.hid (below_then HW.out hbA)
        clear hbA
        go_wp2
        go_roundw
        case rel => exact ⟨k + 1, rd', s', all', EV', by omega, by go_num, hal', HBE, HQ, HR, HE, HW⟩
        case measure => simp [intOf]; omega
      have e1 : (kd == 1) = false := beq_eq_false_iff_ne.2 hk1
      by_cases hk2 : kd = 2
      · have e2 : (kd == 2) = true := by rw [beq_iff_eq]; exact hk2
        clear hk0 hk1 hk2
        obtain ⟨oe, s', rd', n1, n2, n3, n5, n6⟩ := skip_both M s all rd EV b g r pn HBE.out HE.out.2 HE.out.1 (by omega)
        have HBE' := Lib.hid n1
        have HE' : Hid (s'.ended = EV ∧ s'.most = M) := Lib.hid ⟨n2, n3⟩
        have HE1 := Lib.hid (n5 wr.drew (HQ.out.below (below_drewN (Below.refl _ _) 1)))
        have HE2 := Lib.hid n6
        clear n1 n2 n3 n5 n6 HBE HE
        go_wp2
        go_region_held3 (fun W => W.cell? ⟨ab, ao + k * 3 + 1, none⟩ = some (.int .i64 pn) ∧ Below w.heap.size w W)
          (first | exact ⟨(HC.out _ (below_drewN HW.out 1)).2.1, below_drewN HW.out 1⟩ | exact ⟨(HC.out _ HW6.out).2.1, HW6.out⟩ | exact ⟨(HC.out _ HW5.out).2.1, HW5.out⟩)
          (first | (go_at_call 13; refine HE1.out.mono ?_; rintro e w5 ⟨rfl, hq5, hm5⟩; have HR5 := Lib.hid ((HR.out.drewN 1).mod hm5 (fun i hi h => by omega)); have HW5 := Lib.hid (below_mod (below_drewN HW.out 1) hm5 (fun i hi => by omega)); have HQ5 := Lib.hid hq5; clear hm5 hq5) | (go_at_call 29; refine (HE2.out _ HR5.out).mono ?_; rintro e w6 ⟨rfl, hr6, hm6⟩; have HW6 := Lib.hid (below_mod HW5.out hm6 (fun i hi => by have hi : r ≤ i := hi; omega)); have HR6 := Lib.hid hr6; have HQ6 := Lib.hid (HQ5.out.mod hm6 (by omega) (by omega)); clear hm6 hr6))
        clear HR HW HE1 HQ c0 c1 c2 HR5 HE2 HW5 HQ5
        obtain ⟨HQ, HR, HW⟩ : Hid (Que w6 b g s') ∧ Hid (RQue w6 r ⟨M, all, rd', EV⟩) ∧ Hid (Below w.heap.size w w6) := ⟨HQ6, HR6, HW6⟩
        clear HQ6 HR6 HW6
        obtain ⟨all', hall'⟩ : ∃ all', all' = all := ⟨_, rfl⟩
        obtain ⟨EV', hEV'⟩ : ∃ EV', EV' = EV := ⟨_, rfl⟩
        have HBE : Hid (Beside s' all' rd') := by rw [hall']; exact HBE'
        have HE : Hid (s'.ended = EV' ∧ s'.most = M) := by rw [hEV']; exact HE'
        have hal' : all'.length ≤ 100 * (k + 1) := by rw [hall']; omega
        rw [← hall', ← hEV'] at HR
        clear HBE' HE' hall' hEV'
        go_wp2_with fail
        refine (alikeF _ b g r M s' all' rd' EV' HQ.out HR.out HBE.out HE.out.2 HE.out.1).mono ?_
        rintro e wA ⟨rfl, hbA⟩
        have HQ := Lib.hid (HQ.out.below hbA)
        have HR := Lib.hid (HR.out.below hbA)
        have HW := Lib.hid (below_then HW.out hbA)
        clear hbA
        go_wp2
        go_roundw
        case rel => exact ⟨k + 1, rd', s', all', EV', by omega, by go_num, hal', HBE, HQ, HR, HE, HW⟩
        case measure => simp [intOf]; omega
      have e2 : (kd == 2) = false := beq_eq_false_iff_ne.2 hk2
      by_cases hk3 : kd = 3
      · have e3 : (kd == 3) = true := by rw [beq_iff_eq]; exact hk3
        clear hk0 hk1 hk2 hk3
        obtain ⟨oe, s', rd', n1, n2, n3, n5, n6⟩ := skip_both M s all rd EV b g r pn HBE.out HE.out.2 HE.out.1 (by omega)
        have HBE' := Lib.hid n1
        have HE' : Hid (s'.ended = EV ∧ s'.most = M) := Lib.hid ⟨n2, n3⟩
        have HE1 := Lib.hid (n5 wr.drew (HQ.out.below (below_drewN (Below.refl _ _) 1)))
        have HE2 := Lib.hid n6
        clear n1 n2 n3 n5 n6 HBE HE
        go_wp2
        go_region_held3 (fun W => W.cell? ⟨ab, ao + k * 3 + 1, none⟩ = some (.int .i64 pn) ∧ Below w.heap.size w W)
          (first | exact ⟨(HC.out _ (below_drewN HW.out 1)).2.1, below_drewN HW.out 1⟩ | exact ⟨(HC.out _ HW6.out).2.1, HW6.out⟩ | exact ⟨(HC.out _ HW5.out).2.1, HW5.out⟩)
          (first | (go_at_call 13; refine HE1.out.mono ?_; rintro e w5 ⟨rfl, hq5, hm5⟩; have HR5 := Lib.hid ((HR.out.drewN 1).mod hm5 (fun i hi h => by omega)); have HW5 := Lib.hid (below_mod (below_drewN HW.out 1) hm5 (fun i hi => by omega)); have HQ5 := Lib.hid hq5; clear hm5 hq5) | (go_at_call 29; refine (HE2.out _ HR5.out).mono ?_; rintro e w6 ⟨rfl, hr6, hm6⟩; have HW6 := Lib.hid (below_mod HW5.out hm6 (fun i hi => by have hi : r ≤ i := hi; omega)); have HR6 := Lib.hid hr6; have HQ6 := Lib.hid (HQ5.out.mod hm6 (by omega) (by omega)); clear hm6 hr6))
        clear HR HW HE1 HQ c0 c1 c2 HR5 HE2 HW5 HQ5
        obtain ⟨HQ, HR, HW⟩ : Hid (Que w6 b g s') ∧ Hid (RQue w6 r ⟨M, all, rd', EV⟩) ∧ Hid (Below w.heap.size w w6) := ⟨HQ6, HR6, HW6⟩
        clear HQ6 HR6 HW6
        obtain ⟨all', hall'⟩ : ∃ all', all' = all := ⟨_, rfl⟩
        obtain ⟨EV', hEV'⟩ : ∃ EV', EV' = EV := ⟨_, rfl⟩
        have HBE : Hid (Beside s' all' rd') := by rw [hall']; exact HBE'
        have HE : Hid (s'.ended = EV' ∧ s'.most = M) := by rw [hEV']; exact HE'
        have hal' : all'.length ≤ 100 * (k + 1) := by rw [hall']; omega
        rw [← hall', ← hEV'] at HR
        clear HBE' HE' hall' hEV'
        go_wp2_with fail
        refine (alikeF _ b g r M s' all' rd' EV' HQ.out HR.out HBE.out HE.out.2 HE.out.1).mono ?_
        rintro e wA ⟨rfl, hbA⟩
        have HQ := Lib.hid (HQ.out.below hbA)
        have HR := Lib.hid (HR.out.below hbA)
        have HW := Lib.hid (below_then HW.out hbA)
        clear hbA
        go_wp2
        go_roundw
        case rel => exact ⟨k + 1, rd', s', all', EV', by omega, by go_num, hal', HBE, HQ, HR, HE, HW⟩
        case measure => simp [intOf]; omega
      have e3 : (kd == 3) = false := beq_eq_false_iff_ne.2 hk3
      by_cases hk4 : kd = 4
      · have e4 : (kd == 4) = true := by rw [beq_iff_eq]; exact hk4
        clear hk0 hk1 hk2 hk3 hk4
        obtain ⟨oe, s', rd', n1, n2, n3, n5, n6⟩ := skip_both M s all rd EV b g r pn HBE.out HE.out.2 HE.out.1 (by omega)
        have HBE' := Lib.hid n1
        have HE' : Hid (s'.ended = EV ∧ s'.most = M) := Lib.hid ⟨n2, n3⟩
        have HE1 := Lib.hid (n5 wr.drew (HQ.out.below (below_drewN (Below.refl _ _) 1)))
        have HE2 := Lib.hid n6
        clear n1 n2 n3 n5 n6 HBE HE
        go_wp2
        go_region_held3 (fun W => W.cell? ⟨ab, ao + k * 3 + 1, none⟩ = some (.int .i64 pn) ∧ Below w.heap.size w W)
          (first | exact ⟨(HC.out _ (below_drewN HW.out 1)).2.1, below_drewN HW.out 1⟩ | exact ⟨(HC.out _ HW6.out).2.1, HW6.out⟩ | exact ⟨(HC.out _ HW5.out).2.1, HW5.out⟩)
          (first | (go_at_call 13; refine HE1.out.mono ?_; rintro e w5 ⟨rfl, hq5, hm5⟩; have HR5 := Lib.hid ((HR.out.drewN 1).mod hm5 (fun i hi h => by omega)); have HW5 := Lib.hid (below_mod (below_drewN HW.out 1) hm5 (fun i hi => by omega)); have HQ5 := Lib.hid hq5; clear hm5 hq5) | (go_at_call 29; refine (HE2.out _ HR5.out).mono ?_; rintro e w6 ⟨rfl, hr6, hm6⟩; have HW6 := Lib.hid (below_mod HW5.out hm6 (fun i hi => by have hi : r ≤ i := hi; omega)); have HR6 := Lib.hid hr6; have HQ6 := Lib.hid (HQ5.out.mod hm6 (by omega) (by omega)); clear hm6 hr6))
        clear HR HW HE1 HQ c0 c1 c2 HR5 HE2 HW5 HQ5
        obtain ⟨HQ, HR, HW⟩ : Hid (Que w6 b g s') ∧ Hid (RQue w6 r ⟨M, all, rd', EV⟩) ∧ Hid (Below w.heap.size w w6) := ⟨HQ6, HR6, HW6⟩
        clear HQ6 HR6 HW6
        obtain ⟨all', hall'⟩ : ∃ all', all' = all := ⟨_, rfl⟩
        obtain ⟨EV', hEV'⟩ : ∃ EV', EV' = EV := ⟨_, rfl⟩
        have HBE : Hid (Beside s' all' rd') := by rw [hall']; exact HBE'
        have HE : Hid (s'.ended = EV' ∧ s'.most = M) := by rw [hEV']; exact HE'
        have hal' : all'.length ≤ 100 * (k + 1) := by rw [hall']; omega
        rw [← hall', ← hEV'] at HR
        clear HBE' HE' hall' hEV'
        go_wp2_with fail
        refine (alikeF _ b g r M s' all' rd' EV' HQ.out HR.out HBE.out HE.out.2 HE.out.1).mono ?_
        rintro e wA ⟨rfl, hbA⟩
        have HQ := Lib.hid (HQ.out.below hbA)
        have HR := Lib.hid (HR.out.below hbA)
        have HW := Lib.hid (below_then HW.out hbA)
        clear hbA
        go_wp2
        go_roundw
        case rel => exact ⟨k + 1, rd', s', all', EV', by omega, by go_num, hal', HBE, HQ, HR, HE, HW⟩
        case measure => simp [intOf]; omega
      have e4 : (kd == 4) = false := beq_eq_false_iff_ne.2 hk4
      by_cases hk5 : kd = 5
      · have e5 : (kd == 5) = true := by rw [beq_iff_eq]; exact hk5
        clear hk0 hk1 hk2 hk3 hk4 hk5
        obtain ⟨oe, s', EV', n1, n2, n3, n5, n6⟩ := end_both M s all rd EV b g r HBE.out HE.out.2 HE.out.1
        have HBE' := Lib.hid n1
        have HE : Hid (s'.ended = EV' ∧ s'.most = M) := Lib.hid ⟨n2, n3⟩
        have HE1 := Lib.hid n5
        have HE2 := Lib.hid n6
        clear n1 n2 n3 n5 n6 HBE
        go_wp2_with fail
        refine (HE1.out _ HQ.out).mono ?_
        rintro e w5 ⟨rfl, hq5, hm5⟩
        have HQ5 := Lib.hid hq5
        have HR5 := Lib.hid (HR.out.mod hm5 (fun i hi h => by omega))
        have HW5 := Lib.hid (below_mod HW.out hm5 (fun i hi => by omega))
        clear hq5 hm5 HQ HR HW HE1 c0 c1 c2
        go_wp2_with fail
        refine (HE2.out _ HR5.out).mono ?_
        rintro e w6 ⟨rfl, hr6, hm6⟩
        have HR := Lib.hid hr6
        have HQ := Lib.hid (HQ5.out.mod hm6 (by omega) (by omega))
        have HW := Lib.hid (below_mod HW5.out hm6 (fun i hi => by have hi : r ≤ i := hi; omega))
        clear hr6 hm6 HQ5 HR5 HW5 HE2
        obtain ⟨all', hall'⟩ : ∃ all', all' = all := ⟨_, rfl⟩
        obtain ⟨rd', hrd'⟩ : ∃ rd', rd' = rd := ⟨_, rfl⟩
        have HBE : Hid (Beside s' all' rd') := by rw [hall', hrd']; exact HBE'
        have hal' : all'.length ≤ 100 * (k + 1) := by rw [hall']; omega
        rw [← hall', ← hrd'] at HR
        clear HBE' hall' hrd'
        go_wp2_with fail
        refine (alikeF _ b g r M s' all' rd' EV' HQ.out HR.out HBE.out HE.out.2 HE.out.1).mono ?_
        rintro e wA ⟨rfl, hbA⟩
        have HQ := Lib.hid (HQ.out.below hbA)
        have HR := Lib.hid (HR.out.below hbA)
        have HW := Lib.hid (below_then HW.out hbA)
        clear hbA
        go_wp2
        go_roundw
        case rel => exact ⟨k + 1, rd', s', all', EV', by omega, by go_num, hal', HBE, HQ, HR, HE, HW⟩
        case measure => simp [intOf]; omega
      have e5 : (kd == 5) = false := beq_eq_false_iff_ne.2 hk5
      clear hk0 hk1 hk2 hk3 hk4 hk5
      obtain ⟨all', hall'⟩ : ∃ all', all' = all := ⟨_, rfl⟩
      obtain ⟨rd', hrd'⟩ : ∃ rd', rd' = rd := ⟨_, rfl⟩
      obtain ⟨EV', hEV'⟩ : ∃ EV', EV' = EV := ⟨_, rfl⟩
      obtain ⟨s', hs'⟩ : ∃ s', s' = s := ⟨_, rfl⟩
      have hal' : all'.length ≤ 100 * (k + 1) := by rw [hall']; omega
      rw [← hall', ← hrd', ← hEV'] at HR
      rw [← hall', ← hrd', ← hs'] at HBE
      rw [← hEV', ← hs'] at HE
      rw [← hs'] at HQ
      clear hall' hrd' hEV' hs' c1 c2
      go_wp2_with fail
      refine (alikeF _ b g r M s' all' rd' EV' HQ.out HR.out HBE.out HE.out.2 HE.out.1).mono ?_
      rintro e wA ⟨rfl, hbA⟩
      have HQ := Lib.hid (HQ.out.below hbA)
      have HR := Lib.hid (HR.out.below hbA)
      have HW := Lib.hid (below_then HW.out hbA)
      clear hbA
      go_wp2
      go_roundw
      case rel => exact ⟨k + 1, rd', s', all', EV', by omega, by go_num, hal', HBE, HQ, HR, HE, HW⟩
      case measure => simp [intOf]; omega
    · have hdk : decide ((k : Int) < len1) = false := by simp; omega
      go_wp2_with fail
      refine (alikeF _ b g r M s all rd EV HQ.out HR.out HBE.out HE.out.2 HE.out.1).mono ?_
      rintro e w4 ⟨rfl, hb4⟩
      have HW4 := Lib.hid (below_then HW.out hb4)
      go_wp2_with fail
      refine (awakeF _).mono ?_
      rintro e w5 ⟨rfl, hb5⟩
      have HW5 := Lib.hid (below_then HW4.out hb5)
      go_wp2
      go_ret
      exact ⟨rfl, HW5.out⟩

theorem queueScript_walk (a0 : Int) (a1 : Option Addr) (len1 cap1 : Nat) (z1 : List QAct) (w : World) (w0 : (Lit.int .i64 a0).wf = true) (w1 : IsActs w a1 len1 cap1 z1) :
    Calls Try.prog 6 #[.int .i64 a0, .slice a1 len1 cap1] w fun e w' => e = .returned (.bool true) ∧ Below w.heap.size w w' := by
  by_cases h : a0 < 1 ∨ 1048576 < a0
  · exact script_none w a0 h a1 len1 cap1
  · obtain ⟨M, rfl⟩ : ∃ M : Nat, a0 = M := ⟨a0.toNat, by omega⟩
    exact script_some w M (by omega) (by omega) a1 len1 cap1 z1 w1
end Go.Proofs.Ytnnchmlkgofhpaa
