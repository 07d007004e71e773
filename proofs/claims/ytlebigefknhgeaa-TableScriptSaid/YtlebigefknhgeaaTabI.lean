/- The walk of TableOnce: numbers are given one behind the other, each once; a cause stays; for every input. Printed by genI.py. -/
import Derived.Test.YtlebigefknhgeaaTabP
import Derived.Test.YtlebigefknhgeaaTabF
import Derived.Test.YtlebigefknhgeaaTabR
import Derived.Test.YtlebigefknhgeaaKfPick
set_option linter.unusedVariables false
set_option linter.unusedSimpArgs false
namespace Go.Proofs.Ytlebigefknhgeaa
open Go.RowKit Go.Maps

theorem errno_info : (Try.prog.info? 26).map (fun i => (i.zero, i.size, i.bytes)) = some (some (.int .i64 0), 1, 8) := by kernel_rfl
theorem Own.empty (w : World) (base : Nat) (e : TypeId) (hb : base ≤ w.heap.size) : Own (w.alloc (.cells #[] e)) base e (.slice (some ⟨w.heap.size, 0, none⟩) 0 0) [] :=
  ⟨rfl, .inr ⟨w.heap.size, 0, #[], rfl, hb, heap_alloc_new w _, Nat.le_refl _, by simp [maxLen], rfl, rfl⟩⟩
theorem endT_no (s : Ts) (id c : Int) (h : ¬ (c ≠ 0 ∧ (1 ≤ id ∧ id ≤ s.causes.length) ∧ causeAt s.causes id = 0)) : (endT s id c).1 = s ∧ ((endT s id c).2 == 0) = false := by
  rcases endT_cases s id c with ⟨h0, he⟩ | ⟨h0, h1, he⟩ | ⟨h0, h1, h2, he⟩ | ⟨h0, h1, h2, he⟩
  · rw [he]; exact ⟨rfl, rfl⟩
  · rw [he]; exact ⟨rfl, rfl⟩
  · rw [he]; exact ⟨rfl, rfl⟩
  · exact absurd ⟨h0, h1, h2⟩ h
theorem endT_yes (s : Ts) (id c : Int) (h : c ≠ 0 ∧ (1 ≤ id ∧ id ≤ s.causes.length) ∧ causeAt s.causes id = 0) : endT s id c = ({ s with causes := s.causes.set (id - 1).toNat c }, 0) := by
  rcases endT_cases s id c with ⟨h0, he⟩ | ⟨h0, h1, he⟩ | ⟨h0, h1, h2, he⟩ | ⟨h0, h1, h2, he⟩
  · exact absurd h0 h.1
  · exact absurd h.2.1 h1
  · exact absurd h.2.2 h2
  · exact he
/-- An own row is one block: its element is set. -/
theorem own_set {w : World} {B : Nat} {e : TypeId} {A : Option Addr} {n c : Nat} {cs : List Int} (h : Own w B e (.slice A n c) (nums .i64 cs)) {i : Nat} (hi : i < cs.length) (x : Int) :
    ∃ g, A = some ⟨g, 0, none⟩ ∧ B ≤ g ∧ w.cell? ⟨g, i, none⟩ = some (.int .i64 (el cs i)) ∧ w.frozen? ⟨g, i, none⟩ = false ∧ Own (w.setCell ⟨g, i, none⟩ (.int .i64 x)) B e (.slice A n c) (nums .i64 (cs.set i x)) := by
  have h1 := h.1
  rcases h.2 with ⟨h2, h3⟩ | ⟨g, cap, cur, h2, h3, h4, h5, h6, h7, h8⟩
  · rw [nums_length] at h3
    omega
  · injection h2 with h2 h9 h10
    subst h2 h9 h10
    have hb : Blk w g e cur.toList := by simpa [Blk] using h4
    have hil : i < cur.toList.length := by
      have := congrArg List.length h8
      rw [List.length_take, nums_length] at this
      omega
    have hget : cur.toList[i]? = some (.int .i64 (el cs i)) := by
      have := nums_get (k := .i64) (xs := cs) (i := i) hi
      rw [← h8, List.getElem?_take] at this
      split at this
      · exact this
      · cases this
    have hb2 := hb.set i (.int .i64 x)
    have l1 : (nums .i64 cs).length = cs.length := nums_length _ _
    have l2 : (nums .i64 (cs.set i x)).length = cs.length := by rw [nums_length, List.length_set]
    refine ⟨g, rfl, h3, hb.cell hget, hb.free i, ?_⟩
    unfold Own
    rw [l1] at h5 h8 ⊢
    rw [l2]
    refine ⟨by rw [l2, Nat.mul_one], .inr ⟨g, c, (cur.toList.set i (.int .i64 x)).toArray, rfl, h3, hb2, h5, h6, ?_, ?_⟩⟩
    · rw [List.size_toArray, List.length_set]
      simpa using h7
    · rw [List.toList_toArray, List.take_set, h8, nums_set]
set_option maxHeartbeats 16000000 in
set_option maxRecDepth 100000 in
theorem tableOnce_walk (a0 : Int) (a1 : Option Addr) (len1 cap1 : Nat) (z1 : List TAct) (w : World) (w0 : (Lit.int .i64 a0).wf = true) (w1 : IsActs w a1 len1 cap1 z1) :
    Calls Try.prog 3 #[.int .i64 a0, .slice a1 len1 cap1] w fun e w' => e = .returned (.bool true) ∧ Below w.heap.size w w' := by
  obtain ⟨h1, h2, h3, h4, h5⟩ := w1
  obtain ⟨M0, hM0⟩ : ∃ M0 : Nat, (M0 : Int) = pick a0 20 := ⟨(pick a0 20).toNat, by have := pick_bd a0 20 (by omega); omega⟩
  have hMb : M0 < 20 := by have := pick_bd a0 20 (by omega); omega
  have eM : IntKind.i64.wrap (1 + (M0 : Int)) = ((1 + M0 : Nat) : Int) := by rw [IntWalk.i64_in _ (by omega)]; omega
  have HM0 := Lib.hid hM0
  have HN := Lib.hid h1
  have HR := Lib.hid h4
  have HA : Hid (∀ i, i < len1 → ActOk (actAt z1 i)) := Lib.hid fun i hi => h5 _ (actAt_mem (by omega))
  have hm1 : len1 ≤ 9223372036854775807 := by unfold maxLen at h3; omega
  clear h1 h2 h3 h4 h5 hM0 w0
  go_enter Try.func3, Try.ntmps3
  go_wp2_with fail
  refine (knownF _).mono ?_
  rintro e w1 ⟨rfl, hb1⟩
  go_wp2_with fail
  refine (pickF _ a0 20 (by omega) (by omega)).mono ?_
  rintro e w2 ⟨rfl, rfl⟩
  rw [← HM0.out]
  go_wp2_with fail
  obtain ⟨M, hM⟩ : ∃ M : Nat, 1 + (M0 : Int) = (M : Int) := ⟨1 + M0, by omega⟩
  rw [hM]
  have hMb1 : 1 ≤ M := by omega
  have hMb2 : M ≤ 20 := by omega
  clear hM eM hMb HM0
  refine (new_ok _ M (by omega) (by omega)).mono ?_
  rintro e w2 ⟨⟨b, m, rfl, hb, hm, hq⟩, hb2⟩
  have hsz := hb1.size
  have HW2 := Lib.hid (below_then hb1 hb2)
  have HQ2 := Lib.hid hq
  have hwb : w.heap.size ≤ b := by omega
  have hwm : w.heap.size ≤ m := by omega
  obtain ⟨B, hB⟩ : ∃ B, B = w2.heap.size := ⟨_, rfl⟩
  have hbB : b < B := by rw [hB]; exact hq.lt.1
  have hmB : m < B := by rw [hB]; exact hq.lt.2
  have HBs : Hid (B ≤ w2.heap.size) := Lib.hid (by omega)
  clear hb hm hq hb1 hb2 hsz hB
  by_cases hlong : 150 < len1
  · have hd : decide ((150 : Int) < len1) = true := by simp; omega
    go_wp2
    go_ret
    exact ⟨rfl, HW2.out⟩
  have hd : decide ((150 : Int) < len1) = false := by simp; omega
  have hn150 : len1 ≤ 150 := by omega
  clear hlong
  have hb3 := below_new w2 (.cells #[] 26)
  have HS0 : Hid (∃ cs, cs.length = 0 ∧ lives cs = 0 ∧ Tab (w2.alloc (.cells #[] 26)) b m ⟨M, cs⟩ ∧ Own (w2.alloc (.cells #[] 26)) B 26 (.slice (some ⟨w2.heap.size, 0, none⟩) 0 0) (nums .i64 cs)) :=
    Lib.hid ⟨[], rfl, rfl, HQ2.out.below hb3, Own.empty _ _ _ HBs.out⟩
  have HW3 : Hid (Below w.heap.size w (w2.alloc (.cells #[] 26)) ∧ B ≤ (w2.alloc (.cells #[] 26)).heap.size) := Lib.hid ⟨below_then HW2.out hb3, Nat.le_trans HBs.out hb3.size⟩
  clear HQ2 HW2 HBs hb3
  go_wp2
  go_loopw [8, 9, 10] (fun v lv i wr => ∃ (k L : Nat) (cs : List Int), k ≤ len1 ∧ i = .int .i64 k ∧ lv = .int .i64 L ∧ cs.length ≤ k ∧ L ≤ M ∧ Hid (lives cs = L) ∧ Hid (Tab wr b m ⟨M, cs⟩) ∧ Hid (Own wr B 26 v (nums .i64 cs)) ∧ Hid (Below w.heap.size w wr ∧ B ≤ wr.heap.size)) (fun _ _ i _ => len1 - (intOf i).toNat)
  case atStart =>
    obtain ⟨cs, g1, g2, g3, g4⟩ := HS0.out
    exact ⟨0, 0, cs, by omega, rfl, rfl, by omega, by omega, Lib.hid g2, Lib.hid g3, Lib.hid g4, HW3⟩
  case round =>
    clear HS0 HW3 hd
    obtain ⟨k, L, cs, hk, rfl, rfl, hal, hLM, HLV, HQ, HO, HWB⟩ := hrel
    have HW := Lib.hid HWB.out.1
    have HBZ := Lib.hid HWB.out.2
    clear HWB
    obtain ⟨A8, c8, rfl, _, _, _⟩ := own_nums HO.out
    by_cases hlt : k < len1
    · have hdk : decide ((k : Int) < len1) = true := by simp; omega
      obtain ⟨ab, ao, rfl, hc⟩ := act_cells_all HR.out (i := k) (by rw [HN.out]; exact hlt)
      obtain ⟨p, hp⟩ : ∃ p, p = actAt z1 k := ⟨_, rfl⟩
      have hpo : ActOk p := by rw [hp]; exact HA.out k hlt
      rw [← hp] at hc
      obtain ⟨kd, pid, pc⟩ := p
      simp only at hc
      have hkd := hpo.kind
      simp only at hkd
      have HP := Lib.hid hpo
      have HC := Lib.hid hc
      obtain ⟨c0, c1, c2⟩ := hc wr HW.out
      clear hp hpo hc
      by_cases hev : kd.tmod 2 = 0
      · have hde : (kd.tmod 2 == 0) = true := by rw [beq_iff_eq]; exact hev
        have HOP := Lib.hid (openF wr b m ⟨M, cs⟩ HQ.out (by show lives cs ≤ M; rw [HLV.out]; exact hLM) (by show cs.length < 1000; omega))
        clear hev
        by_cases hfull : L = M
        · have HF := Lib.hid (openT_full (s := ⟨M, cs⟩) (by show lives cs = M; rw [HLV.out]; exact hfull))
          rw [HF.out] at HOP
          have hdl : decide ((L : Int) < M) = false := by simp; omega
          have hLM2 : M ≤ L := by omega
          clear hfull HF
          go_wp2_with fail
          refine HOP.out.mono ?_
          rintro e w4 ⟨rfl, hq4, hm4⟩
          have HO4 := Lib.hid (HO.out.mod hm4 (fun q hq e => by have := (HO.out.base q hq).1; omega))
          have HW4 := Lib.hid (below_mod HW.out hm4 (fun i hi => by omega))
          have HBZ4 := Lib.hid (Nat.le_trans HBZ.out hm4.size)
          have HQ4 := Lib.hid hq4
          clear hq4 hm4 HO HW HBZ HQ HOP
          obtain ⟨HQ, HO, HW, HBZ⟩ : Hid (Tab w4 b m ⟨M, cs⟩) ∧ Hid (Own w4 B 26 (.slice A8 cs.length c8) (nums .i64 cs)) ∧ Hid (Below w.heap.size w w4) ∧ Hid (B ≤ w4.heap.size) := ⟨HQ4, HO4, HW4, HBZ4⟩
          clear HQ4 HO4 HW4 HBZ4
          obtain ⟨cs', rfl⟩ : ∃ cs' : List Int, cs' = cs := ⟨_, rfl⟩
          obtain ⟨L', rfl⟩ : ∃ L' : Nat, L' = L := ⟨_, rfl⟩
          have hcl : cs'.length ≤ k + 1 := by omega
          have hlv : L' ≤ M := hLM
          have HL := HLV
          clear HLV hLM
          go_wp2_with fail
          refine (roomF _ b m ⟨M, cs'⟩ HQ.out).mono ?_
          rintro e wA ⟨rfl, hbA⟩
          have hll : (liveL (Ts.causes ⟨M, cs'⟩)).length = L' := HL.out
          rw [hll]
          have HQ := Lib.hid (HQ.out.below hbA)
          have HO := Lib.hid (HO.out.below hbA)
          have HW := Lib.hid (below_then HW.out hbA)
          have HBZ := Lib.hid (Nat.le_trans HBZ.out hbA.size)
          clear hbA hll
          go_wp2_with fail
          refine (lastF _ b m ⟨M, cs'⟩ HQ.out).mono ?_
          rintro e wB ⟨rfl, rfl⟩
          rw [show ((Ts.causes ⟨M, cs'⟩).length : Int) = (cs'.length : Int) from rfl]
          go_wp2
          go_roundw
          case rel => exact ⟨k + 1, L', cs', by omega, by go_num, by first | rfl | go_num, hcl, hlv, HL, HQ, HO, Lib.hid ⟨HW.out, HBZ.out⟩⟩
          case measure => simp [intOf]; omega
        · have HF := Lib.hid (openT_ok (s := ⟨M, cs⟩) (by show lives cs < M; rw [HLV.out]; omega))
          rw [HF.out] at HOP
          have hdl : decide ((L : Int) < M) = true := by simp; omega
          have hLM2 : L < M := by omega
          obtain ⟨cs', hcs'⟩ : ∃ cs', cs' = cs ++ [0] := ⟨_, rfl⟩
          obtain ⟨L', hL'⟩ : ∃ L', L' = L + 1 := ⟨_, rfl⟩
          have HL : Hid (lives cs' = L') := Lib.hid (by rw [hcs', hL', lives_push, HLV.out])
          have hcl : cs'.length ≤ k + 1 := by rw [hcs', List.length_append]; simp; omega
          have hlv : L' ≤ M := by omega
          have HCS := Lib.hid hcs'
          have e5 : IntKind.i64.wrap ((L : Int) + 1) = (L' : Int) := by rw [IntWalk.i64_in _ (by omega)]; omega
          clear hfull HF hcs' hL' HLV
          go_wp2_with fail
          refine HOP.out.mono ?_
          rintro e w4 ⟨rfl, hq4, hm4⟩
          have HO4 := Lib.hid (HO.out.mod hm4 (fun q hq e => by have := (HO.out.base q hq).1; omega))
          have HW4 := Lib.hid (below_mod HW.out hm4 (fun i hi => by omega))
          have HBZ4 := Lib.hid (Nat.le_trans HBZ.out hm4.size)
          have HQ4 : Hid (Tab w4 b m ⟨M, cs'⟩) := Lib.hid (by rw [HCS.out]; exact hq4)
          clear hq4 hm4 HO HW HBZ HQ HOP
          rw [show ((Ts.causes ⟨M, cs⟩).length : Int) + 1 = (cs.length : Int) + 1 from rfl]
          go_wp2_with (
            refine append_one rfl (.tmp 86) (.tmp 87) 29 26 (.int .i64 0) 8 rfl Try.underlying29 errno_info rfl B (.slice A8 cs.length c8) (.int .i64 0) (nums .i64 cs) rfl rfl rfl HO4.out HBZ4.out (by rw [nums_length]; simp [maxLen]; omega) (by rw [nums_length]; omega) ?_
            intro v7 w7 hown7 hg7
            have e6 : nums .i64 cs ++ [.int .i64 0] = nums .i64 cs' := by rw [HCS.out, nums_append]; rfl
            rw [e6] at hown7
            obtain ⟨A9, c9, rfl, _, _, _⟩ := own_nums hown7
            have hm7 := (Mod.refl (fun i => B ≤ i) w4).grown hg7 (fun q hq => .inr (HO4.out.base q hq).1)
            have HQ := Lib.hid (HQ4.out.mod hm7 (by omega) (by omega))
            have HW := Lib.hid (below_mod HW4.out hm7 (fun i hi => by omega))
            have HO := Lib.hid hown7
            have HBZ := Lib.hid (Nat.le_trans HBZ4.out hm7.size)
            clear hown7 hg7 hm7 HQ4 HW4 HO4 HBZ4 HCS e6)
          go_wp2_with fail
          refine (roomF _ b m ⟨M, cs'⟩ HQ.out).mono ?_
          rintro e wA ⟨rfl, hbA⟩
          have hll : (liveL (Ts.causes ⟨M, cs'⟩)).length = L' := HL.out
          rw [hll]
          have HQ := Lib.hid (HQ.out.below hbA)
          have HO := Lib.hid (HO.out.below hbA)
          have HW := Lib.hid (below_then HW.out hbA)
          have HBZ := Lib.hid (Nat.le_trans HBZ.out hbA.size)
          clear hbA hll
          go_wp2_with fail
          refine (lastF _ b m ⟨M, cs'⟩ HQ.out).mono ?_
          rintro e wB ⟨rfl, rfl⟩
          rw [show ((Ts.causes ⟨M, cs'⟩).length : Int) = (cs'.length : Int) from rfl]
          go_wp2
          go_roundw
          case rel => exact ⟨k + 1, L', cs', by omega, by go_num, by first | rfl | go_num, hcl, hlv, HL, HQ, HO, Lib.hid ⟨HW.out, HBZ.out⟩⟩
          case measure => simp [intOf]; omega
      · have hde : (kd.tmod 2 == 0) = false := beq_eq_false_iff_ne.2 hev
        clear hev
        have hpk := pick_bd pid ((cs.length : Int) + 1) (by omega)
        obtain ⟨P, hP⟩ : ∃ P : Nat, (P : Int) = pick pid ((cs.length : Int) + 1) := ⟨(pick pid ((cs.length : Int) + 1)).toNat, by omega⟩
        have hPb : P ≤ cs.length := by omega
        have HPK := Lib.hid hP
        have e1 : IntKind.i64.wrap ((cs.length : Int) + 1) = (cs.length : Int) + 1 := IntWalk.i64_in _ (by omega)
        have e2 : IntKind.i64.wrap (1 + (P : Int)) = 1 + (P : Int) := IntWalk.i64_in _ (by omega)
        have e3 : IntKind.i64.wrap (1 + (P : Int) - 1) = (P : Int) := by rw [IntWalk.i64_in _ (by omega)]; omega
        have HEN := Lib.hid (endF wr b m ⟨M, cs⟩ HQ.out (1 + (P : Int)) pc (WalkArith.wf_i64 (by omega)) HP.out.cause)
        clear hpk hP
        by_cases hmay : pc ≠ 0 ∧ P < cs.length ∧ el cs P = 0
        · have hin : 1 ≤ 1 + (P : Int) ∧ 1 + (P : Int) ≤ ((Ts.causes ⟨M, cs⟩).length : Int) := ⟨by omega, by show 1 + (P : Int) ≤ (cs.length : Int); omega⟩
          have hca : causeAt (Ts.causes ⟨M, cs⟩) (1 + (P : Int)) = 0 := by
            rw [causeAt_in hin, show (1 + (P : Int) - 1).toNat = P by omega]
            exact hmay.2.2
          have hET := endT_yes ⟨M, cs⟩ (1 + (P : Int)) pc ⟨hmay.1, hin, hca⟩
          rw [hET, show (1 + (P : Int) - 1).toNat = P by omega] at HEN
          obtain ⟨g, rfl, hgB, cg, fg, _⟩ := own_set HO.out hmay.2.1 pc
          have hls := lives_set cs P pc hmay.2.1 hmay.2.2 hmay.1
          have hpc : (pc == 0) = false := beq_eq_false_iff_ne.2 hmay.1
          have hpc2 : (pc != 0) = true := by rw [bne_iff_ne]; exact hmay.1
          have hPl : P < cs.length := hmay.2.1
          have hdP : decide (1 + (P : Int) ≤ cs.length) = true := by simp; omega
          rw [hmay.2.2] at cg
          have HLV2 := HLV.out
          have hL1 : 1 ≤ L := by omega
          obtain ⟨L', hL'⟩ : ∃ L' : Nat, L' + 1 = L := ⟨L - 1, by omega⟩
          have HL : Hid (lives (cs.set P pc) = L') := Lib.hid (by omega)
          have hlv : L' ≤ M := by omega
          have e4 : IntKind.i64.wrap ((L : Int) - 1) = (L' : Int) := by rw [IntWalk.i64_in _ (by omega)]; omega
          clear hin hca hET hls hmay HLV HLV2
          go_wp2_with fail
          refine (pickF _ pid ((cs.length : Int) + 1) (by omega) (by omega)).mono ?_
          rintro e w4 ⟨rfl, rfl⟩
          rw [← HPK.out]
          go_wp2_with fail
          refine HEN.out.mono ?_
          rintro e w5 ⟨rfl, hq5, hm5⟩
          have HO5 := Lib.hid (HO.out.mod hm5 (fun q hq e => by have := (HO.out.base q hq).1; omega))
          have HW5 := Lib.hid (below_mod HW.out hm5 (fun i hi => by omega))
          have HBZ5 := Lib.hid (Nat.le_trans HBZ.out hm5.size)
          have HQ5 : Hid (Tab w5 b m ⟨M, cs.set P pc⟩) := Lib.hid hq5
          obtain ⟨d0, d1, d2⟩ := HC.out w5 HW5.out
          obtain ⟨g', hgg, hgB2, cg5, fg5, ho6⟩ := own_set HO5.out hPl pc
          injection hgg with hgg
          injection hgg with hgg _ _
          subst hgg
          have hcg5 : w5.cell? ⟨g, P, none⟩ = some (.int .i64 0) := by
            have h1 := hm5.block g (World.block_lt_of_cell? _ _ cg) (by omega)
            rw [World.cell?_of_block (w := wr) (a := ⟨g, P, none⟩) h1]
            exact cg
          obtain ⟨w6, hw6⟩ : ∃ w6, w6 = w5.setCell ⟨g, P, none⟩ (.int .i64 pc) := ⟨_, rfl⟩
          obtain ⟨cs', hcs'⟩ : ∃ cs', cs' = cs.set P pc := ⟨_, rfl⟩
          have hlen : cs.length = cs'.length := by rw [hcs', List.length_set]
          have hm6 : Mod (fun i => B ≤ i) w5 w6 := by rw [hw6]; exact (Mod.refl _ _).set (.inr hgB) _
          have HQ : Hid (Tab w6 b m ⟨M, cs'⟩) := Lib.hid (by rw [hcs']; exact HQ5.out.mod hm6 (by omega) (by omega))
          have HO : Hid (Own w6 B 26 (.slice (some ⟨g, 0, none⟩) cs'.length c8) (nums .i64 cs')) := Lib.hid (by rw [← hlen, hcs', hw6]; exact ho6)
          have HW := Lib.hid (below_mod HW5.out hm6 (fun i hi => by omega))
          have HBZ := Lib.hid (Nat.le_trans HBZ5.out hm6.size)
          rw [← hcs'] at HL
          have hcl : cs'.length ≤ k + 1 := by omega
          have HW6 := Lib.hid hw6
          have HLN := Lib.hid hlen
          clear hq5 hm5 hm6 ho6 cg5 cg c0 c1 c2 hcs' HQ5 HO5 HW5 HBZ5 HEN hw6 hlen
          go_wp2_with fail
          rw [← HW6.out, HLN.out]
          go_wp2_with fail
          refine (roomF _ b m ⟨M, cs'⟩ HQ.out).mono ?_
          rintro e wA ⟨rfl, hbA⟩
          have hll : (liveL (Ts.causes ⟨M, cs'⟩)).length = L' := HL.out
          rw [hll]
          have HQ := Lib.hid (HQ.out.below hbA)
          have HO := Lib.hid (HO.out.below hbA)
          have HW := Lib.hid (below_then HW.out hbA)
          have HBZ := Lib.hid (Nat.le_trans HBZ.out hbA.size)
          clear hbA hll
          go_wp2_with fail
          refine (lastF _ b m ⟨M, cs'⟩ HQ.out).mono ?_
          rintro e wB ⟨rfl, rfl⟩
          rw [show ((Ts.causes ⟨M, cs'⟩).length : Int) = (cs'.length : Int) from rfl]
          go_wp2
          go_roundw
          case rel => exact ⟨k + 1, L', cs', by omega, by go_num, by first | rfl | go_num, hcl, hlv, HL, HQ, HO, Lib.hid ⟨HW.out, HBZ.out⟩⟩
          case measure => simp [intOf]; omega
        · have hnm : ¬ (pc ≠ 0 ∧ (1 ≤ 1 + (P : Int) ∧ 1 + (P : Int) ≤ ((Ts.causes ⟨M, cs⟩).length : Int)) ∧ causeAt (Ts.causes ⟨M, cs⟩) (1 + (P : Int)) = 0) := by
            rintro ⟨q1, q2, q3⟩
            rw [causeAt_in q2, show (1 + (P : Int) - 1).toNat = P by omega] at q3
            have q2 : 1 + (P : Int) ≤ (cs.length : Int) := q2.2
            exact hmay ⟨q1, by omega, q3⟩
          obtain ⟨hE1, hE2⟩ := endT_no ⟨M, cs⟩ (1 + (P : Int)) pc hnm
          obtain ⟨er, her⟩ : ∃ er, er = (endT ⟨M, cs⟩ (1 + (P : Int)) pc).2 := ⟨_, rfl⟩
          rw [hE1, ← her] at HEN
          rw [← her] at hE2
          clear hnm hE1 her
          by_cases hPl : P < cs.length
          · have hdP : decide (1 + (P : Int) ≤ cs.length) = true := by simp; omega
            by_cases hz : el cs P = 0
            · have hpc : pc = 0 := by
                by_cases h : pc = 0
                · exact h
                · exact absurd ⟨h, hPl, hz⟩ hmay
              subst hpc
              clear hmay
              go_wp2_with fail
              refine (pickF _ pid ((cs.length : Int) + 1) (by omega) (by omega)).mono ?_
              rintro e w4 ⟨rfl, rfl⟩
              rw [← HPK.out]
              go_wp2_with fail
              refine HEN.out.mono ?_
              rintro e w5 ⟨rfl, hq5, hm5⟩
              have HO5 := Lib.hid (HO.out.mod hm5 (fun q hq e => by have := (HO.out.base q hq).1; omega))
              have HW5 := Lib.hid (below_mod HW.out hm5 (fun i hi => by omega))
              have HBZ5 := Lib.hid (Nat.le_trans HBZ.out hm5.size)
              have HQ5 := Lib.hid hq5
              obtain ⟨d0, d1, d2⟩ := HC.out w5 HW5.out
              obtain ⟨g, rfl, hgB, cg, _, _⟩ := own_set HO5.out hPl 0
              rw [hz] at cg
              clear hz hq5 hm5 HO HW HBZ HQ HEN c0 c1 c2
              obtain ⟨HQ, HO, HW, HBZ⟩ := And.intro HQ5 (And.intro HO5 (And.intro HW5 HBZ5))
              clear HQ5 HO5 HW5 HBZ5
              obtain ⟨cs', rfl⟩ : ∃ cs' : List Int, cs' = cs := ⟨_, rfl⟩
              obtain ⟨L', rfl⟩ : ∃ L' : Nat, L' = L := ⟨_, rfl⟩
              have hcl : cs'.length ≤ k + 1 := by omega
              have hlv : L' ≤ M := hLM
              have HL := HLV
              clear HLV hLM
              go_wp2_with fail
              refine (roomF _ b m ⟨M, cs'⟩ HQ.out).mono ?_
              rintro e wA ⟨rfl, hbA⟩
              have hll : (liveL (Ts.causes ⟨M, cs'⟩)).length = L' := HL.out
              rw [hll]
              have HQ := Lib.hid (HQ.out.below hbA)
              have HO := Lib.hid (HO.out.below hbA)
              have HW := Lib.hid (below_then HW.out hbA)
              have HBZ := Lib.hid (Nat.le_trans HBZ.out hbA.size)
              clear hbA hll
              go_wp2_with fail
              refine (lastF _ b m ⟨M, cs'⟩ HQ.out).mono ?_
              rintro e wB ⟨rfl, rfl⟩
              rw [show ((Ts.causes ⟨M, cs'⟩).length : Int) = (cs'.length : Int) from rfl]
              go_wp2
              go_roundw
              case rel => exact ⟨k + 1, L', cs', by omega, by go_num, by first | rfl | go_num, hcl, hlv, HL, HQ, HO, Lib.hid ⟨HW.out, HBZ.out⟩⟩
              case measure => simp [intOf]; omega
            · have hz1 : (el cs P == 0) = false := beq_eq_false_iff_ne.2 hz
              clear hmay hz
              go_wp2_with fail
              refine (pickF _ pid ((cs.length : Int) + 1) (by omega) (by omega)).mono ?_
              rintro e w4 ⟨rfl, rfl⟩
              rw [← HPK.out]
              go_wp2_with fail
              refine HEN.out.mono ?_
              rintro e w5 ⟨rfl, hq5, hm5⟩
              have HO5 := Lib.hid (HO.out.mod hm5 (fun q hq e => by have := (HO.out.base q hq).1; omega))
              have HW5 := Lib.hid (below_mod HW.out hm5 (fun i hi => by omega))
              have HBZ5 := Lib.hid (Nat.le_trans HBZ.out hm5.size)
              have HQ5 := Lib.hid hq5
              obtain ⟨d0, d1, d2⟩ := HC.out w5 HW5.out
              obtain ⟨g, rfl, hgB, cg, _, _⟩ := own_set HO5.out hPl 0
              clear hq5 hm5 HO HW HBZ HQ HEN c0 c1 c2
              obtain ⟨HQ, HO, HW, HBZ⟩ := And.intro HQ5 (And.intro HO5 (And.intro HW5 HBZ5))
              clear HQ5 HO5 HW5 HBZ5
              obtain ⟨cs', rfl⟩ : ∃ cs' : List Int, cs' = cs := ⟨_, rfl⟩
              obtain ⟨L', rfl⟩ : ∃ L' : Nat, L' = L := ⟨_, rfl⟩
              have hcl : cs'.length ≤ k + 1 := by omega
              have hlv : L' ≤ M := hLM
              have HL := HLV
              clear HLV hLM
              go_wp2_with fail
              refine (roomF _ b m ⟨M, cs'⟩ HQ.out).mono ?_
              rintro e wA ⟨rfl, hbA⟩
              have hll : (liveL (Ts.causes ⟨M, cs'⟩)).length = L' := HL.out
              rw [hll]
              have HQ := Lib.hid (HQ.out.below hbA)
              have HO := Lib.hid (HO.out.below hbA)
              have HW := Lib.hid (below_then HW.out hbA)
              have HBZ := Lib.hid (Nat.le_trans HBZ.out hbA.size)
              clear hbA hll
              go_wp2_with fail
              refine (lastF _ b m ⟨M, cs'⟩ HQ.out).mono ?_
              rintro e wB ⟨rfl, rfl⟩
              rw [show ((Ts.causes ⟨M, cs'⟩).length : Int) = (cs'.length : Int) from rfl]
              go_wp2
              go_roundw
              case rel => exact ⟨k + 1, L', cs', by omega, by go_num, by first | rfl | go_num, hcl, hlv, HL, HQ, HO, Lib.hid ⟨HW.out, HBZ.out⟩⟩
              case measure => simp [intOf]; omega
          · have hdP : decide (1 + (P : Int) ≤ cs.length) = false := by simp; omega
            clear hmay
            go_wp2_with fail
            refine (pickF _ pid ((cs.length : Int) + 1) (by omega) (by omega)).mono ?_
            rintro e w4 ⟨rfl, rfl⟩
            rw [← HPK.out]
            go_wp2_with fail
            refine HEN.out.mono ?_
            rintro e w5 ⟨rfl, hq5, hm5⟩
            have HO5 := Lib.hid (HO.out.mod hm5 (fun q hq e => by have := (HO.out.base q hq).1; omega))
            have HW5 := Lib.hid (below_mod HW.out hm5 (fun i hi => by omega))
            have HBZ5 := Lib.hid (Nat.le_trans HBZ.out hm5.size)
            have HQ5 := Lib.hid hq5
            obtain ⟨d0, d1, d2⟩ := HC.out w5 HW5.out
            clear hq5 hm5 HO HW HBZ HQ HEN c0 c1 c2
            obtain ⟨HQ, HO, HW, HBZ⟩ := And.intro HQ5 (And.intro HO5 (And.intro HW5 HBZ5))
            clear HQ5 HO5 HW5 HBZ5
            obtain ⟨cs', rfl⟩ : ∃ cs' : List Int, cs' = cs := ⟨_, rfl⟩
            obtain ⟨L', rfl⟩ : ∃ L' : Nat, L' = L := ⟨_, rfl⟩
            have hcl : cs'.length ≤ k + 1 := by omega
            have hlv : L' ≤ M := hLM
            have HL := HLV
            clear HLV hLM
            go_wp2_with fail
            refine (roomF _ b m ⟨M, cs'⟩ HQ.out).mono ?_
            rintro e wA ⟨rfl, hbA⟩
            have hll : (liveL (Ts.causes ⟨M, cs'⟩)).length = L' := HL.out
            rw [hll]
            have HQ := Lib.hid (HQ.out.below hbA)
            have HO := Lib.hid (HO.out.below hbA)
            have HW := Lib.hid (below_then HW.out hbA)
            have HBZ := Lib.hid (Nat.le_trans HBZ.out hbA.size)
            clear hbA hll
            go_wp2_with fail
            refine (lastF _ b m ⟨M, cs'⟩ HQ.out).mono ?_
            rintro e wB ⟨rfl, rfl⟩
            rw [show ((Ts.causes ⟨M, cs'⟩).length : Int) = (cs'.length : Int) from rfl]
            go_wp2
            go_roundw
            case rel => exact ⟨k + 1, L', cs', by omega, by go_num, by first | rfl | go_num, hcl, hlv, HL, HQ, HO, Lib.hid ⟨HW.out, HBZ.out⟩⟩
            case measure => simp [intOf]; omega
    · have hdk : decide ((k : Int) < len1) = false := by simp; omega
      have hcb : cs.length ≤ 150 := by omega
      go_wp2_with fail
      refine (liveF _ b m ⟨M, cs⟩ HQ.out).mono ?_
      rintro e w4 ⟨v, rfl, hv, hb4⟩
      obtain ⟨A6, c6, rfl, _, _, hf6⟩ := own_nums hv
      have hll : (liveL (Ts.causes ⟨M, cs⟩)).length = L := HLV.out
      rw [hll]
      have HQ4 := Lib.hid (HQ.out.below hb4)
      have HO4 := Lib.hid (HO.out.below hb4)
      have HW4 := Lib.hid (below_then HW.out hb4)
      have HF4 : Hid (Rd w4 A6 (nums .i64 (liveL cs))) := Lib.hid hf6.rd
      clear hv hb4 hf6 hll HQ HO HW HBZ
      go_wp2
      obtain ⟨wo, rfl⟩ : ∃ wo : World, wo = w4 := ⟨_, rfl⟩
      go_loopw [16, 18] (fun t i wr => ∃ (q t0 : Nat), q ≤ cs.length ∧ i = .int .i64 ((q : Int) + 1) ∧ t = .int .i64 t0 ∧ t0 ≤ q ∧ Hid (t0 = (liveK cs q).length) ∧ Hid (Tab wr b m ⟨M, cs⟩) ∧ Hid (Own wr B 26 (.slice A8 cs.length c8) (nums .i64 cs)) ∧ Hid (Rd wr A6 (nums .i64 (liveL cs))) ∧ Hid (Below w.heap.size w wr)) (fun _ i _ => cs.length + 1 - (intOf i).toNat)
      case atStart => exact ⟨0, 0, by omega, rfl, rfl, by omega, Lib.hid rfl, HQ4, HO4, HF4, HW4⟩
      case round =>
        clear HQ4 HO4 HF4 HW4 hdk
        obtain ⟨q, t, hq, rfl, rfl, htq, HT, HQ, HO, HF, HW⟩ := hrel
        by_cases hlq : q < cs.length
        · have hdq : decide ((q : Int) + 1 ≤ cs.length) = true := by simp; omega
          have e1 : IntKind.i64.wrap ((q : Int) + 1 - 1) = (q : Int) := by rw [IntWalk.i64_in _ (by omega)]; omega
          obtain ⟨g, rfl, hgB, cg, _, _⟩ := own_set HO.out hlq 0
          have HEN := Lib.hid (endedF wr b m ⟨M, cs⟩ HQ.out ((q : Int) + 1) (wf_id q (by omega)) (el cs q) 0 (causeAt_succ cs q hlq) (if_pos ⟨by omega, by show (q : Int) + 1 ≤ (cs.length : Int); omega⟩))
          go_wp2_with fail
          refine HEN.out.mono ?_
          rintro e w5 ⟨rfl, hb5⟩
          have HQ5 := Lib.hid (HQ.out.below hb5)
          have HO5 := Lib.hid (HO.out.below hb5)
          have HF5 := Lib.hid (HF.out.below hb5)
          have HW5 := Lib.hid (below_then HW.out hb5)
          have cg5 : w5.cell? ⟨g, q, none⟩ = some (.int .i64 (el cs q)) := by
            obtain ⟨g', hgg, _, cg', _, _⟩ := own_set HO5.out hlq 0
            injection hgg with hgg
            injection hgg with hgg _ _
            subst hgg
            exact cg'
          clear hb5 HQ HO HF HW HEN cg
          by_cases hz : el cs q = 0
          · obtain ⟨hat1, hat2⟩ := liveL_at cs q hlq hz
            rw [← HT.out] at hat1 hat2
            have HT2 : Hid (t + 1 = (liveK cs (q + 1)).length) := Lib.hid (by rw [liveK, if_pos hz, List.length_append, ← HT.out]; rfl)
            have htL : t < L := by
              have h1 : (liveL cs).length = L := HLV.out
              omega
            obtain ⟨h6, o6, rfl, _, hc6⟩ := HF5.out.at_ (i := t) (by rw [nums_length]; exact hat1)
            have c6t : w5.cell? ⟨h6, o6 + t, none⟩ = some (.int .i64 ((q : Int) + 1)) := by
              have := hc6 t _ (nums_get hat1)
              rwa [hat2] at this
            have hdt : decide ((L : Int) ≤ t) = false := by simp; omega
            rw [hz] at cg5
            clear hat1 hat2 hc6 hz
            go_wp2
            go_roundw
            case rel => exact ⟨q + 1, t + 1, by omega, by go_num, by go_num, by omega, HT2, HQ5, HO5, HF5, HW5⟩
            case measure => simp [intOf]; omega
          · have hz1 : (el cs q == 0) = false := beq_eq_false_iff_ne.2 hz
            have HT2 : Hid (t = (liveK cs (q + 1)).length) := Lib.hid (by rw [liveK, if_neg hz]; exact HT.out)
            clear hz
            go_wp2
            go_roundw
            case rel => exact ⟨q + 1, t, by omega, by go_num, rfl, by omega, HT2, HQ5, HO5, HF5, HW5⟩
            case measure => simp [intOf]; omega
        · have hdq : decide ((q : Int) + 1 ≤ cs.length) = false := by simp; omega
          obtain rfl : t = L := by
            have h1 : (liveL cs).length = L := HLV.out
            have h2 : q = cs.length := by omega
            have h3 := HT.out
            rw [h2] at h3
            exact h3.trans h1
          go_wp2
          go_ret
          exact ⟨rfl, HW.out⟩
end Go.Proofs.Ytlebigefknhgeaa
