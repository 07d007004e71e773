/- The walk of QueueRead: what is read is what came, bit by bit, in whatever pieces; for every input. Printed by genT.py. -/
import Derived.Test.YtnnchmlkgofhpaaQueS
set_option linter.unusedVariables false
set_option linter.unusedSimpArgs false
namespace Go.Proofs.Ytnnchmlkgofhpaa
open Go.RowKit

theorem drop_bytes {l : List Int} (h : bytes l) (n : Nat) : bytes (l.drop n) := fun x hx => h x (List.mem_of_mem_drop hx)
theorem take_bytes {l : List Int} (h : bytes l) (n : Nat) : bytes (l.take n) := fun x hx => h x (List.mem_of_mem_take hx)
theorem app_bytes {l m : List Int} (h : bytes l) (h' : bytes m) : bytes (l ++ m) := fun x hx => (List.mem_append.1 hx).elim (h x) (h' x)
theorem u8_cells {xs : List Int} : ∀ v ∈ nums .u8 xs, v.oneCell' = true := by
  intro v hv
  obtain ⟨x, _, rfl⟩ := List.mem_map.1 hv
  rfl

theorem own_nums {w : World} {B : Nat} {e : TypeId} {v : Value} {k : IntKind} {xs : List Int} (h : Own w B e v (nums k xs)) : ∃ A c, v = .slice A xs.length c ∧ xs.length ≤ c ∧ c ≤ maxLen ∧ Rd w A (nums k xs) := by
  obtain ⟨A, c, h1, h2, h3, h4⟩ := h.rd
  rw [nums_length] at h1 h2
  exact ⟨A, c, h1, h2, h3, h4⟩
/-- The cells of an act, in whatever world comes of this one. -/
theorem act_cells_all {w : World} {A : Option Addr} {l : List QAct} (hr : Rd w A (actsV l)) {i : Nat} (hi : i < l.length) :
    ∃ b o, A = some ⟨b, o, none⟩ ∧ ∀ W, Below w.heap.size w W → W.cell? ⟨b, o + i * 3, none⟩ = some (.int .i64 (actAt l i).kind) ∧ W.cell? ⟨b, o + i * 3 + 1, none⟩ = some (.int .i64 (actAt l i).n) ∧
      W.cell? ⟨b, o + i * 3 + 2, none⟩ = some (.slice (actAt l i).a (actAt l i).len (actAt l i).cap) := by
  obtain ⟨b, o, h, h0, h1, h2⟩ := act_cells hr hi
  refine ⟨b, o, h, fun W hW => ?_⟩
  have hb : b < w.heap.size := World.block_lt_of_cell? w _ h0
  exact ⟨(hW.cell (p := ⟨b, o + i * 3, none⟩) hb).trans h0, (hW.cell (p := ⟨b, o + i * 3 + 1, none⟩) hb).trans h1, (hW.cell (p := ⟨b, o + i * 3 + 2, none⟩) hb).trans h2⟩

set_option maxHeartbeats 16000000 in
set_option maxRecDepth 100000 in
theorem queueRead_walk (a0 : Int) (a1 : Option Addr) (len1 cap1 : Nat) (z1 : List QAct) (w : World) (w0 : (Lit.int .i64 a0).wf = true) (w1 : IsActs w a1 len1 cap1 z1) :
    Calls Try.prog 5 #[.int .i64 a0, .slice a1 len1 cap1] w fun e w' => e = .returned (.bool true) ∧ Below w.heap.size w w' := by
  obtain ⟨h1, h2, h3, h4, h5⟩ := w1
  obtain ⟨M0, hM0⟩ : ∃ M0 : Nat, (M0 : Int) = pick a0 40 := ⟨(pick a0 40).toNat, by have := pick_bd a0 40 (by omega); omega⟩
  have hMb : M0 < 40 := by have := pick_bd a0 40 (by omega); omega
  have eM : IntKind.i64.wrap (1 + (M0 : Int)) = ((1 + M0 : Nat) : Int) := by rw [IntWalk.i64_in _ (by omega)]; omega
  have HM0 := Lib.hid hM0
  have HN := Lib.hid h1
  have HR : Hid (∀ W, Below w.heap.size w W → Rd W a1 (actsV z1)) := Lib.hid fun W hW => h4.below hW
  have HA : Hid (∀ i, i < len1 → ActOk w (actAt z1 i)) := Lib.hid fun i hi => h5 _ (actAt_mem (by omega))
  have HLF : Hid (∀ W, Below w.heap.size w W → Calls Try.prog 21 #[.slice a1 len1 cap1] W fun e w' => (e = .returned (.bool true) ∨ (e = .returned (.bool false) ∧ len1 ≤ 60 ∧ ∀ i, i < len1 → (actAt z1 i).len ≤ 100)) ∧ w' = W) :=
    Lib.hid fun W hW => longF W a1 len1 cap1 z1 h1 (by omega) (h4.below hW) (fun p hp => by
      have := h5 p hp
      exact ⟨this.kind, this.n, this.len, this.cap, this.max, this.rd.below hW, this.bytes⟩)
  have hm1 : len1 ≤ 9223372036854775807 := by unfold maxLen at h3; omega
  obtain ⟨i0, hi, hzz⟩ := Option.map_eq_some_iff.1 q_info
  have HI := Lib.hid q_info
  clear h1 h2 h3 h4 h5 hM0 w0 hi hzz
  go_enter Try.func5, Try.ntmps5
  go_wp2_with fail
  refine (knownF _).mono ?_
  rintro e w1 ⟨rfl, hb1⟩
  go_wp2_with fail
  refine (pickF _ a0 40 (by omega) (by omega)).mono ?_
  rintro e w2 ⟨rfl, rfl⟩
  rw [← HM0.out]
  go_wp2_with fail
  obtain ⟨M, hM⟩ : ∃ M : Nat, 1 + (M0 : Int) = (M : Int) := ⟨1 + M0, by omega⟩
  rw [hM]
  have hMb1 : 1 ≤ M := by omega
  have hMb2 : M ≤ 40 := by omega
  clear hM eM hMb HM0
  refine (new_ok _ M (by omega) (by omega)).mono ?_
  rintro e w2 ⟨⟨b, r, rfl, hb, hr, hq⟩, hb2⟩
  have hsz := hb1.size
  have HW2 := Lib.hid (below_then hb1 hb2)
  have HQ2 := Lib.hid hq
  have hwb : w.heap.size ≤ b := by omega
  have hwr : w.heap.size ≤ r := by omega
  obtain ⟨B, hB⟩ : ∃ B, B = w2.heap.size := ⟨_, rfl⟩
  have hbB : b < B := by rw [hB]; exact hq.lt.1
  have hrB : r < B := by rw [hB]; exact hq.lt.2
  have HBs : Hid (B ≤ w2.heap.size) := Lib.hid (by omega)
  clear hb hr hq hb1 hb2 hB hsz
  go_wp2_with fail
  refine (HLF.out _ HW2.out).mono ?_
  rintro e w3 ⟨hlong, rfl⟩
  rcases hlong with rfl | ⟨rfl, hn60, hl100⟩
  · go_wp2
    go_ret
    exact ⟨rfl, HW2.out⟩
  have HL := Lib.hid hl100
  clear hl100 HLF
  have HS0 : Hid (∃ s all, Beside s all 0 ∧ Que w3 b r s ∧ s.ended = false ∧ s.most = M ∧ bytes all ∧ all.length = 0 ∧ Own w3 B 5 (.slice none 0 0) (nums .u8 all)) := Lib.hid ⟨_, [], Beside.new M, HQ2.out, rfl, rfl, fun x hx => by simp at hx, rfl, Own.nil _ _ _⟩
  clear HQ2
  go_wp2
  go_loopw [8, 9, 10] (fun v q i wr => ∃ (k rd : Nat) (s : Qs) (all : List Int), k ≤ len1 ∧ i = .int .i64 k ∧ q = .int .i64 rd ∧ all.length ≤ 100 * k ∧ Hid (Beside s all rd) ∧ Hid (Que wr b r s) ∧ Hid (s.ended = false ∧ s.most = M ∧ bytes all) ∧ Hid (Own wr B 5 v (nums .u8 all)) ∧ Hid (Below w.heap.size w wr ∧ B ≤ wr.heap.size)) (fun _ _ i _ => len1 - (intOf i).toNat)
  case atStart =>
    obtain ⟨s, all, g1, g2, g3, g4, g5, g6, g7⟩ := HS0.out
    exact ⟨0, 0, s, all, by omega, rfl, rfl, by omega, Lib.hid g1, Lib.hid g2, Lib.hid ⟨g3, g4, g5⟩, Lib.hid g7, Lib.hid ⟨HW2.out, HBs.out⟩⟩
  case round =>
    clear HS0 HW2 HBs
    obtain ⟨k, rd, s, all, hk, rfl, rfl, hal, HBE, HQ, HE, HO, HWB⟩ := hrel
    have HW := Lib.hid HWB.out.1
    have HBB := Lib.hid HWB.out.2
    clear HWB
    obtain ⟨A8, c8, rfl, _, _, _⟩ := own_nums HO.out
    have hle := HBE.out.le
    by_cases hlt : k < len1
    · have hdk : decide ((k : Int) < len1) = true := by simp; omega
      obtain ⟨ab, ao, rfl, hc⟩ := act_cells_all (HR.out w (Below.refl _ _)) (i := k) (by rw [HN.out]; exact hlt)
      obtain ⟨p, hp⟩ : ∃ p, p = actAt z1 k := ⟨_, rfl⟩
      have hpo : ActOk w p := by rw [hp]; exact HA.out k hlt
      have hpl : p.len ≤ 100 := by rw [hp]; exact HL.out k hlt
      rw [← hp] at hc
      obtain ⟨kd, pn, pa, pl, pc, pb⟩ := p
      simp only at hc hpl
      have hkd := hpo.kind
      have hpn := hpo.n
      have hpc := hpo.cap
      have hpm := hpo.max
      unfold maxLen at hpm
      simp only at hkd hpn hpc hpm
      have HP := Lib.hid hpo
      have HPB : Hid (pb.length = pl) := Lib.hid hpo.len
      have HC := Lib.hid hc
      obtain ⟨c0, c1, c2⟩ := hc wr HW.out
      clear hp hpo hc
      by_cases hev : kd.tmod 2 = 0
      · have hde : (kd.tmod 2 == 0) = true := by rw [beq_iff_eq]; exact hev
        clear hev
        go_wp2_with fail
        refine (feed_ok _ b r s HQ.out HE.out.1 pa pl pc pb HP.out.len (by simp [maxLen]; omega) (HP.out.rd.base HW.out hwb hwr) HP.out.bytes (by have := HBE.out.came; omega)).mono ?_
        rintro e w5 ⟨rfl, hq5, hm5⟩
        obtain ⟨K, hK⟩ : ∃ K : Nat, K = min pl (s.most - s.data.length) := ⟨_, rfl⟩
        rw [← hK] at hq5 ⊢
        have hKl : K ≤ pl := by omega
        have HQ5 := Lib.hid hq5
        have HO5 := Lib.hid (HO.out.mod hm5 (fun q hq e => by have := (HO.out.base q hq).1; omega))
        have HW5 := Lib.hid (below_mod HW.out hm5 (fun i hi => by omega))
        have HB5 := Lib.hid (HBE.out.fed pb K (by rw [HPB.out]; exact hKl))
        have HP5 : Hid (Rd w5 pa (nums .u8 pb)) := Lib.hid (HP.out.rd.below HW5.out)
        have HBX5 : Hid (B ≤ w5.heap.size) := Lib.hid (Nat.le_trans HBB.out hm5.size)
        have HKK := Lib.hid hK
        obtain ⟨d0, d1, d2⟩ := HC.out w5 HW5.out
        clear hK hq5 hm5 c0 c1 c2 HQ HO HW HBE HBB
        by_cases hfull : K < pl
        · have hdf : decide ((K : Int) < pl) = true := by simp; omega
          go_wp2_with fail
          refine (freeF _ b r _ HQ5.out).mono ?_
          rintro e w6 ⟨rfl, hb6⟩
          have e0 : (((fedQ s pb K).most - (fedQ s pb K).data.length : Nat) : Int) = 0 := by
            have h1 : (fedQ s pb K).data.length = s.data.length + K := by
              show (s.data ++ pb.take K).length = _
              rw [List.length_append, List.length_take, HPB.out]
              omega
            have h2 : (fedQ s pb K).most = s.most := rfl
            have h3 := HKK.out
            rw [h1, h2]
            omega
          rw [e0]
          have HQX := Lib.hid (HQ5.out.below hb6)
          have HWX := Lib.hid (below_then HW5.out hb6)
          have HOX := Lib.hid (HO5.out.below hb6)
          have HPX := Lib.hid (HP5.out.below hb6)
          have HBX := Lib.hid (Nat.le_trans HBX5.out hb6.size)
          obtain ⟨d0, d1, d2⟩ := HC.out w6 HWX.out
          clear e0 hb6 HQ5 HW5 HO5 HP5 HBX5 HKK
          obtain ⟨s', hs'⟩ : ∃ s', s' = fedQ s pb K := ⟨_, rfl⟩
          obtain ⟨all', hall'⟩ : ∃ all', all' = all ++ pb.take K := ⟨_, rfl⟩
          obtain ⟨rd', hrd'⟩ : ∃ rd', rd' = rd := ⟨_, rfl⟩
          have HE7 : Hid (s'.ended = false ∧ s'.most = M ∧ bytes all') := Lib.hid (by rw [hs', hall']; exact ⟨HE.out.1, HE.out.2.1, app_bytes HE.out.2.2 (take_bytes HP.out.bytes K)⟩)
          have HLEN : Hid (all'.length ≤ 100 * (k + 1)) := Lib.hid (by rw [hall', List.length_append, List.length_take]; omega)
          have HBE : Hid (Beside s' all' rd') := Lib.hid (by rw [hs', hall', hrd']; exact HB5.out)
          have HALL := Lib.hid hall'
          rw [← hs'] at HQX
          rw [← hrd']
          clear HE hs' hall' hrd' HB5 hle
          go_wp2_with (
            refine append_many rfl (.tmp 89) (.tmp 96) 22 5 (.int .u8 0) 1 rfl Try.underlying22 q_info rfl B (.slice A8 all.length c8) (nums .u8 all) pa K pc (nums .u8 (pb.take K)) rfl rfl HOX.out (by rw [nums_length, List.length_take, HPB.out]; exact Nat.min_eq_left hKl) (HPX.out.upto (List.take_prefix _ _)) u8_cells HBX.out (by rw [nums_length]; simp [maxLen]; omega) (by rw [nums_length]; omega) ?_
            intro v7 w7 hown7 hg7
            rw [← nums_append, ← HALL.out] at hown7
            obtain ⟨A9, c9, rfl, _, _, _⟩ := own_nums hown7
            have hm7 := (Mod.refl (fun i => B ≤ i) _).grown hg7 (fun q hq => .inr (HOX.out.base q hq).1)
            have HQ7 := Lib.hid (HQX.out.mod hm7 (by omega) (by omega))
            have HW7 := Lib.hid (below_mod HWX.out hm7 (fun i hi => by omega))
            have HO7 := Lib.hid hown7
            have HBZ := Lib.hid (Nat.le_trans HBX.out hm7.size)
            clear hown7 hg7 hm7 HQX HWX HOX HPX HBX HALL)
          obtain ⟨HQ, HO, HW, HE⟩ : Hid (Que w7 b r s') ∧ Hid (Own w7 B 5 (.slice A9 all'.length c9) (nums .u8 all')) ∧ Hid (Below w.heap.size w w7) ∧ Hid (s'.ended = false ∧ s'.most = M ∧ bytes all') := ⟨HQ7, HO7, HW7, HE7⟩
          clear HQ7 HO7 HW7 HE7 hKl
          go_wp2_with fail
          refine (leftN _ b r s' HQ.out).mono ?_
          rintro e wA ⟨rfl, hbA⟩
          have eL : ((lefts s' : Nat) : Int) = 8 * (all'.length : Int) - rd' := by have := HBE.out.le; rw [HBE.out.left]; omega
          have hrl := HBE.out.le
          have hll := HLEN.out
          rw [eL]
          have HQ := Lib.hid (HQ.out.below hbA)
          have HO := Lib.hid (HO.out.below hbA)
          have HW := Lib.hid (below_then HW.out hbA)
          have HBZ := Lib.hid (Nat.le_trans HBZ.out hbA.size)
          clear hbA eL
          go_wp2_with fail
          refine (goneF _ b r s' HQ.out).mono ?_
          rintro e wB ⟨rfl, rfl⟩
          rw [HBE.out.gone]
          go_wp2_with fail
          refine (cameF _ b r s' HQ.out).mono ?_
          rintro e wB ⟨rfl, rfl⟩
          rw [HBE.out.came]
          go_wp2_with fail
          refine (freeF _ b r s' HQ.out).mono ?_
          rintro e wB ⟨rfl, hbB⟩
          have eF : ((s'.most - s'.data.length : Nat) : Int) = (M : Int) - ((all'.length : Int) - (rd' : Int) / 8) := by
            have h1 := HQ.out.ok.len
            rw [HBE.out.len] at h1 ⊢
            rw [HE.out.2.1] at h1 ⊢
            omega
          rw [eF]
          have HQ := Lib.hid (HQ.out.below hbB)
          have HO := Lib.hid (HO.out.below hbB)
          have HW := Lib.hid (below_then HW.out hbB)
          have HBZ := Lib.hid (Nat.le_trans HBZ.out hbB.size)
          clear hbB eF
          go_wp2
          go_roundw
          case rel => exact ⟨k + 1, rd', s', all', by omega, by go_num, rfl, HLEN.out, HBE, HQ, HE, HO, Lib.hid ⟨HW.out, HBZ.out⟩⟩
          case measure => simp [intOf]; omega
        · have hdf : decide ((K : Int) < pl) = false := by simp; omega
          obtain ⟨HQX, HWX, HOX, HPX, HBX⟩ : Hid (Que w5 b r (fedQ s pb K)) ∧ Hid (Below w.heap.size w w5) ∧ Hid (Own w5 B 5 (.slice A8 all.length c8) (nums .u8 all)) ∧ Hid (Rd w5 pa (nums .u8 pb)) ∧ Hid (B ≤ w5.heap.size) := ⟨HQ5, HW5, HO5, HP5, HBX5⟩
          clear HQ5 HW5 HO5 HP5 HBX5 HKK
          obtain ⟨s', hs'⟩ : ∃ s', s' = fedQ s pb K := ⟨_, rfl⟩
          obtain ⟨all', hall'⟩ : ∃ all', all' = all ++ pb.take K := ⟨_, rfl⟩
          obtain ⟨rd', hrd'⟩ : ∃ rd', rd' = rd := ⟨_, rfl⟩
          have HE7 : Hid (s'.ended = false ∧ s'.most = M ∧ bytes all') := Lib.hid (by rw [hs', hall']; exact ⟨HE.out.1, HE.out.2.1, app_bytes HE.out.2.2 (take_bytes HP.out.bytes K)⟩)
          have HLEN : Hid (all'.length ≤ 100 * (k + 1)) := Lib.hid (by rw [hall', List.length_append, List.length_take]; omega)
          have HBE : Hid (Beside s' all' rd') := Lib.hid (by rw [hs', hall', hrd']; exact HB5.out)
          have HALL := Lib.hid hall'
          rw [← hs'] at HQX
          rw [← hrd']
          clear HE hs' hall' hrd' HB5 hle
          go_wp2_with (
            refine append_many rfl (.tmp 89) (.tmp 96) 22 5 (.int .u8 0) 1 rfl Try.underlying22 q_info rfl B (.slice A8 all.length c8) (nums .u8 all) pa K pc (nums .u8 (pb.take K)) rfl rfl HOX.out (by rw [nums_length, List.length_take, HPB.out]; exact Nat.min_eq_left hKl) (HPX.out.upto (List.take_prefix _ _)) u8_cells HBX.out (by rw [nums_length]; simp [maxLen]; omega) (by rw [nums_length]; omega) ?_
            intro v7 w7 hown7 hg7
            rw [← nums_append, ← HALL.out] at hown7
            obtain ⟨A9, c9, rfl, _, _, _⟩ := own_nums hown7
            have hm7 := (Mod.refl (fun i => B ≤ i) _).grown hg7 (fun q hq => .inr (HOX.out.base q hq).1)
            have HQ7 := Lib.hid (HQX.out.mod hm7 (by omega) (by omega))
            have HW7 := Lib.hid (below_mod HWX.out hm7 (fun i hi => by omega))
            have HO7 := Lib.hid hown7
            have HBZ := Lib.hid (Nat.le_trans HBX.out hm7.size)
            clear hown7 hg7 hm7 HQX HWX HOX HPX HBX HALL)
          obtain ⟨HQ, HO, HW, HE⟩ : Hid (Que w7 b r s') ∧ Hid (Own w7 B 5 (.slice A9 all'.length c9) (nums .u8 all')) ∧ Hid (Below w.heap.size w w7) ∧ Hid (s'.ended = false ∧ s'.most = M ∧ bytes all') := ⟨HQ7, HO7, HW7, HE7⟩
          clear HQ7 HO7 HW7 HE7 hKl
          go_wp2_with fail
          refine (leftN _ b r s' HQ.out).mono ?_
          rintro e wA ⟨rfl, hbA⟩
          have eL : ((lefts s' : Nat) : Int) = 8 * (all'.length : Int) - rd' := by have := HBE.out.le; rw [HBE.out.left]; omega
          have hrl := HBE.out.le
          have hll := HLEN.out
          rw [eL]
          have HQ := Lib.hid (HQ.out.below hbA)
          have HO := Lib.hid (HO.out.below hbA)
          have HW := Lib.hid (below_then HW.out hbA)
          have HBZ := Lib.hid (Nat.le_trans HBZ.out hbA.size)
          clear hbA eL
          go_wp2_with fail
          refine (goneF _ b r s' HQ.out).mono ?_
          rintro e wB ⟨rfl, rfl⟩
          rw [HBE.out.gone]
          go_wp2_with fail
          refine (cameF _ b r s' HQ.out).mono ?_
          rintro e wB ⟨rfl, rfl⟩
          rw [HBE.out.came]
          go_wp2_with fail
          refine (freeF _ b r s' HQ.out).mono ?_
          rintro e wB ⟨rfl, hbB⟩
          have eF : ((s'.most - s'.data.length : Nat) : Int) = (M : Int) - ((all'.length : Int) - (rd' : Int) / 8) := by
            have h1 := HQ.out.ok.len
            rw [HBE.out.len] at h1 ⊢
            rw [HE.out.2.1] at h1 ⊢
            omega
          rw [eF]
          have HQ := Lib.hid (HQ.out.below hbB)
          have HO := Lib.hid (HO.out.below hbB)
          have HW := Lib.hid (below_then HW.out hbB)
          have HBZ := Lib.hid (Nat.le_trans HBZ.out hbB.size)
          clear hbB eF
          go_wp2
          go_roundw
          case rel => exact ⟨k + 1, rd', s', all', by omega, by go_num, rfl, HLEN.out, HBE, HQ, HE, HO, Lib.hid ⟨HW.out, HBZ.out⟩⟩
          case measure => simp [intOf]; omega
      · have hde : (kd.tmod 2 == 0) = false := beq_eq_false_iff_ne.2 hev
        clear hev
        have hpk := pick_bd pn (8 * (all.length : Int) - rd + 1) (by omega)
        obtain ⟨N, hN⟩ : ∃ N : Nat, (N : Int) = pick pn (8 * (all.length : Int) - rd + 1) := ⟨(pick pn (8 * (all.length : Int) - rd + 1)).toNat, by omega⟩
        have hNb : rd + N ≤ 8 * all.length := by omega
        have HNP := Lib.hid hN
        have e1 : IntKind.i64.wrap (8 * (all.length : Int)) = 8 * (all.length : Int) := IntWalk.i64_in _ (by omega)
        have e2 : IntKind.i64.wrap (8 * (all.length : Int) - rd) = 8 * (all.length : Int) - rd := IntWalk.i64_in _ (by omega)
        have e3 : IntKind.i64.wrap (8 * (all.length : Int) - rd + 1) = 8 * (all.length : Int) - rd + 1 := IntWalk.i64_in _ (by omega)
        clear hN hpk
        go_wp2_with fail
        refine (pickF _ pn (8 * (all.length : Int) - rd + 1) (by omega) (by omega)).mono ?_
        rintro e w5 ⟨rfl, rfl⟩
        rw [← HNP.out]
        clear e1 e2 e3 HNP
        go_wp2_with fail
        refine (bitsF _ b r s HQ.out).mono ?_
        rintro e w5 ⟨v2, rfl, hv2, hb5⟩
        obtain ⟨A2, c9, rfl, _, _, hr2⟩ := own_nums hv2
        have HQ5 := Lib.hid (HQ.out.below hb5)
        have HO5 := Lib.hid (HO.out.below hb5)
        have HW5 := Lib.hid (below_then HW.out hb5)
        have HBX5 := Lib.hid (Nat.le_trans HBB.out hb5.size)
        have HR5 := Lib.hid hr2
        have HDB := Lib.hid HQ.out.ok.bytes
        obtain ⟨P, hP⟩ : ∃ P, P = s.place := ⟨_, rfl⟩
        obtain ⟨D, hD⟩ : ∃ D, D = s.data.length := ⟨_, rfl⟩
        have hP7 : P ≤ 7 := by rw [hP]; have := HQ.out.ok.place; omega
        have hNL : N + P ≤ 8 * D := by
          have h1 := HBE.out.len
          have h2 := HBE.out.place
          rw [hP, hD, h1, h2]
          omega
        have hDm : D ≤ 40 := by
          have h1 := HQ.out.ok.len
          have h2 := HE.out.2.1
          rw [hD]
          omega
        have HPP := Lib.hid hP
        have HDD := Lib.hid hD
        have HGN : Hid (s.gone + N ≤ 10000000000000) := Lib.hid (by have := HBE.out.gone; omega)
        have d1 : ¬ (8 * (D : Int) - P < N) := by omega
        rw [← hP, ← hD]
        clear hv2 hb5 hr2 HQ HO HW HBB hP hD c0 c1 c2
        go_wp2
        obtain ⟨wo, rfl⟩ : ∃ wo : World, wo = w5 := ⟨_, rfl⟩
        go_loopw [16] (fun j wr => ∃ t : Nat, t ≤ N ∧ j = .int .i64 t ∧ Hid (Que wr b r s) ∧ Hid (Own wr B 5 (.slice A8 all.length c8) (nums .u8 all)) ∧ Hid (Below w.heap.size w wr ∧ B ≤ wr.heap.size) ∧ Hid (Rd wr A2 (nums .u8 s.data))) (fun j _ => N - (intOf j).toNat)
        case atStart => exact ⟨0, by omega, rfl, HQ5, HO5, Lib.hid ⟨HW5.out, HBX5.out⟩, HR5⟩
        case round =>
          clear HQ5 HO5 HW5 HBX5 HR5
          obtain ⟨t, ht, rfl, HQ, HO, HWB, HR5⟩ := hrel
          by_cases hlt2 : t < N
          · have hdt : decide ((t : Int) < N) = true := by simp; omega
            have e4 : IntKind.i64.wrap ((P : Int) + t) = (P : Int) + t := IntWalk.i64_in _ (by omega)
            have e5 : IntKind.i64.wrap ((rd : Int) + t) = (rd : Int) + t := IntWalk.i64_in _ (by omega)
            obtain ⟨X, hX⟩ : ∃ X, X = bitV all (rd + t) := ⟨_, rfl⟩
            have hx1 : bitV s.data (P + t) = X := by rw [hX, HPP.out]; exact HBE.out.bit t
            have H1 := bitF wr A2 D c9 s.data HDD.out.symm (by omega) HR5.out HDB.out (P + t) (by omega)
            rw [hx1, show ((P + t : Nat) : Int) = (P : Int) + t by omega] at H1
            have H2 := bitF wr A8 all.length c8 all rfl (by omega) (by
              obtain ⟨A, c, h1, _, _, h2⟩ := own_nums HO.out
              injection h1 with h1
              rw [h1]
              exact h2) HE.out.2.2 (rd + t) (by omega)
            rw [← hX, show ((rd + t : Nat) : Int) = (rd : Int) + t by omega] at H2
            have H1 := Lib.hid H1
            have H2 := Lib.hid H2
            clear hX hx1
            go_wp2_with fail
            refine H1.out.mono ?_
            rintro e w6 ⟨rfl, rfl⟩
            go_wp2_with fail
            refine H2.out.mono ?_
            rintro e w7 ⟨rfl, rfl⟩
            clear H1 H2
            go_wp2
            go_roundw
            case rel => exact ⟨t + 1, by omega, by go_num, HQ, HO, HWB, HR5⟩
            case measure => simp [intOf]; omega
          · have hdt : decide ((t : Int) < N) = false := by simp; omega
            clear HR5
            go_wp2_with fail
            refine (skip_ok _ b r s HQ.out N (by rw [← HPP.out, ← HDD.out]; omega) HGN.out).mono ?_
            rintro e w6 ⟨rfl, hq6, hm6⟩
            obtain ⟨rd', hrd'⟩ : ∃ rd', rd' = rd + N := ⟨_, rfl⟩
            obtain ⟨s', hs'⟩ : ∃ s', s' = skipQ s N := ⟨_, rfl⟩
            obtain ⟨all', hall'⟩ : ∃ all', all' = all := ⟨_, rfl⟩
            have HBE7 : Hid (Beside s' all' rd') := Lib.hid (by rw [hs', hall', hrd']; exact HBE.out.skip N hNb)
            have HE7 : Hid (s'.ended = false ∧ s'.most = M ∧ bytes all') := Lib.hid (by rw [hs', hall']; exact HE.out)
            have HQ7 : Hid (Que w6 b r s') := Lib.hid (by rw [hs']; exact hq6)
            have HO7 : Hid (Own w6 B 5 (.slice A8 all'.length c8) (nums .u8 all')) := Lib.hid (by rw [hall']; exact HO.out.mod hm6 (fun q hq e => by have := (HO.out.base q hq).1; omega))
            have HW7 := Lib.hid (below_mod HWB.out.1 hm6 (fun i hi => by omega))
            have HBZ := Lib.hid (Nat.le_trans HWB.out.2 hm6.size)
            have HLEN : Hid (all'.length ≤ 100 * (k + 1)) := Lib.hid (by rw [hall']; omega)
            have e6 : IntKind.i64.wrap ((rd : Int) + N) = (rd' : Int) := by rw [hrd', IntWalk.i64_in _ (by omega)]; omega
            rw [← hall']
            clear HBE HE HQ HO HWB hq6 hm6 hs' hall' hrd' hNL hdt HDB HPP HDD
            obtain ⟨HQ, HO, HW, HE, HBE⟩ : Hid (Que w6 b r s') ∧ Hid (Own w6 B 5 (.slice A8 all'.length c8) (nums .u8 all')) ∧ Hid (Below w.heap.size w w6) ∧ Hid (s'.ended = false ∧ s'.most = M ∧ bytes all') ∧ Hid (Beside s' all' rd') := ⟨HQ7, HO7, HW7, HE7, HBE7⟩
            clear HQ7 HO7 HW7 HE7 HBE7
            go_wp2_with fail
            refine (leftN _ b r s' HQ.out).mono ?_
            rintro e wA ⟨rfl, hbA⟩
            have eL : ((lefts s' : Nat) : Int) = 8 * (all'.length : Int) - rd' := by have := HBE.out.le; rw [HBE.out.left]; omega
            have hrl := HBE.out.le
            have hll := HLEN.out
            rw [eL]
            have HQ := Lib.hid (HQ.out.below hbA)
            have HO := Lib.hid (HO.out.below hbA)
            have HW := Lib.hid (below_then HW.out hbA)
            have HBZ := Lib.hid (Nat.le_trans HBZ.out hbA.size)
            clear hbA eL
            go_wp2_with fail
            refine (goneF _ b r s' HQ.out).mono ?_
            rintro e wB ⟨rfl, rfl⟩
            rw [HBE.out.gone]
            go_wp2_with fail
            refine (cameF _ b r s' HQ.out).mono ?_
            rintro e wB ⟨rfl, rfl⟩
            rw [HBE.out.came]
            go_wp2_with fail
            refine (freeF _ b r s' HQ.out).mono ?_
            rintro e wB ⟨rfl, hbB⟩
            have eF : ((s'.most - s'.data.length : Nat) : Int) = (M : Int) - ((all'.length : Int) - (rd' : Int) / 8) := by
              have h1 := HQ.out.ok.len
              rw [HBE.out.len] at h1 ⊢
              rw [HE.out.2.1] at h1 ⊢
              omega
            rw [eF]
            have HQ := Lib.hid (HQ.out.below hbB)
            have HO := Lib.hid (HO.out.below hbB)
            have HW := Lib.hid (below_then HW.out hbB)
            have HBZ := Lib.hid (Nat.le_trans HBZ.out hbB.size)
            clear hbB eF
            go_wp2
            go_roundw
            case rel => exact ⟨k + 1, rd', s', all', by omega, by go_num, rfl, HLEN.out, HBE, HQ, HE, HO, Lib.hid ⟨HW.out, HBZ.out⟩⟩
            case measure => simp [intOf]; omega
    · have hdk : decide ((k : Int) < len1) = false := by simp; omega
      go_wp2
      go_ret
      exact ⟨rfl, HW.out⟩
end Go.Proofs.Ytnnchmlkgofhpaa
