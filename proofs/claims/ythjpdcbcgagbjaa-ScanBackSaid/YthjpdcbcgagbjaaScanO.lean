/- The walk of ScanBack: what is spread is told as it was by Runs, and a block's Runs are spread to it; for every input. -/
import Derived.Test.YthjpdcbcgagbjaaScanM
import Derived.Test.YthjpdcbcgagbjaaScanK
import Derived.Test.YthjpdcbcgagbjaaKfPick
set_option linter.unusedVariables false
set_option linter.unusedSimpArgs false
namespace Go.Proofs.Ythjpdcbcgagbjaa
open Go.RowKit

theorem okB_of_ordv {b : List Int} (h : ∀ k, k < 64 → -127 ≤ ordv b k ∧ ordv b k ≤ 127) : okB b := fun j hj => by
  obtain ⟨k, hk, rfl⟩ := ord_onto j hj
  exact h k hk
theorem ord_zero : el orderL 0 = 0 := by rw [orderL_eq]; rfl
theorem back_runs (l : List (Int × Int)) (F : Nat) (G : Int) (hG : G = F) (hF : F ≤ 1) (h : (spreadOf l G).2 = 0) : (spreadOf l G).1.length = 64 ∧ runsOf (spreadOf l G).1 G = (l, 0) := by
  subst hG
  have hF2 : (F : Int) = 0 ∨ (F : Int) = 1 := by omega
  unfold spreadOf at h ⊢
  rw [if_pos hF2] at h ⊢
  obtain ⟨b, hb⟩ : ∃ b, spreadGo l F zeros = (b, 0) := ⟨(spreadGo l F zeros).1, by rw [← h]⟩
  obtain ⟨h1, h2, h3, h4⟩ := spread_back l F zeros b [] (by omega) (by simp [zeros]) (fun k _ _ => ordv_zeros k) (fun k _ => by rw [ordv_zeros]; omega) hb
  rw [hb]
  have h0 : (F : Int) = 1 → el b 0 = 0 := fun e => by
    have := h2 0 (by omega)
    rw [ordv_zeros] at this
    unfold ordv at this
    rw [ord_zero] at this
    exact this
  refine ⟨h1, ?_⟩
  show runsOf b F = (l, 0)
  unfold runsOf
  rw [if_pos hF2, if_pos ⟨h1, h0⟩, if_pos (okB_of_ordv h3), Int.toNat_natCast, h4, List.nil_append]
theorem back_spread (c : List Int) (F : Nat) (G : Int) (hG : G = F) (hF : F ≤ 1) (hc : c.length = 64) (hok : okB c) (h0 : F = 1 → el c 0 = 0) : (runsOf c G).2 = 0 ∧ spreadOf (runsOf c G).1 G = (c, 0) := by
  subst hG
  have hF2 : (F : Int) = 0 ∨ (F : Int) = 1 := by omega
  unfold runsOf
  rw [if_pos hF2, if_pos ⟨hc, fun e => h0 (by omega)⟩, if_pos hok]
  refine ⟨rfl, ?_⟩
  unfold spreadOf
  rw [if_pos hF2]
  have hov : ∀ k, k < 64 → -127 ≤ ordv c k ∧ ordv c k ≤ 127 := fun k hk => hok _ (ord_lt k hk).1
  show spreadGo (runsGo c (orderL.drop ((F : Int).toNat)) 0 []) F zeros = (c, 0)
  rw [Int.toNat_natCast]
  rcases (by omega : F = 0 ∨ F = 1) with rfl | rfl
  · exact runs_back c hc hov 64 0 0 zeros rfl (by omega) (by omega) (by simp [zeros]) (fun j hj => by omega) (fun j _ _ => ordv_zeros j) (fun j _ hj => by omega)
  · have h01 : ordv zeros 0 = ordv c 0 := by
      rw [ordv_zeros]
      unfold ordv
      rw [ord_zero]
      exact (h0 rfl).symm
    have hc0 : ordv c 0 = 0 := by rw [← h01, ordv_zeros]
    have := runs_back c hc hov 63 1 0 zeros rfl (by omega) (by omega) (by simp [zeros]) (fun j hj => by obtain rfl : j = 0 := by omega
                                                                                                        exact h01) (fun j _ _ => ordv_zeros j) (fun j hj1 hj => by omega)
    exact this

/-- A block's numbers from the first place on up to k. -/
def partF (f : Nat → Int) (F k : Nat) : List Int := (List.range 64).map fun j => if F ≤ j ∧ j < k then f j else 0
theorem partF_len (f : Nat → Int) (F k : Nat) : (partF f F k).length = 64 := by simp [partF]
theorem partF_set (f : Nat → Int) (F k : Nat) (h : F ≤ k) : (partF f F k).set k (f k) = partF f F (k + 1) := by
  apply List.ext_getElem
  · simp [partF]
  · intro i h1 h2
    rw [List.getElem_set]
    simp only [partF, List.getElem_map, List.getElem_range]
    by_cases h : k = i
    · subst h
      rw [if_pos rfl, if_pos ⟨by omega, by omega⟩]
    · rw [if_neg h]
      by_cases h3 : F ≤ i ∧ i < k
      · rw [if_pos h3, if_pos ⟨h3.1, by omega⟩]
      · rw [if_neg h3, if_neg (by omega)]
theorem partF_start (f : Nat → Int) (F : Nat) : partF f F F = zeros := by
  apply List.ext_getElem
  · simp [partF, zeros]
  · intro i h1 h2
    simp only [partF, List.getElem_map, List.getElem_range, zeros, List.getElem_replicate]
    rw [if_neg (by omega)]
theorem partF_el (f : Nat → Int) (F k j : Nat) (h : j < 64) : el (partF f F k) j = if F ≤ j ∧ j < k then f j else 0 := el_map_range _ _ _ h
/-- A number that is made from -127 to 127. -/
def mkN (l : List Int) (j : Nat) : Int := pick (el l j) 255 - 127
theorem mkN_bd (l : List Int) (j : Nat) : -127 ≤ mkN l j ∧ mkN l j ≤ 127 := by
  have := pick_bd (el l j) 255 (by omega)
  unfold mkN
  omega
theorem partF_ok (l : List Int) (F k : Nat) : okB (partF (mkN l) F k) := fun j hj => by
  rw [partF_el _ _ _ _ hj]
  split
  · exact mkN_bd l j
  · omega

set_option maxHeartbeats 1000000 in
theorem back_long (w : World) (A A' : Option Addr) (n c n' c' : Nat) (s : Bool) (h : 70 < n ∨ 64 < n') (hm : n ≤ maxLen) (hm' : n' ≤ maxLen) :
    Calls Try.prog 7 #[.slice A n c, .slice A' n' c', .bool s] w fun e w' => e = .returned (.bool true) ∧ Below w.heap.size w w' := by
  unfold maxLen at hm hm'
  by_cases h1 : 70 < n
  · have hd : decide ((70 : Int) < n) = true := by simp; omega
    clear h
    go_enter Try.func7, Try.ntmps7
    go_wp2_with fail
    refine (knownF _).mono ?_
    rintro e w1 ⟨rfl, hb1⟩
    go_wp2
    go_ret
    exact ⟨rfl, hb1⟩
  · have hd : decide ((70 : Int) < n) = false := by simp; omega
    have hd' : decide ((64 : Int) < n') = true := by simp; omega
    clear h
    go_enter Try.func7, Try.ntmps7
    go_wp2_with fail
    refine (knownF _).mono ?_
    rintro e w1 ⟨rfl, hb1⟩
    go_wp2
    go_ret
    exact ⟨rfl, hb1⟩

set_option maxHeartbeats 8000000 in
theorem back_short (w : World) (A A' : Option Addr) (n c n' c' : Nat) (l : List (Int × Int)) (l' : List Int) (hn : l.length = n) (hn' : l'.length = n') (hm : n ≤ 70) (hm' : n' ≤ 64) (hr : Rd w A (pairsV l)) (hr' : Rd w A' (nums .i64 l')) (s : Bool) (F : Nat) (hF : F = if s then 1 else 0) :
    Calls Try.prog 7 #[.slice A n c, .slice A' n' c', .bool s] w fun e w' => e = .returned (.bool true) ∧ Below w.heap.size w w' := by
  have HR : Hid (∀ W, Below w.heap.size w W → Rd W A (pairsV l)) := Lib.hid fun W hW => hr.below hW
  have HR' : Hid (∀ W, Below w.heap.size w W → Rd W A' (nums .i64 l')) := Lib.hid fun W hW => hr'.below hW
  have HN := Lib.hid hn
  have HN' := Lib.hid hn'
  have hd : decide ((70 : Int) < n) = false := by simp; omega
  have hd' : decide ((64 : Int) < n') = false := by simp; omega
  have hmk := makeZ
  clear hr hr' hn hn'
  cases s
  · obtain rfl : F = 0 := hF
    go_enter Try.func7, Try.ntmps7
    go_wp2_with fail
    refine (knownF _).mono ?_
    rintro e w1 ⟨rfl, hb1⟩
    have HB1 := Lib.hid hb1
    clear hb1
    go_wp2_with fail
    refine (spreadF _ A n c l HN.out (by omega) (HR.out _ HB1.out) 0).mono ?_
    rintro e w2 ⟨⟨A2, m2, c2, rfl, hl2, hf2⟩, hb2⟩
    have HB2 := Lib.hid (below_then HB1.out hb2)
    have HF2 := Lib.hid hf2.rd
    have HL2 : Hid ((spreadOf l 0).1.length = m2) := Lib.hid (by rw [← nums_length .i64]; exact hl2)
    clear HB1 hb2 hl2 hf2
    by_cases hz : (spreadOf l 0).2 = 0
    · have HRB := Lib.hid (back_runs l 0 0 rfl (by omega) hz)
      have hz1 : ((spreadOf l 0).2 == 0) = true := by rw [beq_iff_eq]; exact hz
      clear hz
      go_wp2_with fail
      refine (lawRunsF _ A2 m2 c2 (spreadOf l 0).1 HL2.out HF2.out 0 A n c l 0 HN.out (by omega) (HR.out _ HB2.out) HRB.out.2).mono ?_
      rintro e w3 ⟨rfl, hb3⟩
      have HB3 := Lib.hid (below_then HB2.out hb3)
      clear HRB hb3 HB2 hz1
      clear HL2 HF2
      go_wp2
      obtain ⟨g, hg⟩ : ∃ g : Nat, g = w3.heap.size := ⟨_, rfl⟩
      have hgb : w.heap.size ≤ g := by rw [hg]; exact HB3.out.size
      have hZ : Hid (Blk (w3.alloc (.cells (nums .i64 zeros).toArray 3)) g 3 (nums .i64 (partF (mkN l') 0 0))) := Lib.hid (by rw [hg, partF_start]; exact Blk.new _ _ _)
      have HBz := Lib.hid (below_alloc HB3.out (.cells (nums .i64 zeros).toArray 3))
      rw [← hg]
      clear hg HB3
      go_loopw [12] (fun i wr => ∃ k : Nat, 0 ≤ k ∧ k ≤ 64 ∧ i = .int .i64 k ∧ Hid (Blk wr g 3 (nums .i64 (partF (mkN l') 0 k))) ∧ Hid (Below w.heap.size w wr)) (fun i _ => n' - (intOf i).toNat)
      case atStart => exact ⟨0, by omega, by omega, rfl, hZ, HBz⟩
      case round =>
        clear hZ HBz
        obtain ⟨k, hFk, hk, rfl, hblk, hbel⟩ := hrel
        by_cases hlt : k < n'
        · have hdk : decide ((k : Int) < n') = true := by simp; omega
          obtain ⟨b, o, rfl, hbl, hc⟩ := (HR'.out wr hbel.out).at_ (i := k) (by rw [nums_length, HN'.out]; omega)
          have c0 : wr.cell? ⟨b, o + k, none⟩ = some (.int .i64 (el l' k)) := hc _ _ (nums_get (by rw [HN'.out]; omega))
          have hf := hblk.out.free k
          have hcP : wr.cell? ⟨g, k, none⟩ = some (.int .i64 (el (partF (mkN l') 0 k) k)) := hblk.out.cell (nums_get (by rw [partF_len]; omega))
          have hblk2 : Hid (Blk (wr.setCell ⟨g, k, none⟩ (.int .i64 (mkN l' k))) g 3 (nums .i64 (partF (mkN l') 0 (k + 1)))) := Lib.hid (by
            have := hblk.out.set k (.int .i64 (mkN l' k))
            rw [nums_set, partF_set _ _ _ (by omega)] at this
            exact this)
          have hbel2 := Lib.hid (hbel.out.setCell (p := ⟨g, k, none⟩) hgb (.int .i64 (mkN l' k)))
          obtain ⟨P, hP⟩ : ∃ P, P = pick (el l' k) 255 := ⟨_, rfl⟩
          have hPb : 0 ≤ P ∧ P < 255 := by rw [hP]; exact pick_bd _ _ (by omega)
          have eP : IntKind.i64.wrap (P - 127) = P - 127 := IntWalk.i64_in _ (by omega)
          have e2 : mkN l' k = P - 127 := by rw [hP]; rfl
          have HPK := Lib.hid hP
          have i2 : (k : Int) < 64 := by omega
          rw [e2] at hblk2 hbel2
          clear hc e2 hP
          go_wp2_with fail
          refine (pickF _ (el l' k) 255 (by omega) (by omega)).mono ?_
          rintro e w9 ⟨rfl, rfl⟩
          rw [← HPK.out]
          go_wp2
          go_roundw
          case rel => exact ⟨k + 1, by omega, by omega, by go_num, hblk2, hbel2⟩
          case measure => simp [intOf]; omega
        · have hdk : decide ((k : Int) < n') = false := by simp; omega
          obtain ⟨B, hB⟩ : ∃ B, B = partF (mkN l') 0 k := ⟨_, rfl⟩
          have HS := Lib.hid (back_spread B 0 0 rfl (by omega) (by rw [hB]; exact partF_len _ _ _) (by rw [hB]; exact partF_ok _ _ _) (fun h => by first | (exact absurd h (by decide)) | (rw [hB, partF_el _ _ _ _ (by omega), if_neg (by omega)])))
          have HLB : Hid (B.length = 64) := Lib.hid (by rw [hB]; exact partF_len _ _ _)
          have hblkB : Hid (Blk wr g 3 (nums .i64 B)) := Lib.hid (by rw [hB]; exact hblk.out)
          have HU := Lib.hid (runsF wr (some ⟨g, 0, none⟩) 64 64 B HLB.out hblkB.out.row_.rd 0)
          rw [HS.out.1] at HU
          clear hB hblk
          go_wp2_with fail
          refine HU.out.mono ?_
          rintro e w5 ⟨⟨A5, c5, rfl, hf5⟩, hb5⟩
          have HB5 := Lib.hid (below_then hbel.out hb5)
          have HF5 := Lib.hid hf5.rd
          have HG5 := Lib.hid (hblkB.out.row_.rd.below hb5)
          clear hbel hf5 hb5 hblkB HU
          go_wp2_with fail
          refine (lawSpreadsF _ A5 _ c5 (runsOf B 0).1 rfl (by have := runsOf_len B 0; omega) HF5.out 0 (some ⟨g, 0, none⟩) 64 64 B 0 HLB.out (by omega) HG5.out HS.out.2).mono ?_
          rintro e w6 ⟨rfl, hb6⟩
          have HB6 := Lib.hid (below_then HB5.out hb6)
          go_wp2
          go_ret
          exact ⟨rfl, HB6.out⟩
    · have hz1 : ((spreadOf l 0).2 == 0) = false := beq_eq_false_iff_ne.2 hz
      clear hz
      clear HL2 HF2
      go_wp2
      obtain ⟨g, hg⟩ : ∃ g : Nat, g = w2.heap.size := ⟨_, rfl⟩
      have hgb : w.heap.size ≤ g := by rw [hg]; exact HB2.out.size
      have hZ : Hid (Blk (w2.alloc (.cells (nums .i64 zeros).toArray 3)) g 3 (nums .i64 (partF (mkN l') 0 0))) := Lib.hid (by rw [hg, partF_start]; exact Blk.new _ _ _)
      have HBz := Lib.hid (below_alloc HB2.out (.cells (nums .i64 zeros).toArray 3))
      rw [← hg]
      clear hg HB2
      go_loopw [12] (fun i wr => ∃ k : Nat, 0 ≤ k ∧ k ≤ 64 ∧ i = .int .i64 k ∧ Hid (Blk wr g 3 (nums .i64 (partF (mkN l') 0 k))) ∧ Hid (Below w.heap.size w wr)) (fun i _ => n' - (intOf i).toNat)
      case atStart => exact ⟨0, by omega, by omega, rfl, hZ, HBz⟩
      case round =>
        clear hZ HBz
        obtain ⟨k, hFk, hk, rfl, hblk, hbel⟩ := hrel
        by_cases hlt : k < n'
        · have hdk : decide ((k : Int) < n') = true := by simp; omega
          obtain ⟨b, o, rfl, hbl, hc⟩ := (HR'.out wr hbel.out).at_ (i := k) (by rw [nums_length, HN'.out]; omega)
          have c0 : wr.cell? ⟨b, o + k, none⟩ = some (.int .i64 (el l' k)) := hc _ _ (nums_get (by rw [HN'.out]; omega))
          have hf := hblk.out.free k
          have hcP : wr.cell? ⟨g, k, none⟩ = some (.int .i64 (el (partF (mkN l') 0 k) k)) := hblk.out.cell (nums_get (by rw [partF_len]; omega))
          have hblk2 : Hid (Blk (wr.setCell ⟨g, k, none⟩ (.int .i64 (mkN l' k))) g 3 (nums .i64 (partF (mkN l') 0 (k + 1)))) := Lib.hid (by
            have := hblk.out.set k (.int .i64 (mkN l' k))
            rw [nums_set, partF_set _ _ _ (by omega)] at this
            exact this)
          have hbel2 := Lib.hid (hbel.out.setCell (p := ⟨g, k, none⟩) hgb (.int .i64 (mkN l' k)))
          obtain ⟨P, hP⟩ : ∃ P, P = pick (el l' k) 255 := ⟨_, rfl⟩
          have hPb : 0 ≤ P ∧ P < 255 := by rw [hP]; exact pick_bd _ _ (by omega)
          have eP : IntKind.i64.wrap (P - 127) = P - 127 := IntWalk.i64_in _ (by omega)
          have e2 : mkN l' k = P - 127 := by rw [hP]; rfl
          have HPK := Lib.hid hP
          have i2 : (k : Int) < 64 := by omega
          rw [e2] at hblk2 hbel2
          clear hc e2 hP
          go_wp2_with fail
          refine (pickF _ (el l' k) 255 (by omega) (by omega)).mono ?_
          rintro e w9 ⟨rfl, rfl⟩
          rw [← HPK.out]
          go_wp2
          go_roundw
          case rel => exact ⟨k + 1, by omega, by omega, by go_num, hblk2, hbel2⟩
          case measure => simp [intOf]; omega
        · have hdk : decide ((k : Int) < n') = false := by simp; omega
          obtain ⟨B, hB⟩ : ∃ B, B = partF (mkN l') 0 k := ⟨_, rfl⟩
          have HS := Lib.hid (back_spread B 0 0 rfl (by omega) (by rw [hB]; exact partF_len _ _ _) (by rw [hB]; exact partF_ok _ _ _) (fun h => by first | (exact absurd h (by decide)) | (rw [hB, partF_el _ _ _ _ (by omega), if_neg (by omega)])))
          have HLB : Hid (B.length = 64) := Lib.hid (by rw [hB]; exact partF_len _ _ _)
          have hblkB : Hid (Blk wr g 3 (nums .i64 B)) := Lib.hid (by rw [hB]; exact hblk.out)
          have HU := Lib.hid (runsF wr (some ⟨g, 0, none⟩) 64 64 B HLB.out hblkB.out.row_.rd 0)
          rw [HS.out.1] at HU
          clear hB hblk
          go_wp2_with fail
          refine HU.out.mono ?_
          rintro e w5 ⟨⟨A5, c5, rfl, hf5⟩, hb5⟩
          have HB5 := Lib.hid (below_then hbel.out hb5)
          have HF5 := Lib.hid hf5.rd
          have HG5 := Lib.hid (hblkB.out.row_.rd.below hb5)
          clear hbel hf5 hb5 hblkB HU
          go_wp2_with fail
          refine (lawSpreadsF _ A5 _ c5 (runsOf B 0).1 rfl (by have := runsOf_len B 0; omega) HF5.out 0 (some ⟨g, 0, none⟩) 64 64 B 0 HLB.out (by omega) HG5.out HS.out.2).mono ?_
          rintro e w6 ⟨rfl, hb6⟩
          have HB6 := Lib.hid (below_then HB5.out hb6)
          go_wp2
          go_ret
          exact ⟨rfl, HB6.out⟩
  · obtain rfl : F = 1 := hF
    go_enter Try.func7, Try.ntmps7
    go_wp2_with fail
    refine (knownF _).mono ?_
    rintro e w1 ⟨rfl, hb1⟩
    have HB1 := Lib.hid hb1
    clear hb1
    go_wp2_with fail
    refine (spreadF _ A n c l HN.out (by omega) (HR.out _ HB1.out) 1).mono ?_
    rintro e w2 ⟨⟨A2, m2, c2, rfl, hl2, hf2⟩, hb2⟩
    have HB2 := Lib.hid (below_then HB1.out hb2)
    have HF2 := Lib.hid hf2.rd
    have HL2 : Hid ((spreadOf l 1).1.length = m2) := Lib.hid (by rw [← nums_length .i64]; exact hl2)
    clear HB1 hb2 hl2 hf2
    by_cases hz : (spreadOf l 1).2 = 0
    · have HRB := Lib.hid (back_runs l 1 1 rfl (by omega) hz)
      have hz1 : ((spreadOf l 1).2 == 0) = true := by rw [beq_iff_eq]; exact hz
      clear hz
      go_wp2_with fail
      refine (lawRunsF _ A2 m2 c2 (spreadOf l 1).1 HL2.out HF2.out 1 A n c l 0 HN.out (by omega) (HR.out _ HB2.out) HRB.out.2).mono ?_
      rintro e w3 ⟨rfl, hb3⟩
      have HB3 := Lib.hid (below_then HB2.out hb3)
      clear HRB hb3 HB2 hz1
      clear HL2 HF2
      go_wp2
      obtain ⟨g, hg⟩ : ∃ g : Nat, g = w3.heap.size := ⟨_, rfl⟩
      have hgb : w.heap.size ≤ g := by rw [hg]; exact HB3.out.size
      have hZ : Hid (Blk (w3.alloc (.cells (nums .i64 zeros).toArray 3)) g 3 (nums .i64 (partF (mkN l') 1 1))) := Lib.hid (by rw [hg, partF_start]; exact Blk.new _ _ _)
      have HBz := Lib.hid (below_alloc HB3.out (.cells (nums .i64 zeros).toArray 3))
      rw [← hg]
      clear hg HB3
      go_loopw [12] (fun i wr => ∃ k : Nat, 1 ≤ k ∧ k ≤ 64 ∧ i = .int .i64 k ∧ Hid (Blk wr g 3 (nums .i64 (partF (mkN l') 1 k))) ∧ Hid (Below w.heap.size w wr)) (fun i _ => n' - (intOf i).toNat)
      case atStart => exact ⟨1, by omega, by omega, rfl, hZ, HBz⟩
      case round =>
        clear hZ HBz
        obtain ⟨k, hFk, hk, rfl, hblk, hbel⟩ := hrel
        by_cases hlt : k < n'
        · have hdk : decide ((k : Int) < n') = true := by simp; omega
          obtain ⟨b, o, rfl, hbl, hc⟩ := (HR'.out wr hbel.out).at_ (i := k) (by rw [nums_length, HN'.out]; omega)
          have c0 : wr.cell? ⟨b, o + k, none⟩ = some (.int .i64 (el l' k)) := hc _ _ (nums_get (by rw [HN'.out]; omega))
          have hf := hblk.out.free k
          have hcP : wr.cell? ⟨g, k, none⟩ = some (.int .i64 (el (partF (mkN l') 1 k) k)) := hblk.out.cell (nums_get (by rw [partF_len]; omega))
          have hblk2 : Hid (Blk (wr.setCell ⟨g, k, none⟩ (.int .i64 (mkN l' k))) g 3 (nums .i64 (partF (mkN l') 1 (k + 1)))) := Lib.hid (by
            have := hblk.out.set k (.int .i64 (mkN l' k))
            rw [nums_set, partF_set _ _ _ (by omega)] at this
            exact this)
          have hbel2 := Lib.hid (hbel.out.setCell (p := ⟨g, k, none⟩) hgb (.int .i64 (mkN l' k)))
          obtain ⟨P, hP⟩ : ∃ P, P = pick (el l' k) 255 := ⟨_, rfl⟩
          have hPb : 0 ≤ P ∧ P < 255 := by rw [hP]; exact pick_bd _ _ (by omega)
          have eP : IntKind.i64.wrap (P - 127) = P - 127 := IntWalk.i64_in _ (by omega)
          have e2 : mkN l' k = P - 127 := by rw [hP]; rfl
          have HPK := Lib.hid hP
          have i2 : (k : Int) < 64 := by omega
          rw [e2] at hblk2 hbel2
          clear hc e2 hP
          go_wp2_with fail
          refine (pickF _ (el l' k) 255 (by omega) (by omega)).mono ?_
          rintro e w9 ⟨rfl, rfl⟩
          rw [← HPK.out]
          go_wp2
          go_roundw
          case rel => exact ⟨k + 1, by omega, by omega, by go_num, hblk2, hbel2⟩
          case measure => simp [intOf]; omega
        · have hdk : decide ((k : Int) < n') = false := by simp; omega
          obtain ⟨B, hB⟩ : ∃ B, B = partF (mkN l') 1 k := ⟨_, rfl⟩
          have HS := Lib.hid (back_spread B 1 1 rfl (by omega) (by rw [hB]; exact partF_len _ _ _) (by rw [hB]; exact partF_ok _ _ _) (fun h => by first | (exact absurd h (by decide)) | (rw [hB, partF_el _ _ _ _ (by omega), if_neg (by omega)])))
          have HLB : Hid (B.length = 64) := Lib.hid (by rw [hB]; exact partF_len _ _ _)
          have hblkB : Hid (Blk wr g 3 (nums .i64 B)) := Lib.hid (by rw [hB]; exact hblk.out)
          have HU := Lib.hid (runsF wr (some ⟨g, 0, none⟩) 64 64 B HLB.out hblkB.out.row_.rd 1)
          rw [HS.out.1] at HU
          clear hB hblk
          go_wp2_with fail
          refine HU.out.mono ?_
          rintro e w5 ⟨⟨A5, c5, rfl, hf5⟩, hb5⟩
          have HB5 := Lib.hid (below_then hbel.out hb5)
          have HF5 := Lib.hid hf5.rd
          have HG5 := Lib.hid (hblkB.out.row_.rd.below hb5)
          clear hbel hf5 hb5 hblkB HU
          go_wp2_with fail
          refine (lawSpreadsF _ A5 _ c5 (runsOf B 1).1 rfl (by have := runsOf_len B 1; omega) HF5.out 1 (some ⟨g, 0, none⟩) 64 64 B 0 HLB.out (by omega) HG5.out HS.out.2).mono ?_
          rintro e w6 ⟨rfl, hb6⟩
          have HB6 := Lib.hid (below_then HB5.out hb6)
          go_wp2
          go_ret
          exact ⟨rfl, HB6.out⟩
    · have hz1 : ((spreadOf l 1).2 == 0) = false := beq_eq_false_iff_ne.2 hz
      clear hz
      clear HL2 HF2
      go_wp2
      obtain ⟨g, hg⟩ : ∃ g : Nat, g = w2.heap.size := ⟨_, rfl⟩
      have hgb : w.heap.size ≤ g := by rw [hg]; exact HB2.out.size
      have hZ : Hid (Blk (w2.alloc (.cells (nums .i64 zeros).toArray 3)) g 3 (nums .i64 (partF (mkN l') 1 1))) := Lib.hid (by rw [hg, partF_start]; exact Blk.new _ _ _)
      have HBz := Lib.hid (below_alloc HB2.out (.cells (nums .i64 zeros).toArray 3))
      rw [← hg]
      clear hg HB2
      go_loopw [12] (fun i wr => ∃ k : Nat, 1 ≤ k ∧ k ≤ 64 ∧ i = .int .i64 k ∧ Hid (Blk wr g 3 (nums .i64 (partF (mkN l') 1 k))) ∧ Hid (Below w.heap.size w wr)) (fun i _ => n' - (intOf i).toNat)
      case atStart => exact ⟨1, by omega, by omega, rfl, hZ, HBz⟩
      case round =>
        clear hZ HBz
        obtain ⟨k, hFk, hk, rfl, hblk, hbel⟩ := hrel
        by_cases hlt : k < n'
        · have hdk : decide ((k : Int) < n') = true := by simp; omega
          obtain ⟨b, o, rfl, hbl, hc⟩ := (HR'.out wr hbel.out).at_ (i := k) (by rw [nums_length, HN'.out]; omega)
          have c0 : wr.cell? ⟨b, o + k, none⟩ = some (.int .i64 (el l' k)) := hc _ _ (nums_get (by rw [HN'.out]; omega))
          have hf := hblk.out.free k
          have hcP : wr.cell? ⟨g, k, none⟩ = some (.int .i64 (el (partF (mkN l') 1 k) k)) := hblk.out.cell (nums_get (by rw [partF_len]; omega))
          have hblk2 : Hid (Blk (wr.setCell ⟨g, k, none⟩ (.int .i64 (mkN l' k))) g 3 (nums .i64 (partF (mkN l') 1 (k + 1)))) := Lib.hid (by
            have := hblk.out.set k (.int .i64 (mkN l' k))
            rw [nums_set, partF_set _ _ _ (by omega)] at this
            exact this)
          have hbel2 := Lib.hid (hbel.out.setCell (p := ⟨g, k, none⟩) hgb (.int .i64 (mkN l' k)))
          obtain ⟨P, hP⟩ : ∃ P, P = pick (el l' k) 255 := ⟨_, rfl⟩
          have hPb : 0 ≤ P ∧ P < 255 := by rw [hP]; exact pick_bd _ _ (by omega)
          have eP : IntKind.i64.wrap (P - 127) = P - 127 := IntWalk.i64_in _ (by omega)
          have e2 : mkN l' k = P - 127 := by rw [hP]; rfl
          have HPK := Lib.hid hP
          have i2 : (k : Int) < 64 := by omega
          rw [e2] at hblk2 hbel2
          clear hc e2 hP
          go_wp2_with fail
          refine (pickF _ (el l' k) 255 (by omega) (by omega)).mono ?_
          rintro e w9 ⟨rfl, rfl⟩
          rw [← HPK.out]
          go_wp2
          go_roundw
          case rel => exact ⟨k + 1, by omega, by omega, by go_num, hblk2, hbel2⟩
          case measure => simp [intOf]; omega
        · have hdk : decide ((k : Int) < n') = false := by simp; omega
          obtain ⟨B, hB⟩ : ∃ B, B = partF (mkN l') 1 k := ⟨_, rfl⟩
          have HS := Lib.hid (back_spread B 1 1 rfl (by omega) (by rw [hB]; exact partF_len _ _ _) (by rw [hB]; exact partF_ok _ _ _) (fun h => by first | (exact absurd h (by decide)) | (rw [hB, partF_el _ _ _ _ (by omega), if_neg (by omega)])))
          have HLB : Hid (B.length = 64) := Lib.hid (by rw [hB]; exact partF_len _ _ _)
          have hblkB : Hid (Blk wr g 3 (nums .i64 B)) := Lib.hid (by rw [hB]; exact hblk.out)
          have HU := Lib.hid (runsF wr (some ⟨g, 0, none⟩) 64 64 B HLB.out hblkB.out.row_.rd 1)
          rw [HS.out.1] at HU
          clear hB hblk
          go_wp2_with fail
          refine HU.out.mono ?_
          rintro e w5 ⟨⟨A5, c5, rfl, hf5⟩, hb5⟩
          have HB5 := Lib.hid (below_then hbel.out hb5)
          have HF5 := Lib.hid hf5.rd
          have HG5 := Lib.hid (hblkB.out.row_.rd.below hb5)
          clear hbel hf5 hb5 hblkB HU
          go_wp2_with fail
          refine (lawSpreadsF _ A5 _ c5 (runsOf B 1).1 rfl (by have := runsOf_len B 1; omega) HF5.out 1 (some ⟨g, 0, none⟩) 64 64 B 0 HLB.out (by omega) HG5.out HS.out.2).mono ?_
          rintro e w6 ⟨rfl, hb6⟩
          have HB6 := Lib.hid (below_then HB5.out hb6)
          go_wp2
          go_ret
          exact ⟨rfl, HB6.out⟩

theorem scanBack_walk (a0 : Option Addr) (len0 cap0 : Nat) (z0 : List (Int × Int)) (a1 : Option Addr) (len1 cap1 : Nat) (z1 : List Int) (a2 : Bool) (w : World) (w0 : IsPairs w a0 len0 cap0 z0) (w1 : IsRow .i64 w a1 len1 cap1 z1) :
    Calls Try.prog 7 #[.slice a0 len0 cap0, .slice a1 len1 cap1, .bool a2] w fun e w' => e = .returned (.bool true) ∧ Below w.heap.size w w' := by
  obtain ⟨h1, h2, h3, h4, h5⟩ := w0
  obtain ⟨k1, k2, k3, k4, k5⟩ := w1.rd
  by_cases h : 70 < len0 ∨ 64 < len1
  · exact back_long w a0 a1 len0 cap0 len1 cap1 a2 h (by omega) (by omega)
  · exact back_short w a0 a1 len0 cap0 len1 cap1 z0 _ h1 k1 (by omega) (by omega) h4 k4 a2 _ rfl
end Go.Proofs.Ythjpdcbcgagbjaa
