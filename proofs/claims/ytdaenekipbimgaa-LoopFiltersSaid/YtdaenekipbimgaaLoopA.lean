/- The walks of loop.view.at and loop.view.soften; no conditions but the bounds that they name. -/
import Derived.Test.YtdaenekipbimgaaKit
import Derived.Test.YtdaenekipbimgaaLoopP
import Derived.Test.YtdaenekipbimgaaProg

set_option linter.unusedVariables false
set_option linter.unusedSimpArgs false
namespace Go.Proofs.Ytdaenekipbimgaa
open Go.RowKit

set_option maxHeartbeats 400000 in
theorem at_calls (w : World) (b s t : Nat) (i : Int) (n : Nat) (hn : (s : Int) + i * t = n) (hlt : n < 64) (hs : s < 64) :
    Calls Try.prog 27 #[.agg #[.pointer (some ⟨b, 0, none⟩), .int .i64 s, .int .i64 t], .int .i64 i] w fun e w' => e = .returned (.pointer (some ⟨b, n, none⟩)) ∧ Below w.heap.size w w' := by
  have h0 : 0 ≤ (s : Int) + i * t := by omega
  have h1 : (s : Int) + i * t < 64 := by omega
  have hp0 : -64 ≤ i * t := by omega
  have hp1 : i * t ≤ 64 := by omega
  have he : ((s : Int) + i * t).toNat = n := by omega
  have HE := Lib.hid he
  clear he hn hlt
  go_enter Try.func27, Try.ntmps27
  go_wp2
  go_quiet (fail)
  go_wp2
  go_ret
  refine ⟨?_, below_drewN (below_alloc (Below.refl _ _) _) _⟩
  rw [← HE.out]
  rfl

theorem outs_get (g : Nat → Int) (k : Nat) (hk : k < 8) : (nums .i64 (outs g 8))[k]? = some (.int .i64 (soft8 g k)) := by
  rw [nums_get (by rw [outs_len]; exact hk), outs_el _ _ hk]

set_option maxHeartbeats 1000000 in
theorem soften_calls (w : World) (b s t : Nat) (xs : List Int) (hx : Blk w b 44 (nums .i64 xs)) (hl : xs.length = 64) (hst : s + 7 * t < 64)
    (hb : ∀ i, i < 8 → -2199023255552 ≤ line xs s t i ∧ line xs s t i ≤ 2199023255552) :
    Calls Try.prog 26 #[.agg #[.pointer (some ⟨b, 0, none⟩), .int .i64 s, .int .i64 t]] w fun e w' => e = .returned (.tuple #[]) ∧ Blk w' b 44 (nums .i64 (puts xs s t 8)) ∧ Mod (· = b) w w' := by
  have hblt := hx.lt
  have HB := Lib.hid hb
  have HL := Lib.hid hl
  clear hb hl
  go_enter Try.func26, Try.ntmps26
  go_wp2
  go_loopw [7] (fun i wr => ∃ k : Nat, k ≤ 8 ∧ i = .int .i64 k ∧ Blk wr (w.heap.size + 1) 48 (nums .i64 (outs (line xs s t) k)) ∧ Blk wr w.heap.size 47 [.pointer (some ⟨b, 0, none⟩), .int .i64 s, .int .i64 t] ∧ Below w.heap.size w wr)
    (fun i _ => 8 - (intOf i).toNat)
  case atStart => exact ⟨0, by omega, rfl, by rw [outs_zero]; simpa [nums] using Blk.new (w.alloc (.cells #[.pointer (some ⟨b, 0, none⟩), .int .i64 s, .int .i64 t] 47)) 48 (nums .i64 (List.replicate 8 0)), (Blk.new w 47 [.pointer (some ⟨b, 0, none⟩), .int .i64 s, .int .i64 t]).alloc _, below_alloc (below_alloc (Below.refl _ _) _) _⟩
  case round =>
    obtain ⟨k, hk, rfl, ho, hv, hbel⟩ := hrel
    have hv0 := hv.cell (i := 0) rfl
    have hv1 := hv.cell (i := 1) rfl
    have hv2 := hv.cell (i := 2) rfl
    by_cases hlt : k < 8
    · have hkt : k * t ≤ 7 * t := Nat.mul_le_mul_right _ (by omega)
      have hbk := HB.out k hlt
      have hkt0 : (k - 1) * t ≤ 7 * t := Nat.mul_le_mul_right _ (by omega)
      have hkt1 : k < 7 → (k + 1) * t ≤ 7 * t := fun _ => Nat.mul_le_mul_right _ (by omega)
      go_wp2_with fail
      refine (at_calls _ b s t k (s + k * t) (by simp) (by omega) (by omega)).mono ?_
      rintro e w1 ⟨rfl, hb1⟩
      have hbel1 := below_then hbel hb1
      have hx1 := (hx.below hbel1).cell (i := s + k * t) (v := .int .i64 (line xs s t k)) (nums_get (by rw [HL.out]; omega))
      have ho1 := ho.below hb1
      have hoc := ho1.cell (nums_get (xs := outs (line xs s t) k) (i := k) (by rw [outs_len]; omega))
      have hof := ho1.free k
      clear ho hv0 hv1 hv2 
      have hv1 := hv.below hb1
      by_cases hk0 : k = 0
      · have h0 : (k : Int) ≤ 0 := by omega
        clear hk0
        go_wp2
        go_roundw
        case rel =>
          refine ⟨k + 1, by omega, by go_num, ?_, (hv1.far (by simp) _), hbel1.setCell (by simp) _⟩
          rw [← outs_set, ← nums_set]
          have e : soft8 (line xs s t) k = 4 * line xs s t k := by unfold soft8; rw [if_pos (by omega)]
          rw [e]
          exact ho1.set _ _
        case measure => simp [intOf]; omega
      · by_cases hk7 : k = 7
        · have h7 : 7 ≤ (k : Int) := by omega
          clear hk7
          go_wp2
          go_roundw
          case rel =>
            refine ⟨k + 1, by omega, by go_num, ?_, (hv1.far (by simp) _), hbel1.setCell (by simp) _⟩
            rw [← outs_set, ← nums_set]
            have e : soft8 (line xs s t) k = 4 * line xs s t k := by unfold soft8; rw [if_pos (by omega)]
            rw [e]
            exact ho1.set _ _
          case measure => simp [intOf]; omega
        · have h0 : (0 : Int) < k := by omega
          have h7 : (k : Int) < 7 := by omega
          have hvc0 := hv1.cell (i := 0) rfl
          have hvc1 := hv1.cell (i := 1) rfl
          have hvc2 := hv1.cell (i := 2) rfl
          go_wp2
          have ea : (s + (k - 1) * t : Int).toNat = s + (k - 1) * t := by
            have : ((k : Int) - 1) * t = ((k - 1 : Nat) : Int) * t := by rw [show ((k - 1 : Nat) : Int) = (k : Int) - 1 by omega]
            rw [this, ← Int.natCast_mul]; omega
          have eb : (s + (k + 1) * t : Int).toNat = s + (k + 1) * t := by
            have : ((k : Int) + 1) * t = ((k + 1 : Nat) : Int) * t := by rw [show ((k + 1 : Nat) : Int) = (k : Int) + 1 by omega]
            rw [this, ← Int.natCast_mul]; omega
          have pa : (s + (k - 1) * t : Int) = (s + (k - 1) * t : Nat) := by
            have : ((k : Int) - 1) * t = ((k - 1 : Nat) : Int) * t := by rw [show ((k - 1 : Nat) : Int) = (k : Int) - 1 by omega]
            rw [this, ← Int.natCast_mul]; omega
          have pb : (s + (k + 1) * t : Int) = (s + (k + 1) * t : Nat) := by
            have : ((k : Int) + 1) * t = ((k + 1 : Nat) : Int) * t := by rw [show ((k + 1 : Nat) : Int) = (k : Int) + 1 by omega]
            rw [this, ← Int.natCast_mul]; omega
          have HS : ∀ W, Mod (· = w.heap.size + 1) w1 W → BlkBut W (w.heap.size + 1) 48 (nums .i64 (outs (line xs s t) k)) k → W.cell? ⟨w.heap.size, 0, none⟩ = some (.pointer (some ⟨b, 0, none⟩)) ∧ W.cell? ⟨w.heap.size, 1, none⟩ = some (.int .i64 s) ∧ W.cell? ⟨w.heap.size, 2, none⟩ = some (.int .i64 t) ∧ W.cell? ⟨b, (s + (k - 1) * t : Int).toNat, none⟩ = some (.int .i64 (line xs s t (k - 1))) ∧ W.cell? ⟨b, (s + (k + 1) * t : Int).toNat, none⟩ = some (.int .i64 (line xs s t (k + 1))) ∧ W.cell? ⟨w.heap.size + 1, k, none⟩ = some (cellOf W ⟨w.heap.size + 1, k, none⟩) ∧ W.frozen? ⟨w.heap.size + 1, k, none⟩ = false ∧ BlkBut W (w.heap.size + 1) 48 (nums .i64 (outs (line xs s t) k)) k ∧ Mod (· = w.heap.size + 1) w1 W := fun W hW hO =>
            have hx2 := (hx.below hbel1).mod hW (by omega)
            have hv2 := hv1.mod hW (by omega)
            ⟨hv2.cell rfl, hv2.cell rfl, hv2.cell rfl, by rw [ea]; exact hx2.cell (nums_get (by rw [HL.out]; omega)), by rw [eb]; exact hx2.cell (nums_get (by rw [HL.out]; omega)), hO.cell (by rw [nums_length, outs_len]; omega), hO.free _, hO, hW⟩
          have HSH := Lib.hid HS
          have HC := fun W (i : Int) (hi : i = (k : Int) - 1 ∨ i = (k : Int) + 1) => at_calls W b s t i (s + i * t : Int).toNat (by rcases hi with rfl | rfl; rw [pa]; omega; rw [pb]; omega) (by rcases hi with rfl | rfl; rw [pa]; omega; rw [pb]; omega) (by omega)
          clear HS ea eb pa pb
          have hba := HB.out (k - 1) (by omega)
          have hbb := HB.out (k + 1) (by omega)
          have e1 : IntKind.i64.wrap ((k : Int) - 1) = (k : Int) - 1 := IntWalk.i64_in _ (by omega)
          have e2 : IntKind.i64.wrap ((k : Int) + 1) = (k : Int) + 1 := IntWalk.i64_in _ (by omega)
          have e3 : IntKind.i64.wrap (2 * line xs s t k) = 2 * line xs s t k := IntWalk.i64_in _ (by omega)
          have e4 : IntKind.i64.wrap (line xs s t (k - 1) + 2 * line xs s t k) = line xs s t (k - 1) + 2 * line xs s t k := IntWalk.i64_in _ (by omega)
          have e5 : IntKind.i64.wrap (line xs s t (k - 1) + 2 * line xs s t k + line xs s t (k + 1)) = line xs s t (k - 1) + 2 * line xs s t k + line xs s t (k + 1) := IntWalk.i64_in _ (by omega)
          go_region_held3 (fun W => W.cell? ⟨w.heap.size, 0, none⟩ = some (.pointer (some ⟨b, 0, none⟩)) ∧ W.cell? ⟨w.heap.size, 1, none⟩ = some (.int .i64 s) ∧ W.cell? ⟨w.heap.size, 2, none⟩ = some (.int .i64 t) ∧ W.cell? ⟨b, (s + (k - 1) * t : Int).toNat, none⟩ = some (.int .i64 (line xs s t (k - 1))) ∧ W.cell? ⟨b, (s + (k + 1) * t : Int).toNat, none⟩ = some (.int .i64 (line xs s t (k + 1))) ∧ W.cell? ⟨w.heap.size + 1, k, none⟩ = some (cellOf W ⟨w.heap.size + 1, k, none⟩) ∧ W.frozen? ⟨w.heap.size + 1, k, none⟩ = false ∧ BlkBut W (w.heap.size + 1) 48 (nums .i64 (outs (line xs s t) k)) k ∧ Mod (· = w.heap.size + 1) w1 W)
            (first | exact HSH.out _ (Mod.drew (Mod.refl _ _)) ((Blk.drew ho1).but _) | (go_split_ands; exact HSH.out _ (Mod.add (by assumption) hb2) (BlkBut.below (by assumption) hb2)) | (go_split_ands; exact HSH.out _ (Mod.set1 (by assumption) _) (BlkBut.set (by assumption) _)))
            (first | (go_at_call 27; refine (HC _ _ (by omega)).mono ?_; rintro e w2 ⟨rfl, hb2⟩))
          go_wp2
          have hm : Below w1.heap.size w1 w2 := below_then (below_then (below_drewN (Below.refl w1.heap.size w1) 1) (by assumption)) hb2
          go_roundw
          case rel =>
            refine ⟨k + 1, by omega, by go_num, ?_, ((hv1.below hm).far (by simp) _), (below_then hbel1 hm).setCell (by simp) _⟩
            rw [← outs_set, ← nums_set]
            have e : soft8 (line xs s t) k = line xs s t (k - 1) + 2 * line xs s t k + line xs s t (k + 1) := by unfold soft8; rw [if_neg (by omega)]
            rw [e]
            exact (ho1.below hm).set _ _
          case measure => simp [intOf]; omega
    · obtain rfl : k = 8 := by omega
      clear hv0 hv1 hv2
      go_wp2_with (refine wpList_load_row rfl 48 _ rfl (w.heap.size + 1) rfl 48 (nums .i64 (outs (line xs s t) 8)).toArray (0, 0) _ ho Try.underlying48 rfl (by kernel_rfl) ?_)
      obtain ⟨wo, rfl⟩ : ∃ wo : World, wo = wr := ⟨_, rfl⟩
      go_loopw [44] (fun i wr => ∃ k : Nat, k ≤ 8 ∧ i = .int .i64 k ∧ Blk wr b 44 (nums .i64 (puts xs s t k)) ∧ Blk wr w.heap.size 47 [.pointer (some ⟨b, 0, none⟩), .int .i64 s, .int .i64 t] ∧ Mod (· = b) w wr)
        (fun i _ => 8 - (intOf i).toNat)
      case atStart => exact ⟨0, by omega, rfl, hx.below hbel, hv, Mod.of_below hbel⟩
      case round =>
        obtain ⟨k, hk, rfl, hx, hv, hmod⟩ := hrel
        have hv0 := hv.cell (i := 0) rfl
        have hv1 := hv.cell (i := 1) rfl
        have hv2 := hv.cell (i := 2) rfl
        by_cases hlt : k < 8
        · have hkt : k * t ≤ 7 * t := Nat.mul_le_mul_right _ (by omega)
          have hix := run_index_agg (P := Try.prog) 48 3 8 (nums .i64 (outs (line xs s t) 8)) .i64 .i64 k _ Try.underlying48 (by rw [nums_length, outs_len]) Try.underlying3 (by kernel_rfl) (outs_get _ _ hlt)
          go_wp2_with fail
          refine (at_calls _ b s t k (s + k * t) (by simp) (by omega) (by omega)).mono ?_
          rintro e w1 ⟨rfl, hb1⟩
          have hx1 := hx.below hb1
          have hxc := hx1.cell (i := s + k * t) (nums_get (by rw [puts_len, HL.out]; omega))
          have hxf := hx1.free (s + k * t)
          have hm1 := hmod.add hb1
          clear hv0 hv1 hv2
          go_wp2
          go_roundw
          case rel =>
            refine ⟨k + 1, by omega, by go_num, ?_, (hv.below hb1).far (by simp; omega) _, hm1.set1 _⟩
            rw [puts_succ, ← nums_set]
            exact hx1.set _ _
          case measure => simp [intOf]; omega
        · obtain rfl : k = 8 := by omega
          clear hv0 hv1 hv2
          go_wp2
          go_end0
          exact ⟨rfl, hx, hmod⟩
theorem soften_at (w : World) (b s t : Nat) (si ti : Int) (xs : List Int) (hsi : si = s) (hti : ti = t) (hx : Blk w b 44 (nums .i64 xs)) (hl : xs.length = 64) (hst : s + 7 * t < 64)
    (hb : ∀ i, i < 8 → -2199023255552 ≤ line xs s t i ∧ line xs s t i ≤ 2199023255552) :
    Calls Try.prog 26 #[.agg #[.pointer (some ⟨b, 0, none⟩), .int .i64 si, .int .i64 ti]] w fun e w' => e = .returned (.tuple #[]) ∧ Blk w' b 44 (nums .i64 (puts xs s t 8)) ∧ Mod (· = b) w w' := by
  subst hsi hti
  exact soften_calls w b s t xs hx hl hst hb
end Go.Proofs.Ytdaenekipbimgaa
