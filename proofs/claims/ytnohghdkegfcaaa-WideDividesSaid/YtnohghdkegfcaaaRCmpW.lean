/- The walks of the reference's Mul and Compare. -/
import Derived.Test.YtnohghdkegfcaaaRTimesW
import Derived.Test.YtnohghdkegfcaaaRSumW
import Derived.BigQuiet
import Derived.Deep.QuietTactic
namespace Go.Proofs.Ytnohghdkegfcaaa
open Go.RowKit

theorem rtimes_low (a b : Nat) (ha : a < 18446744073709551616) (hb : b < 18446744073709551616) (w : World) :
    Calls Try.prog 16 #[.agg #[.int .u64 0, .int .u64 a], .int .u64 b] w fun e w' => e = .returned (.tuple #[wv (a * b), .int .i64 0]) ∧ Below w.heap.size w w' := by
  have h := rtimes_any a b (by unfold W128; omega) hb w
  have e : wv a = .agg #[.int .u64 0, .int .u64 a] := by unfold wv; rw [(hi_low ha).1, (hi_low ha).2]; rfl
  have hm : a * b ≤ 18446744073709551615 * 18446744073709551615 := Nat.mul_le_mul (by omega) (by omega)
  have e2 : timesR a b = (a * b, 0) := if_pos (by unfold W128; omega)
  rw [e, e2] at h
  exact h

set_option maxRecDepth 100000 in
set_option maxHeartbeats 400000 in
theorem rmul_any (a b : Nat) (ha : a < 18446744073709551616) (hb : b < 18446744073709551616) (w : World) :
    Calls Try.prog 17 #[.int .u64 a, .int .u64 b] w fun e w' => e = .returned (wv (a * b)) ∧ Below w.heap.size w w' := by
  have HA := Lib.hid ha
  have HB := Lib.hid hb
  clear ha hb
  go_enter Try.func17, Try.ntmps17
  go_wp2_with fail
  refine (rtimes_low a b HA.out HB.out _).mono ?_
  rintro e w1 ⟨rfl, hb1⟩
  obtain ⟨hc1, hf1⟩ := bcell hb1
  have hz : w.heap.size < w1.heap.size := by have := hb1.size; simp at this; omega
  have r1 : w1.cell? ⟨w.heap.size, 0, none⟩ = some (.int .u64 0) := by rw [hc1 _ _ (by simp)]; simp
  have r2 : w1.cell? ⟨w.heap.size, 1, none⟩ = some (.int .u64 0) := by rw [hc1 _ _ (by simp)]; simp
  have r3 : w1.frozen? ⟨w.heap.size, 0, none⟩ = false := by rw [hf1 _ _ (by simp)]; simp [go_sem]
  have r4 : w1.frozen? ⟨w.heap.size, 1, none⟩ = false := by rw [hf1 _ _ (by simp)]; simp [go_sem]
  have kb : Below w.heap.size w w1 := below_then ((Below.refl _ _).alloc (Nat.le_refl _) _) hb1
  clear hc1 hf1 hb1
  go_wp2_with fail
  obtain ⟨q1, q2⟩ := set2a (u := .int .u64 (hiW (a * b))) (v := .int .u64 (loW (a * b))) r1 r2 hz (.cells #[.int .u64 (hiW (a * b)), .int .u64 (loW (a * b))] 24)
  refine bodyPost_ret (v := wv (a * b)) ?_ rfl ⟨rfl, ((kb.setCell (by simp) _).setCell (by simp) _).alloc (by have := kb.size; simp; omega) _⟩
  simp [results, Try.results17, go_sem, q1, q2]

theorem valF_less {f g : Nat → Nat} {i n : Nat} (hf : ∀ j, f j < 4294967296) (hi : i < n) (he : ∀ j, i < j → j < n → f j = g j) (hl : f i < g i) : valF f n < valF g n := by
  induction n with
  | zero => omega
  | succ n ih =>
    by_cases h : i = n
    · subst h
      rw [valF, valF]
      have h1 := valF_lt hf i
      have h2 : (f i + 1) * 4294967296 ^ i ≤ g i * 4294967296 ^ i := Nat.mul_le_mul_right _ hl
      rw [Nat.add_mul] at h2
      omega
    · rw [valF, valF, he n (by omega) (by omega)]
      have := ih (by omega) (fun j h1 h2 => he j h1 (by omega))
      omega
theorem dig_less {A B i : Nat} (hA : A < W128) (hB : B < W128) (hi : i < 4) (he : ∀ j, i < j → j < 4 → dig A j = dig B j) (hl : dig A i < dig B i) : A < B := by
  have h := valF_less (dig_lt A) hi he hl
  rwa [dig_val4 hA, dig_val4 hB] at h
theorem dig_same {A B : Nat} (hA : A < W128) (hB : B < W128) (he : ∀ j, j < 4 → dig A j = dig B j) : A = B := by
  have h := valF_congr he
  rwa [dig_val4 hA, dig_val4 hB] at h
theorem laid2b_below (w : World) (A B : Nat) : Below w.heap.size w ((w.alloc (.cells #[.int .u64 (hiW A), .int .u64 (loW A)] 24)).alloc (.cells #[.int .u64 (hiW B), .int .u64 (loW B)] 24)) := ((Below.refl _ _).alloc (Nat.le_refl _) _).alloc (by simp) _

set_option maxRecDepth 100000 in
set_option maxHeartbeats 2000000 in
theorem rcompare_any (A B : Nat) (hA : A < W128) (hB : B < W128) (w : World) :
    Calls Try.prog 18 #[wv A, wv B] w fun e w' => e = .returned (.int .i64 (cmpR A B)) ∧ Below w.heap.size w w' := by
  have HA := Lib.hid hA
  have HB := Lib.hid hB
  clear hA hB
  go_enter Try.func18, Try.ntmps18
  go_wp2_with fail
  refine (of_any A HA.out _).mono ?_
  rintro e w1 ⟨rfl, hat1, hl1, hb1⟩
  have hz1 : w.heap.size + 1 < w1.heap.size := by simp at hl1; omega
  obtain ⟨hc1, _⟩ := bcell hb1
  have b1 : w1.cell? ⟨w.heap.size + 1, 0, none⟩ = some (.int .u64 (hiW B)) := by rw [hc1 _ _ (by simp)]; simp
  have b2 : w1.cell? ⟨w.heap.size + 1, 1, none⟩ = some (.int .u64 (loW B)) := by rw [hc1 _ _ (by simp)]; simp
  clear hc1
  go_wp2_with fail
  refine (of_any B HB.out _).mono ?_
  rintro e w2 ⟨rfl, hat2, hl2, hb2⟩
  have s2 : Below w.heap.size w w2 := below_then (below_then (laid2b_below w A B) hb1) hb2
  simp only [World.size_alloc] at hat1 hl1
  have ha1 : At w2 (w.heap.size + 1 + 1 + 1) 4 (dig A) := at_below hat1 hb2 hl1
  have hl3 : w.heap.size + 1 + 1 + 1 < w2.heap.size := by have := hb2.size; omega
  clear hat1 hl1 hb1 hb2 b1 b2
  generalize hgx : w.heap.size + 1 + 1 + 1 = gx at *
  generalize hgy : w1.heap.size + 1 = gy at *
  clear hgy
  go_wp2_with fail
  go_loopw [7] (fun i wr => ∃ k : Nat, k ≤ 4 ∧ i = .int .i64 ((k : Int) - 1) ∧ (∀ j, k ≤ j → j < 4 → dig A j = dig B j) ∧ Below w2.heap.size w2 wr)
    (fun i _ => (intOf i + 1).toNat)
  case atStart => exact ⟨4, by omega, rfl, fun j h1 h2 => by omega, Below.refl _ _⟩
  case round =>
    obtain ⟨k, hk, rfl, hs, hbw⟩ := hrel
    have HS : Hid (∀ j, k ≤ j → j < 4 → dig A j = dig B j) := hs
    clear hs
    have s3 := below_then s2 hbw
    rcases Nat.eq_zero_or_pos k with rfl | hk0
    · have hv : Hid (cmpR A B = 0) := by show _ = _; rw [dig_same HA.out HB.out (fun j hj => HS.out j (by omega) hj)]; exact if_pos rfl
      go_wp2_with fail
      go_ret
      rw [hv.out]; exact ⟨rfl, s3⟩
    · obtain ⟨i, rfl⟩ : ∃ i, k = i + 1 := ⟨k - 1, by omega⟩
      have e0 : ((i + 1 : Nat) : Int) - 1 = (i : Int) := by omega
      rw [e0]
      have hcx : wr.cell? ⟨gx, i, none⟩ = some (.int .u64 (dig A i)) := (hbw.cell (p := ⟨gx, i, none⟩) hl3).trans (ha1 i (by omega))
      have hcy : wr.cell? ⟨gy, i, none⟩ = some (.int .u64 (dig B i)) := (hbw.cell (p := ⟨gy, i, none⟩) hl2).trans (hat2 i (by omega))
      have k0 : (0 : Int) ≤ (i : Int) := by omega
      have k4 : (i : Int) < 4 := by omega
      by_cases h1 : dig A i < dig B i
      · have hlt := dig_less HA.out HB.out (by omega) (fun j h2 h3 => HS.out j h2 h3) h1
        have hv : Hid (cmpR A B = -1) := by show cmpR A B = -1; unfold cmpR; rw [if_neg (by omega), if_pos hlt]
        clear hlt
        go_wp2_with fail
        go_quiet (fail)
        go_wp2_with fail
        go_ret
        rw [hv.out]; exact ⟨rfl, below_drewN s3 _⟩
      · by_cases h2 : dig B i < dig A i
        · have hlt := dig_less HB.out HA.out (by omega) (fun j h2 h3 => (HS.out j h2 h3).symm) h2
          have hv : Hid (cmpR A B = 1) := by show cmpR A B = 1; unfold cmpR; rw [if_neg (by omega), if_neg (by omega)]
          clear hlt
          go_wp2_with fail
          go_quiet (fail)
          go_wp2_with fail
          go_quiet (fail)
          go_wp2_with fail
          go_ret
          rw [hv.out]; exact ⟨rfl, by first | exact below_drewN (below_drewN s3 _) _ | exact below_drewN s3 _⟩
        · have he : dig A i = dig B i := by omega
          have HE : Hid (dig A i = dig B i) := he
          clear he
          go_wp2_with fail
          go_quiet (fail)
          go_wp2_with fail
          go_quiet (fail)
          go_wp2_with fail
          go_roundw
          case rel =>
            refine ⟨i, by omega, by go_num, fun j h1 h2 => ?_, by first | exact below_drewN (below_drewN hbw _) _ | exact below_drewN hbw _⟩
            rcases Nat.lt_or_ge i j with h | h
            · exact HS.out j h h2
            · exact (show j = i by omega) ▸ HE.out
          case measure => simp [intOf]
end Go.Proofs.Ytnohghdkegfcaaa
