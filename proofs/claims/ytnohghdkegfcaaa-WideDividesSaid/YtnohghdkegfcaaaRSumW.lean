/- The walks of the reference's Add and Sum. -/
import Derived.Test.YtnohghdkegfcaaaRPlusW
import Derived.Deep.RegionLaw
namespace Go.Proofs.Ytnohghdkegfcaaa
open Go.RowKit

theorem hi_low {X : Nat} (h : X < 18446744073709551616) : hiW X = 0 ∧ loW X = X := by unfold hiW loW; omega
theorem rplus_low (A b : Nat) (hA : A < W128) (hb : b < 18446744073709551616) (w : World) :
    Calls Try.prog 14 #[wv A, .agg #[.int .u64 0, .int .u64 b]] w fun e w' => e = .returned (.tuple #[wv (plusR A b).1, .int .i64 (plusR A b).2]) ∧ Below w.heap.size w w' := by
  have h := rplus_any A b hA (by unfold W128; omega) w
  have e : wv b = .agg #[.int .u64 0, .int .u64 b] := by unfold wv; rw [(hi_low hb).1, (hi_low hb).2]; rfl
  rw [e] at h
  exact h
theorem rplus_lows (a b : Nat) (ha : a < 18446744073709551616) (hb : b < 18446744073709551616) (w : World) :
    Calls Try.prog 14 #[.agg #[.int .u64 0, .int .u64 a], .agg #[.int .u64 0, .int .u64 b]] w fun e w' => e = .returned (.tuple #[wv (a + b), .int .i64 0]) ∧ Below w.heap.size w w' := by
  have h := rplus_low a b (by unfold W128; omega) hb w
  have e : wv a = .agg #[.int .u64 0, .int .u64 a] := by unfold wv; rw [(hi_low ha).1, (hi_low ha).2]; rfl
  have e2 : plusR a b = (a + b, 0) := if_pos (by unfold W128; omega)
  rw [e, e2] at h
  exact h

set_option maxRecDepth 100000 in
set_option maxHeartbeats 400000 in
theorem radd_any (a b : Nat) (ha : a < 18446744073709551616) (hb : b < 18446744073709551616) (w : World) :
    Calls Try.prog 20 #[.int .u64 a, .int .u64 b] w fun e w' => e = .returned (.tuple #[.int .u64 (addR a b).1, .int .i64 (addR a b).2]) ∧ Below w.heap.size w w' := by
  have HA := Lib.hid ha
  have HB := Lib.hid hb
  have hw : (hiW (a + b) = 0 ∧ addR a b = (loW (a + b), 0)) ∨ (0 < hiW (a + b) ∧ addR a b = (0, 9)) := by
    unfold addR hiW loW
    by_cases h : a + b < 18446744073709551616
    · left; rw [if_pos h]; refine ⟨by omega, ?_⟩; congr 1; omega
    · right; rw [if_neg h]; exact ⟨by omega, rfl⟩
  clear ha hb
  go_enter Try.func20, Try.ntmps20
  go_wp2_with fail
  refine (rplus_lows a b HA.out HB.out _).mono ?_
  rintro e w1 ⟨rfl, hb1⟩
  rcases hw with ⟨h1, h2⟩ | ⟨h1, h2⟩
  · have HV : Hid (addR a b = (loW (a + b), 0)) := h2
    clear h2
    go_wp2_with fail
    go_ret2
    rw [HV.out]; exact ⟨rfl, hb1.alloc hb1.size _⟩
  · have HV : Hid (addR a b = (0, 9)) := h2
    clear h2
    go_wp2_with fail
    go_ret2
    rw [HV.out]; exact ⟨rfl, hb1.alloc hb1.size _⟩

theorem sumF_bound {f : Nat → Nat} (hf : ∀ i, f i < 18446744073709551616) (k : Nat) : sumF f k ≤ k * 18446744073709551616 := by
  induction k with
  | zero => unfold sumF; omega
  | succ k ih => unfold sumF; have := hf k; omega

set_option maxRecDepth 100000 in
set_option maxHeartbeats 2000000 in
theorem rsum_some (x : Addr) (len cap : Nat) (f : Nat → Nat) (hlen : len ≤ 4096) (w : World) (hc : ∀ i, i < len → w.cell? (x.add i) = some (.int .u64 (f i))) (hf : ∀ i, f i < 18446744073709551616) :
    Calls Try.prog 22 #[.slice (some x) len cap] w fun e w' => e = .returned (.tuple #[.int .u64 (sumR f len).1, .int .i64 (sumR f len).2]) ∧ Below w.heap.size w w' := by
  have HF := Lib.hid hf
  have HC := Lib.hid hc
  clear hf hc
  obtain ⟨b, off, sub⟩ := x
  go_enter Try.func22, Try.ntmps22
  go_wp2_with fail
  go_loopw [5] (fun i wr => ∃ k : Nat, k ≤ len ∧ i = .int .i64 k ∧ wr.cell? ⟨w.heap.size, 0, none⟩ = some (.int .u64 (hiW (sumF f k))) ∧ wr.cell? ⟨w.heap.size, 1, none⟩ = some (.int .u64 (loW (sumF f k))) ∧
      wr.frozen? ⟨w.heap.size, 0, none⟩ = false ∧ wr.frozen? ⟨w.heap.size, 1, none⟩ = false ∧ w.heap.size < wr.heap.size ∧ Below w.heap.size w wr)
    (fun i _ => len - (intOf i).toNat)
  case atStart => exact ⟨0, by omega, rfl, by simp [sumF, hiW], by simp [sumF, loW], by simp [go_sem], by simp [go_sem], by simp, (Below.refl _ _).alloc (Nat.le_refl _) _⟩
  case round =>
    obtain ⟨k, hk, rfl, c1, c2, f1, f2, hlt, hbw⟩ := hrel
    have HS : Hid (sumF f k < W128) := by show _ < _; have := sumF_bound HF.out k; unfold W128; omega
    by_cases hkl : k < len
    · have hxb : b < w.heap.size := by have := World.block_lt_of_cell? w _ (HC.out k hkl); revert this; simp only [Addr.add]; split <;> exact id
      have hck := (hbw.cell (p := (⟨b, off, sub⟩ : Addr).add k) (by simp only [Addr.add]; split <;> exact hxb)).trans (HC.out k hkl)
      have k0 : (0 : Int) ≤ (k : Int) := by omega
      have kl : (k : Int) < (len : Int) := by omega
      have hp : Hid (plusR (sumF f k) (f k) = (sumF f (k + 1), 0)) := if_pos (by have := sumF_bound HF.out (k + 1); show sumF f (k + 1) < _; unfold W128; omega)
      go_wp2_with fail
      have ck := hck
      simp only [Addr.add] at ck
      go_region_law
        (first
          | (go_simp; go_at_call 14; refine (rplus_low (sumF f k) (f k) HS.out (HF.out k) _).mono ?_; rintro e w3 ⟨rfl, hb3⟩; rw [hp.out]; have d1 := keep_cell hb3 (by simpa using c1); have d2 := keep_cell hb3 (by simpa using c2); have d3 := keep_frozen hb3 (by simpa using c1) (by simpa using f1); have d4 := keep_frozen hb3 (by simpa using c2) (by simpa using f2); have hlt3 : w.heap.size < w3.heap.size := Nat.lt_of_lt_of_le (by simpa using hlt) hb3.size; have hbw3 : Below w.heap.size w w3 := below_then (by first | exact hbw | exact hbw.drew) hb3; have hck := (hbw3.cell (p := (⟨b, off, sub⟩ : Addr).add k) (by simp only [Addr.add]; split <;> exact hxb)).trans (HC.out k hkl))
          | (go_at_call 14; refine (rplus_low (sumF f k) (f k) HS.out (HF.out k) _).mono ?_; rintro e w3 ⟨rfl, hb3⟩; rw [hp.out]; have d1 := keep_cell hb3 (by simpa using c1); have d2 := keep_cell hb3 (by simpa using c2); have d3 := keep_frozen hb3 (by simpa using c1) (by simpa using f1); have d4 := keep_frozen hb3 (by simpa using c2) (by simpa using f2); have hlt3 : w.heap.size < w3.heap.size := Nat.lt_of_lt_of_le (by simpa using hlt) hb3.size; have hbw3 : Below w.heap.size w w3 := below_then (by first | exact hbw | exact hbw.drew) hb3; have hck := (hbw3.cell (p := (⟨b, off, sub⟩ : Addr).add k) (by simp only [Addr.add]; split <;> exact hxb)).trans (HC.out k hkl)))
      all_goals
        clear hb3 hbw c1 c2 f1 f2 hlt
        go_wp2_with fail
        go_roundw
        case rel =>
          obtain ⟨q1, q2⟩ := set2 (u := .int .u64 (hiW (sumF f (k + 1)))) (v := .int .u64 (loW (sumF f (k + 1)))) d1 d2
          exact ⟨k + 1, by omega, by go_num, by first | exact q1 | simpa using q1, by first | exact q2 | simpa using q2, by simpa using d3, by simpa using d4, by simpa using hlt3, by first | exact (hbw3.setCell (by simp) _).setCell (by simp) _ | exact ((hbw3.setCell (by simp) _).setCell (by simp) _).drew⟩
        case measure => simp [intOf]; omega
    · obtain rfl : k = len := by omega
      by_cases h : sumF f k < 18446744073709551616
      · have h1 := hi_low h
        have hv : Hid (sumR f k = (loW (sumF f k), 0)) := by show _ = _; unfold sumR; rw [if_pos h, h1.2]
        rw [h1.1] at c1
        clear h h1
        go_wp2_with fail
        go_ret2
        rw [hv.out]; exact ⟨rfl, hbw⟩
      · have h1 : 0 < hiW (sumF f k) := by unfold hiW; omega
        have hv : Hid (sumR f k = (0, 9)) := if_neg h
        clear h
        go_wp2_with fail
        go_ret2
        rw [hv.out]; exact ⟨rfl, hbw⟩

set_option maxRecDepth 100000 in
set_option maxHeartbeats 1000000 in
theorem rsum_none (f : Nat → Nat) (w : World) :
    Calls Try.prog 22 #[.slice none 0 0] w fun e w' => e = .returned (.tuple #[.int .u64 (sumR f 0).1, .int .i64 (sumR f 0).2]) ∧ Below w.heap.size w w' := by
  go_enter Try.func22, Try.ntmps22
  go_wp2_with fail
  refine wp_loop_rounds 1 ?_
  rw [rounds_succ]
  go_wp2_with fail
  go_ret2
  exact ⟨rfl, (Below.refl _ _).alloc (Nat.le_refl _) _⟩
end Go.Proofs.Ytnohghdkegfcaaa
