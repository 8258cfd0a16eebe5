/- The walks of wide.Add, Sub, Sum. -/
import Derived.Test.YtnohghdkegfcaaaPartW
namespace Go.Proofs.Ytnohghdkegfcaaa
open Go.RowKit

def addR (a b : Nat) : Nat × Nat := if a + b < 18446744073709551616 then (a + b, 0) else (0, 9)
def subR (a b : Nat) : Nat × Nat := if a < b then (0, 5) else (a - b, 0)
theorem add_words (a b : Nat) (ha : a < 18446744073709551616) (hb : b < 18446744073709551616) :
    (addHi a b 0 = 0 ∧ addR a b = (addLo a b 0, 0)) ∨ (0 < addHi a b 0 ∧ addR a b = (0, 9)) := by
  unfold addHi addLo addR
  by_cases h : a + b < 18446744073709551616
  · left; rw [if_pos h]; refine ⟨by omega, ?_⟩; congr 1; omega
  · right; rw [if_neg h]; exact ⟨by omega, rfl⟩

set_option maxRecDepth 100000 in
set_option maxHeartbeats 400000 in
theorem add_any (a b : Nat) (ha : a < 18446744073709551616) (hb : b < 18446744073709551616) (w : World) :
    Calls Try.prog 19 #[.int .u64 a, .int .u64 b] w fun e w' => e = .returned (.tuple #[.int .u64 (addR a b).1, .int .i64 (addR a b).2]) ∧ w = w' := by
  have hz := add64_zero a b
  rcases add_words a b ha hb with ⟨h1, h2⟩ | ⟨h1, h2⟩
  · have HV : Hid (addR a b = (addLo a b 0, 0)) := h2
    clear ha hb h2
    go_enter Try.func19, Try.ntmps19
    go_wp2_with fail
    go_ret2
    rw [HV.out]; exact ⟨rfl, rfl⟩
  · have HV : Hid (addR a b = (0, 9)) := h2
    clear ha hb h2
    go_enter Try.func19, Try.ntmps19
    go_wp2_with fail
    go_ret2
    rw [HV.out]; exact ⟨rfl, rfl⟩

set_option maxRecDepth 100000 in
set_option maxHeartbeats 400000 in
theorem sub_any (a b : Nat) (ha : a < 18446744073709551616) (w : World) :
    Calls Try.prog 23 #[.int .u64 a, .int .u64 b] w fun e w' => e = .returned (.tuple #[.int .u64 (subR a b).1, .int .i64 (subR a b).2]) ∧ w = w' := by
  have HA := Lib.hid ha
  clear ha
  by_cases h : a < b
  · have HV : Hid (subR a b = (0, 5)) := if_pos h
    go_enter Try.func23, Try.ntmps23
    go_wp2_with fail
    go_ret2
    rw [HV.out]; exact ⟨rfl, rfl⟩
  · have HV : Hid (subR a b = (a - b, 0)) := if_neg h
    have e1 : IntKind.u64.wrap ((a : Int) - (b : Int)) = ((a - b : Nat) : Int) := by
      have := HA.out
      rw [wrap_u64_of ((a : Int) - (b : Int)) (by omega) (by omega)]; omega
    go_enter Try.func23, Try.ntmps23
    go_wp2_with fail
    go_ret2
    rw [HV.out]; exact ⟨rfl, rfl⟩

/-- the sum of a row's first numbers -/
def sumF (f : Nat → Nat) : Nat → Nat
  | 0 => 0
  | k + 1 => sumF f k + f k
theorem sumF_le (f : Nat → Nat) {k n : Nat} (h : k ≤ n) : sumF f k ≤ sumF f n := by
  induction n with
  | zero => have : k = 0 := by omega
            subst this; exact Nat.le_refl _
  | succ n ih =>
    by_cases h1 : k = n + 1
    · subst h1; exact Nat.le_refl _
    · exact Nat.le_trans (ih (by omega)) (Nat.le_add_right _ _)
def sumR (f : Nat → Nat) (n : Nat) : Nat × Nat := if sumF f n < 18446744073709551616 then (sumF f n, 0) else (0, 9)
theorem sum_stop {f : Nat → Nat} {k n : Nat} (h : k < n) (h1 : ¬ sumF f k + f k < 18446744073709551616) : sumR f n = (0, 9) := by
  unfold sumR; rw [if_neg]
  have : sumF f k + f k ≤ sumF f n := sumF_le f (k := k + 1) h
  omega

set_option maxRecDepth 100000 in
set_option maxHeartbeats 1000000 in
theorem sum_some (x : Addr) (len cap : Nat) (f : Nat → Nat) (hlen : len ≤ 4096) (w : World) (hc : ∀ i, i < len → w.cell? (x.add i) = some (.int .u64 (f i))) (hf : ∀ i, f i < 18446744073709551616) :
    Calls Try.prog 21 #[.slice (some x) len cap] w fun e w' => e = .returned (.tuple #[.int .u64 (sumR f len).1, .int .i64 (sumR f len).2]) ∧ w = w' := by
  obtain ⟨b, off, sub⟩ := x
  go_enter Try.func21, Try.ntmps21
  go_wp2_with fail
  go_loop [4, 11] (fun s i => ∃ k : Nat, k ≤ len ∧ i = .int .i64 k ∧ s = .int .u64 (sumF f k) ∧ sumF f k < 18446744073709551616) (fun _ i => len - (intOf i).toNat)
  case atStart => exact ⟨0, Nat.zero_le _, rfl, rfl, by unfold sumF; omega⟩
  case round =>
    obtain ⟨k, hk, rfl, rfl, hs⟩ := hrel
    have HS := Lib.hid hs
    clear hs
    by_cases hkl : k < len
    · have hck := hc k hkl
      simp only [Addr.add] at hck
      go_wp2_with fail
      refine (add_any (sumF f k) (f k) HS.out (hf k) _).mono ?_
      rintro e w1 ⟨rfl, rfl⟩
      by_cases h1 : sumF f k + f k < 18446744073709551616
      · have HV : Hid (addR (sumF f k) (f k) = (sumF f k + f k, 0)) := if_pos h1
        have H1 := Lib.hid h1
        clear h1
        rw [HV.out]
        go_wp2_with fail
        go_round
        case rel => exact ⟨k + 1, by omega, by go_num, rfl, H1.out⟩
        case measure => simp [intOf]; omega
      · have HV : Hid (addR (sumF f k) (f k) = (0, 9)) := if_neg h1
        have HW := Lib.hid (sum_stop hkl h1)
        clear h1
        rw [HV.out]
        go_wp2_with fail
        go_ret2
        rw [HW.out]; exact ⟨rfl, rfl⟩
    · obtain rfl : k = len := by omega
      have HW : Hid (sumR f k = (sumF f k, 0)) := if_pos HS.out
      go_wp2_with fail
      go_ret2
      rw [HW.out]; exact ⟨rfl, rfl⟩

set_option maxRecDepth 100000 in
set_option maxHeartbeats 1000000 in
theorem sum_none (f : Nat → Nat) (w : World) :
    Calls Try.prog 21 #[.slice none 0 0] w fun e w' => e = .returned (.tuple #[.int .u64 (sumR f 0).1, .int .i64 (sumR f 0).2]) ∧ w = w' := by
  go_enter Try.func21, Try.ntmps21
  go_wp2_with fail
  refine wp_loop_rounds 1 ?_
  rw [rounds_succ]
  go_wp2_with fail
  go_ret2
  exact ⟨rfl, rfl⟩
end Go.Proofs.Ytnohghdkegfcaaa
