/- The walk of the law WideDivides. -/
import Derived.Test.YtnohghdkegfcaaaRPartW
namespace Go.Proofs.Ytnohghdkegfcaaa
open Go.RowKit

/-- what both divisions answer -/
def divR (A b : Nat) : Nat × Nat × Nat := if b = 0 then (0, 0, 2) else (A / b, A % b, 0)
theorem div_both (A b : Nat) (hA : A < W128) (hb : b < 18446744073709551616) (w : World) :
    (Calls Try.prog 24 #[wv A, .int .u64 b] w fun e w' => e = .returned (.tuple #[wv (divR A b).1, .int .u64 (divR A b).2.1, .int .i64 (divR A b).2.2]) ∧ Below w.heap.size w w') ∧
    (Calls Try.prog 25 #[wv A, .int .u64 b] w fun e w' => e = .returned (.tuple #[wv (divR A b).1, .int .u64 (divR A b).2.1, .int .i64 (divR A b).2.2]) ∧ Below w.heap.size w w') := by
  rcases Nat.eq_zero_or_pos b with rfl | h0
  · exact ⟨div_none A hA w, rdiv_none A hA w⟩
  · have e : divR A b = (A / b, A % b, 0) := if_neg (by omega)
    rw [e]
    exact ⟨div_any A b hA h0 hb w, rdiv_any A b hA h0 hb w⟩

set_option maxRecDepth 100000 in
set_option maxHeartbeats 2000000 in
theorem wideDivides_any (A b n m : Nat) (hA : A < W128) (hb : b < 18446744073709551616) (hn : n < 18446744073709551616) (hm : m < 18446744073709551616) (w : World) :
    Calls Try.prog 6 #[wv A, .int .u64 b, .int .u64 n, .int .u64 m] w fun e w' => e = .returned (.bool true) ∧ Below w.heap.size w w' := by
  have HA := Lib.hid hA
  have HB := Lib.hid hb
  have HN := Lib.hid hn
  have HM := Lib.hid hm
  have HD := Lib.hid (div_both A b hA hb)
  clear hA hb hn hm
  generalize divR A b = D at *
  go_enter Try.func6, Try.ntmps6
  go_wp2_with fail
  refine (HD.out _).1.mono ?_
  rintro e w1 ⟨rfl, hb1⟩
  obtain ⟨hc1, hf1⟩ := bcell hb1
  have hz1 : w.heap.size + 1 ≤ w1.heap.size := by have := hb1.size; simpa using this
  have i0 : w.heap.size < w1.heap.size := by omega
  have s1 : Below w.heap.size w w1 := below_then ((Below.refl _ _).alloc (Nat.le_refl _) _) hb1
  go_wp2_with fail
  refine (HD.out _).2.mono ?_
  rintro e w2 ⟨rfl, hb2⟩
  obtain ⟨hc2, hf2⟩ := bcell hb2
  have hz2 : w1.heap.size + 1 ≤ w2.heap.size := by have := hb2.size; simpa using this
  have j0 : w1.heap.size < w2.heap.size := by omega
  have s2 : Below w.heap.size w w2 := below_then (s1.alloc s1.size _) hb2
  go_wp2_with fail
  refine (part_any n m b HN.out HM.out HB.out _).mono ?_
  rintro e w3 ⟨rfl, hb3⟩
  have s3 := below_then (s2.alloc s2.size _) hb3
  go_wp2_with fail
  refine (rpart_any n m b HN.out HM.out HB.out _).mono ?_
  rintro e w4 ⟨rfl, hb4⟩
  have s4 := below_then s3 hb4
  go_wp2_with fail
  refine (works_any _).mono ?_
  rintro e w5 ⟨rfl, hb5⟩
  have s5 := below_then s4 hb5
  go_wp2_with fail
  go_ret
  exact ⟨rfl, s5⟩
theorem wideDividesWalk (a0 b0 : Int) (a1 : Int) (a2 : Int) (a3 : Int) (w : World) (w0 : (Lit.int .u64 a0).wf = true) (u0 : (Lit.int .u64 b0).wf = true) (w1 : (Lit.int .u64 a1).wf = true) (w2 : (Lit.int .u64 a2).wf = true) (w3 : (Lit.int .u64 a3).wf = true) :
    Calls Try.prog 6 #[.agg #[.int .u64 a0, .int .u64 b0], .int .u64 a1, .int .u64 a2, .int .u64 a3] w fun e w' => e = .returned (.bool true) ∧ Below w.heap.size w w'
 := by
  obtain ⟨A, hA, eA⟩ := of_pair w0 u0
  obtain ⟨b, rfl, hb⟩ := of_wf_u64 w1
  obtain ⟨n, rfl, hn⟩ := of_wf_u64 w2
  obtain ⟨m, rfl, hm⟩ := of_wf_u64 w3
  rw [eA]
  exact wideDivides_any A b n m hA hb hn hm w
end Go.Proofs.Ytnohghdkegfcaaa
