/- The walk of the law WideBack. -/
import Derived.Test.YtnohghdkegfcaaaPartW
namespace Go.Proofs.Ytnohghdkegfcaaa
open Go.RowKit

theorem back_times {A b : Nat} (hA : A < W128) : timesR (A / b) b = (A / b * b, 0) := by
  unfold timesR; rw [if_pos]; have := Nat.div_mul_le_self A b; omega
theorem back_plus {A b : Nat} (hA : A < W128) : plusR (A / b * b) (A % b) = (A, 0) := by
  have e : A / b * b + A % b = A := by rw [Nat.mul_comm]; exact Nat.div_add_mod A b
  unfold plusR; rw [e, if_pos hA]
theorem plus_low (A X : Nat) (hA : A < W128) (hX : X < 18446744073709551616) (w : World) :
    Calls Try.prog 10 #[wv A, .agg #[.int .u64 0, .int .u64 X]] w fun e w' => e = .returned (.tuple #[wv (plusR A X).1, .int .i64 (plusR A X).2]) ∧ Below w.heap.size w w' := by
  have h := plus_any A X hA (by unfold W128; omega) w
  have e1 : hiW X = 0 := by unfold hiW; omega
  have e2 : loW X = X := by unfold loW; omega
  have e : wv X = .agg #[.int .u64 0, .int .u64 X] := by unfold wv; rw [e1, e2]; rfl
  rw [e] at h
  exact h

set_option maxRecDepth 100000 in
set_option maxHeartbeats 2000000 in
theorem wideBack_any (A b : Nat) (hA : A < W128) (hb : b < 18446744073709551616) (w : World) :
    Calls Try.prog 8 #[wv A, .int .u64 b] w fun e w' => e = .returned (.bool true) ∧ Below w.heap.size w w' := by
  have HA := Lib.hid hA
  have HB := Lib.hid hb
  clear hA hb
  rcases Nat.eq_zero_or_pos b with rfl | h0
  · have e1 : hiW 0 = 0 := rfl
    have e2 : loW 0 = 0 := rfl
    go_enter Try.func8, Try.ntmps8
    go_wp2_with fail
    refine (div_none A HA.out _).mono ?_
    rintro e w1 ⟨rfl, hb1⟩
    have hz1 := hb1.size
    go_wp2_with fail
    refine (works_any _).mono ?_
    rintro e w2 ⟨rfl, hb2⟩
    go_wp2_with fail
    go_ret
    refine ⟨rfl, below_then (Below.alloc (below_then ((Below.refl _ _).alloc (Nat.le_refl _) _) hb1) ?_ _) hb2⟩
    simp at hz1; omega
  · have HT := Lib.hid (@back_times A b HA.out)
    have HQ := Lib.hid (@back_plus A b HA.out)
    have hq : Hid (A / b < W128) := by show _ < _; have := HA.out; have := Nat.div_le_self A b; omega
    have hq2 : Hid (A / b * b < W128) := by show _ < _; have := HA.out; have := Nat.div_mul_le_self A b; omega
    have hm : A % b < b := Nat.mod_lt _ h0
    have hm' : Hid (A % b < 18446744073709551616) := by show _ < _; have := HB.out; omega
    have hb1 : ¬ b = 0 := by omega
    go_enter Try.func8, Try.ntmps8
    go_wp2_with fail
    refine (div_any A b HA.out h0 HB.out _).mono ?_
    generalize A / b = Q at *
    generalize A % b = R at *
    rintro e w1 ⟨rfl, hb1⟩
    obtain ⟨hc1, hf1⟩ := bcell hb1
    have hz1 : w.heap.size + 1 ≤ w1.heap.size := by have := hb1.size; simpa using this
    have i0 : w.heap.size < w1.heap.size := by omega
    go_wp2_with fail
    refine (times_any Q b hq.out HB.out _).mono ?_
    rintro e w2 ⟨rfl, hb2⟩
    rw [HT.out]
    obtain ⟨hc2, hf2⟩ := bcell hb2
    have hz2 : w1.heap.size + 1 ≤ w2.heap.size := by have := hb2.size; simpa using this
    have j0 : w.heap.size < w2.heap.size := by omega
    go_wp2_with fail
    refine (plus_low (Q * b) R hq2.out hm'.out _).mono ?_
    rintro e w3 ⟨rfl, hb3⟩
    rw [HQ.out]
    obtain ⟨hc3, hf3⟩ := bcell hb3
    have hz3 : w2.heap.size + 1 ≤ w3.heap.size := by have := hb3.size; simpa using this
    have k0 : w.heap.size < w3.heap.size := by omega
    go_wp2_with fail
    refine (works_any _).mono ?_
    rintro e w4 ⟨rfl, hb4⟩
    go_wp2_with fail
    go_ret
    have s1 : Below w.heap.size w w1 := below_then ((Below.refl _ _).alloc (Nat.le_refl _) _) hb1
    have s2 := below_then (s1.alloc s1.size _) hb2
    have s3 := below_then (s2.alloc s2.size _) hb3
    exact ⟨rfl, below_then (s3.alloc s3.size _) hb4⟩
theorem wideBackWalk (a0 b0 : Int) (a1 : Int) (w : World) (w0 : (Lit.int .u64 a0).wf = true) (u0 : (Lit.int .u64 b0).wf = true) (w1 : (Lit.int .u64 a1).wf = true) :
    Calls Try.prog 8 #[.agg #[.int .u64 a0, .int .u64 b0], .int .u64 a1] w fun e w' => e = .returned (.bool true) ∧ Below w.heap.size w w' := by
  obtain ⟨A, hA, eA⟩ := of_pair w0 u0
  obtain ⟨n, rfl, hn⟩ := of_wf_u64 w1
  rw [eA]
  exact wideBack_any A n hA hn w
end Go.Proofs.Ytnohghdkegfcaaa
