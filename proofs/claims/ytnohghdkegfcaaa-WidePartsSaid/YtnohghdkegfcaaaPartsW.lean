/- The walk of the law WideParts. -/
import Derived.Test.YtnohghdkegfcaaaPartW
namespace Go.Proofs.Ytnohghdkegfcaaa
open Go.RowKit

theorem parts_plain {n a b : Nat} (h0 : 0 < b) (h : a ≤ b) : n * a / b ≤ n ∧ n * (b - a) / b ≤ n ∧ (n * a / b + n * (b - a) / b = n ∨ n * a / b + n * (b - a) / b + 1 = n) := by
  have e : n * a + n * (b - a) = n * b := by rw [← Nat.mul_add]; congr 1; omega
  have h1 := Nat.div_add_mod (n * a) b
  have h2 := Nat.mod_lt (n * a) h0
  have h3 := Nat.div_add_mod (n * (b - a)) b
  have h4 := Nat.mod_lt (n * (b - a)) h0
  generalize n * a / b = x at *
  generalize n * (b - a) / b = y at *
  generalize n * a % b = r at *
  generalize n * (b - a) % b = s at *
  have e1 : b * (x + y) + (r + s) = b * n := by rw [Nat.mul_add, Nat.mul_comm b n]; omega
  have c1 : x + y ≤ n := by
    refine Nat.le_of_lt_succ (Nat.lt_of_mul_lt_mul_left (a := b) ?_)
    rw [Nat.mul_succ]; omega
  have c2 : n < x + y + 2 := by
    refine Nat.lt_of_mul_lt_mul_left (a := b) ?_
    rw [Nat.mul_add]; omega
  omega
theorem part_in {n a b : Nat} (h0 : 0 < b) (h : n * a / b ≤ n) (hn : n < 18446744073709551616) : partR n a b = (n * a / b, 0) := by
  unfold partR; rw [if_neg (by omega), if_pos (by omega)]

set_option maxRecDepth 100000 in
set_option maxHeartbeats 1000000 in
theorem wideParts_any (n a b : Nat) (hn : n < 18446744073709551616) (ha : a < 18446744073709551616) (hb : b < 18446744073709551616) (w : World) :
    Calls Try.prog 7 #[.int .u64 n, .int .u64 a, .int .u64 b] w fun e w' => e = .returned (.bool true) ∧ Below w.heap.size w w' := by
  have HN := Lib.hid hn
  have HA := Lib.hid ha
  have HB := Lib.hid hb
  clear hn ha hb
  by_cases h0 : b = 0
  · go_enter Try.func7, Try.ntmps7
    go_wp2_with fail
    refine (works_any _).mono ?_
    rintro e w1 ⟨rfl, hb1⟩
    go_wp2_with fail
    go_ret
    exact ⟨rfl, hb1⟩
  · by_cases h1 : b < a
    · go_enter Try.func7, Try.ntmps7
      go_wp2_with fail
      refine (works_any _).mono ?_
      rintro e w1 ⟨rfl, hb1⟩
      go_wp2_with fail
      go_ret
      exact ⟨rfl, hb1⟩
    · have hp := @parts_plain n a b (by omega) (by omega)
      have p1 := Lib.hid (part_in (by omega) hp.1 HN.out)
      have p2 := Lib.hid (part_in (by omega) hp.2.1 HN.out)
      have ew : IntKind.u64.wrap ((b : Int) - (a : Int)) = ((b - a : Nat) : Int) := by
        have := HB.out
        rw [wrap_u64_of ((b : Int) - (a : Int)) (by omega) (by omega)]; omega
      have hba : Hid (b - a < 18446744073709551616) := by show _ < _; have := HB.out; omega
      generalize n * a / b = x at *
      generalize hc : b - a = c at *
      generalize n * c / b = y at *
      obtain ⟨q1, q2, q3⟩ := hp
      have e1 : IntKind.u64.wrap ((x : Int) + (y : Int)) = ((x + y : Nat) : Int) := by
        have := HN.out
        rw [wrap_u64_of ((x : Int) + (y : Int)) (by omega) (by omega)]; omega
      go_enter Try.func7, Try.ntmps7
      go_wp2_with fail
      refine (part_any n a b HN.out HA.out HB.out _).mono ?_
      rintro e w1 ⟨rfl, hb1⟩
      rw [p1.out]
      go_wp2_with fail
      refine (part_any n c b HN.out hba.out HB.out _).mono ?_
      rintro e w2 ⟨rfl, hb2⟩
      rw [p2.out]
      by_cases h2 : x + y = n
      · go_wp2_with fail
        refine (works_any _).mono ?_
        rintro e w3 ⟨rfl, hb3⟩
        go_wp2_with fail
        go_ret
        exact ⟨rfl, below_then (below_then hb1 hb2) hb3⟩
      · have h3 : x + y + 1 = n := by omega
        have e2 : IntKind.u64.wrap (((x + y : Nat) : Int) + 1) = (n : Int) := by
          have := HN.out
          rw [wrap_u64_of (((x + y : Nat) : Int) + 1) (by omega) (by omega)]; omega
        go_wp2_with fail
        refine (works_any _).mono ?_
        rintro e w3 ⟨rfl, hb3⟩
        go_wp2_with fail
        go_ret
        exact ⟨rfl, below_then (below_then hb1 hb2) hb3⟩
theorem widePartsWalk (a0 : Int) (a1 : Int) (a2 : Int) (w : World) (w0 : (Lit.int .u64 a0).wf = true) (w1 : (Lit.int .u64 a1).wf = true) (w2 : (Lit.int .u64 a2).wf = true) :
    Calls Try.prog 7 #[.int .u64 a0, .int .u64 a1, .int .u64 a2] w fun e w' => e = .returned (.bool true) ∧ Below w.heap.size w w' := by
  obtain ⟨m, rfl, hm⟩ := of_wf_u64 w0
  obtain ⟨n, rfl, hn⟩ := of_wf_u64 w1
  obtain ⟨k, rfl, hk⟩ := of_wf_u64 w2
  exact wideParts_any m n k hm hn hk w
end Go.Proofs.Ytnohghdkegfcaaa
