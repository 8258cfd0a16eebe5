/- The walk of the law WideKnown. -/
import Derived.Test.YtnohghdkegfcaaaSumW
namespace Go.Proofs.Ytnohghdkegfcaaa
open Go.RowKit

theorem known_add (w : World) : Calls Try.prog 19 #[.int .u64 18446744073709551615, .int .u64 1] w fun e w' => e = .returned (.tuple #[.int .u64 0, .int .i64 9]) ∧ w = w' := by
  have h := add_any 18446744073709551615 1 (by omega) (by omega) w
  have e : addR 18446744073709551615 1 = (0, 9) := by decide +kernel
  rw [e] at h; exact h
theorem known_sub (w : World) : Calls Try.prog 23 #[.int .u64 1, .int .u64 2] w fun e w' => e = .returned (.tuple #[.int .u64 0, .int .i64 5]) ∧ w = w' := by
  have h := sub_any 1 2 (by omega) w
  have e : subR 1 2 = (0, 5) := by decide +kernel
  rw [e] at h; exact h
theorem known_sum (w : World) : Calls Try.prog 21 #[.slice (some ⟨w.heap.size, 0, none⟩) 3 3] (w.alloc (.cells #[.int .u64 1, .int .u64 2, .int .u64 3] 22)) fun e w' => e = .returned (.tuple #[.int .u64 6, .int .i64 0]) ∧ (w.alloc (.cells #[.int .u64 1, .int .u64 2, .int .u64 3] 22)) = w' := by
  have h := sum_some ⟨w.heap.size, 0, none⟩ 3 3 (fun i => if i = 0 then 1 else if i = 1 then 2 else 3) (by omega) (w.alloc (.cells #[.int .u64 1, .int .u64 2, .int .u64 3] 22))
    (fun i hi => by
      match i, hi with
      | 0, _ => simp [Addr.add]
      | 1, _ => simp [Addr.add]
      | 2, _ => simp [Addr.add])
    (fun i => by by_cases h0 : i = 0 <;> by_cases h1 : i = 1 <;> simp [h0, h1])
  have e : sumR (fun i => if i = 0 then 1 else if i = 1 then 2 else 3) 3 = (6, 0) := by decide +kernel
  rw [e] at h; exact h
theorem known_div (w : World) : Calls Try.prog 24 #[.agg #[.int .u64 1, .int .u64 0], .int .u64 3] w fun e w' => e = .returned (.tuple #[.agg #[.int .u64 0, .int .u64 6148914691236517205], .int .u64 1, .int .i64 0]) ∧ Below w.heap.size w w' := by
  have h := div_any 18446744073709551616 3 (by unfold W128; omega) (by omega) (by omega) w
  have e1 : hiW 18446744073709551616 = 1 := by decide +kernel
  have e2 : loW 18446744073709551616 = 0 := by decide +kernel
  have e3 : hiW (18446744073709551616 / 3) = 0 := by decide +kernel
  have e4 : loW (18446744073709551616 / 3) = 6148914691236517205 := by decide +kernel
  have e5 : 18446744073709551616 % 3 = 1 := by decide +kernel
  unfold wv at h
  rw [e1, e2, e3, e4, e5] at h
  exact h
theorem known_part (n a b r e : Nat) (hn : n < 18446744073709551616) (ha : a < 18446744073709551616) (hb : b < 18446744073709551616) (hr : partR n a b = (r, e)) (w : World) :
    Calls Try.prog 26 #[.int .u64 n, .int .u64 a, .int .u64 b] w fun z w' => z = .returned (.tuple #[.int .u64 r, .int .i64 e]) ∧ Below w.heap.size w w' := by
  have h := part_any n a b hn ha hb w
  rw [hr] at h; exact h
theorem known_p1 (w : World) : Calls Try.prog 26 #[.int .u64 10, .int .u64 1, .int .u64 3] w fun z w' => z = .returned (.tuple #[.int .u64 3, .int .i64 0]) ∧ Below w.heap.size w w' :=
  known_part 10 1 3 3 0 (by omega) (by omega) (by omega) (by decide +kernel) w
theorem known_p2 (w : World) : Calls Try.prog 26 #[.int .u64 9223372036854775808, .int .u64 2, .int .u64 1] w fun z w' => z = .returned (.tuple #[.int .u64 0, .int .i64 9]) ∧ Below w.heap.size w w' :=
  known_part 9223372036854775808 2 1 0 9 (by omega) (by omega) (by omega) (by decide +kernel) w
theorem known_p3 (w : World) : Calls Try.prog 26 #[.int .u64 5, .int .u64 1, .int .u64 0] w fun z w' => z = .returned (.tuple #[.int .u64 0, .int .i64 2]) ∧ Below w.heap.size w w' :=
  known_part 5 1 0 0 2 (by omega) (by omega) (by omega) (by decide +kernel) w

set_option maxRecDepth 100000 in
set_option maxHeartbeats 1000000 in
theorem wideKnownWalk (w : World) :
    Calls Try.prog 9 #[] w fun e w' => e = .returned (.bool true) ∧ Below w.heap.size w w' := by
  go_enter Try.func9, Try.ntmps9
  go_wp2_with fail
  refine (known_add _).mono ?_
  rintro e w1 ⟨rfl, rfl⟩
  go_wp2_with fail
  refine (known_sub _).mono ?_
  rintro e w1 ⟨rfl, rfl⟩
  go_wp2_with fail
  refine (known_sum _).mono ?_
  rintro e w1 ⟨rfl, rfl⟩
  go_wp2_with fail
  refine (known_div _).mono ?_
  rintro e w1 ⟨rfl, hb1⟩
  have s1 : Below w.heap.size w w1 := below_then ((Below.refl _ _).alloc (Nat.le_refl _) _) hb1
  go_wp2_with fail
  refine (works_any _).mono ?_
  rintro e w2 ⟨rfl, hb2⟩
  have s2 := below_then (s1.alloc s1.size _) hb2
  have hc2 := (bcell hb2).1
  have i1 : w1.heap.size < w2.heap.size := by have := hb2.size; simp at this; omega
  go_wp2_with fail
  refine (known_p1 _).mono ?_
  rintro e w3 ⟨rfl, hb3⟩
  have s3 := below_then s2 hb3
  go_wp2_with fail
  refine (known_p2 _).mono ?_
  rintro e w4 ⟨rfl, hb4⟩
  have s4 := below_then s3 hb4
  go_wp2_with fail
  refine (known_p3 _).mono ?_
  rintro e w5 ⟨rfl, hb5⟩
  have s5 := below_then s4 hb5
  go_wp2_with fail
  go_ret
  exact ⟨rfl, s5⟩
end Go.Proofs.Ytnohghdkegfcaaa
