/- The walks of wide.Mul, Plus, Compare, and of 'works'. -/
import Derived.Test.YtnohghdkegfcaaaBits
namespace Go.Proofs.Ytnohghdkegfcaaa
open Go.RowKit

def W128 : Nat := 340282366920938463463374607431768211456
/-- a sum of wide numbers, and the error's number -/
def plusR (A B : Nat) : Nat × Nat := if A + B < W128 then (A + B, 0) else (0, 9)
theorem plus_words (A B : Nat) (hA : A < W128) (hB : B < W128) :
    (addHi (hiW A) (hiW B) (addHi (loW A) (loW B) 0) = 0 ∧ A + B < W128 ∧ addLo (hiW A) (hiW B) (addHi (loW A) (loW B) 0) = hiW (A + B) ∧ addLo (loW A) (loW B) 0 = loW (A + B)) ∨
    (0 < addHi (hiW A) (hiW B) (addHi (loW A) (loW B) 0) ∧ ¬ A + B < W128) := by
  unfold W128 addHi addLo hiW loW at *
  omega

set_option maxRecDepth 100000 in
set_option maxHeartbeats 400000 in
theorem mul_any (x y : Nat) (hx : x < 18446744073709551616) (hy : y < 18446744073709551616) (w : World) :
    Calls Try.prog 11 #[.int .u64 x, .int .u64 y] w fun e w' => e = .returned (wv (x * y)) ∧ Below w.heap.size w w' := by
  have HX := Lib.hid hx
  have HY := Lib.hid hy
  clear hx hy
  go_enter Try.func11, Try.ntmps11
  go_wp2_with fail
  refine (mul64_any x y HX.out HY.out _).mono ?_
  rintro e w1 ⟨rfl, rfl⟩
  go_wp2_with fail
  exact bodyPost_ret (v := wv (x * y)) (by simp [results, Try.results11, go_sem]) rfl ⟨rfl, (Below.refl _ _).alloc (Nat.le_refl _) _⟩

set_option maxRecDepth 100000 in
set_option maxHeartbeats 400000 in
theorem plus_any (A B : Nat) (hA : A < W128) (hB : B < W128) (w : World) :
    Calls Try.prog 10 #[wv A, wv B] w fun e w' => e = .returned (.tuple #[wv (plusR A B).1, .int .i64 (plusR A B).2]) ∧ Below w.heap.size w w' := by
  have hw := plus_words A B hA hB
  have hz := add64_zero (loW A) (loW B)
  have hc : addHi (loW A) (loW B) 0 ≤ 1 := addHi_le (loW_lt A) (loW_lt B) (by omega)
  have hh := add64_run (hiW A) (hiW B) _ hc
  have HA := Lib.hid hA
  have HB := Lib.hid hB
  clear hA hB hc
  rcases hw with ⟨h1, h2, h3, h4⟩ | ⟨h1, h2⟩
  · have hv : Hid (plusR A B = (A + B, 0)) := if_pos h2
    clear h2
    go_enter Try.func10, Try.ntmps10
    go_wp2_with fail
    exact bodyPost_ret (v := .tuple #[wv (A + B), .int .i64 0]) (by simp [results, Try.results10, go_sem]) rfl ⟨by rw [hv.out]; rfl, (((Below.refl _ _).alloc (Nat.le_refl _) _).alloc (by simp) _).alloc (by simp; omega) _⟩
  · have hv : Hid (plusR A B = (0, 9)) := if_neg h2
    clear h2
    go_enter Try.func10, Try.ntmps10
    go_wp2_with fail
    exact bodyPost_ret (v := .tuple #[wv 0, .int .i64 9]) (by simp [results, Try.results10, go_sem, hiW, loW]) rfl ⟨by rw [hv.out]; rfl, (((Below.refl _ _).alloc (Nat.le_refl _) _).alloc (by simp) _).alloc (by simp; omega) _⟩

def cmpR (A B : Nat) : Int := if A = B then 0 else if A < B then -1 else 1
theorem hi_lo_eq {A B : Nat} (h1 : hiW A = hiW B) (h2 : loW A = loW B) : A = B := by unfold hiW loW at *; omega
theorem hi_lo_lt {A B : Nat} : A < B ↔ hiW A < hiW B ∨ hiW A = hiW B ∧ loW A < loW B := by unfold hiW loW; omega

set_option maxRecDepth 100000 in
set_option maxHeartbeats 400000 in
theorem compare_any (A B : Nat) (w : World) :
    Calls Try.prog 12 #[wv A, wv B] w fun e w' => e = .returned (.int .i64 (cmpR A B)) ∧ Below w.heap.size w w' := by
  have hlt := @hi_lo_lt A B
  by_cases h : A = B
  · subst h
    have hv : Hid (cmpR A A = 0) := if_pos rfl
    clear hlt
    go_enter Try.func12, Try.ntmps12
    go_wp2_with fail
    go_ret
    rw [hv.out]; exact ⟨rfl, ((Below.refl _ _).alloc (Nat.le_refl _) _).alloc (by simp) _⟩
  · by_cases h1 : hiW A < hiW B
    · have hv : Hid (cmpR A B = -1) := by show cmpR A B = -1; unfold cmpR; rw [if_neg h, if_pos (hlt.2 (Or.inl h1))]
      clear hlt h
      go_enter Try.func12, Try.ntmps12
      go_wp2_with fail
      go_ret
      rw [hv.out]; exact ⟨rfl, ((Below.refl _ _).alloc (Nat.le_refl _) _).alloc (by simp) _⟩
    · by_cases h2 : hiW A = hiW B
      · by_cases h3 : loW A < loW B
        · have hv : Hid (cmpR A B = -1) := by show cmpR A B = -1; unfold cmpR; rw [if_neg h, if_pos (hlt.2 (Or.inr ⟨h2, h3⟩))]
          clear hlt h
          go_enter Try.func12, Try.ntmps12
          go_wp2_with fail
          go_ret
          rw [hv.out]; exact ⟨rfl, ((Below.refl _ _).alloc (Nat.le_refl _) _).alloc (by simp) _⟩
        · have h4 : ¬ loW A = loW B := fun e => h (hi_lo_eq h2 e)
          have hv : Hid (cmpR A B = 1) := by show cmpR A B = 1; unfold cmpR; rw [if_neg h, if_neg (fun e => by rcases hlt.1 e with e | e; exact h1 e; exact h3 e.2)]
          clear hlt h
          go_enter Try.func12, Try.ntmps12
          go_wp2_with fail
          go_ret
          rw [hv.out]; exact ⟨rfl, ((Below.refl _ _).alloc (Nat.le_refl _) _).alloc (by simp) _⟩
      · have hv : Hid (cmpR A B = 1) := by show cmpR A B = 1; unfold cmpR; rw [if_neg h, if_neg (fun e => by rcases hlt.1 e with e | e; exact h1 e; exact h2 e.1)]
        clear hlt h
        go_enter Try.func12, Try.ntmps12
        go_wp2_with fail
        go_ret
        rw [hv.out]; exact ⟨rfl, ((Below.refl _ _).alloc (Nat.le_refl _) _).alloc (by simp) _⟩

theorem mul_works (w : World) : Calls Try.prog 11 #[.int .u64 18446744073709551615, .int .u64 18446744073709551615] w fun e w' => e = .returned (.agg #[.int .u64 18446744073709551614, .int .u64 1]) ∧ Below w.heap.size w w' := by
  have h := mul_any 18446744073709551615 18446744073709551615 (by omega) (by omega) w
  have e1 : hiW (18446744073709551615 * 18446744073709551615) = 18446744073709551614 := by decide +kernel
  have e2 : loW (18446744073709551615 * 18446744073709551615) = 1 := by decide +kernel
  unfold wv at h
  rw [e1, e2] at h
  exact h
theorem compare_works (w : World) : Calls Try.prog 12 #[.agg #[.int .u64 1, .int .u64 0], .agg #[.int .u64 0, .int .u64 5]] w fun e w' => e = .returned (.int .i64 1) ∧ Below w.heap.size w w' := by
  have h := compare_any 18446744073709551616 5 w
  have e1 : hiW 18446744073709551616 = 1 := by decide +kernel
  have e2 : loW 18446744073709551616 = 0 := by decide +kernel
  have e3 : hiW 5 = 0 := by decide +kernel
  have e4 : loW 5 = 5 := by decide +kernel
  have e5 : cmpR 18446744073709551616 5 = 1 := by decide +kernel
  unfold wv at h
  rw [e1, e2, e3, e4, e5] at h
  exact h
set_option maxRecDepth 100000 in
set_option maxHeartbeats 400000 in
theorem works_any (w : World) : Calls Try.prog 13 #[] w fun e w' => e = .returned (.bool true) ∧ Below w.heap.size w w' := by
  go_enter Try.func13, Try.ntmps13
  go_wp2_with fail
  refine (mul_works _).mono ?_
  rintro e w1 ⟨rfl, hb1⟩
  go_wp2_with fail
  refine (compare_works _).mono ?_
  rintro e w2 ⟨rfl, hb2⟩
  go_wp2_with fail
  go_ret
  exact ⟨rfl, below_then hb1 hb2⟩
end Go.Proofs.Ytnohghdkegfcaaa
