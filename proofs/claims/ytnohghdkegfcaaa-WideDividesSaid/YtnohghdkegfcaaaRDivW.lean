/- The walk of the reference's Div: bit by bit. -/
import Derived.Test.YtnohghdkegfcaaaRCmpW
import Derived.Test.YtnohghdkegfcaaaDivW
namespace Go.Proofs.Ytnohghdkegfcaaa
open Go.RowKit

def bitA (A i : Nat) : Nat := A / 2 ^ i % 2
theorem bitA_le (A i : Nat) : bitA A i ≤ 1 := by unfold bitA; omega
theorem bit_lo (A : Nat) {i : Nat} (h : i < 64) : bitA A i = loW A / 2 ^ i % 2 := by
  have e : A = loW A + 2 ^ i * (2 * (2 ^ (63 - i) * hiW A)) := by
    have h1 := hi_lo A
    have h2 : (18446744073709551616 : Nat) = 2 ^ i * (2 * 2 ^ (63 - i)) := by
      rw [← Nat.mul_assoc, Nat.mul_right_comm, ← Nat.pow_add, show i + (63 - i) = 63 from by omega]
    rw [← Nat.mul_assoc 2, ← Nat.mul_assoc (2 ^ i), ← h2]; omega
  unfold bitA
  conv => lhs; rw [e]
  rw [Nat.add_mul_div_left _ _ (Nat.two_pow_pos _), Nat.add_mul_mod_self_left]
theorem bit_hi (A : Nat) (j : Nat) : bitA A (j + 64) = hiW A / 2 ^ j % 2 := by
  unfold bitA hiW
  rw [Nat.pow_add, Nat.mul_comm (2 ^ j), ← Nat.div_div_eq_div_mul]
theorem and1 (a : Nat) (h : a < 18446744073709551616) : bits .and .u64 (a : Int) 1 = ((a % 2 : Nat) : Int) := by
  have h := bits_and_u64_nat a 1 h (by omega)
  rw [Nat.and_one_is_mod] at h
  exact h
theorem and_shr (x i : Nat) (h : x < 18446744073709551616) : bits .and .u64 ((x : Int) / 2 ^ i) 1 = ((x / 2 ^ i % 2 : Nat) : Int) := by
  have h2 := Nat.div_le_self x (2 ^ i)
  rw [show ((x : Int) / 2 ^ i) = ((x / 2 ^ i : Nat) : Int) from by simp, and1 _ (by omega)]
/-- the quotient, the rest of the bits so far -/
def qB (A b s : Nat) : Nat := A / 2 ^ s / b
def rB (A b s : Nat) : Nat := A / 2 ^ s % b
theorem half (A i : Nat) : A / 2 ^ i = 2 * (A / 2 ^ (i + 1)) + bitA A i := by
  unfold bitA
  rw [Nat.pow_succ, ← Nat.div_div_eq_div_mul]; omega
theorem step_take {A b i : Nat} (h0 : 0 < b) (h : b ≤ 2 * rB A b (i + 1) + bitA A i) : qB A b i = 2 * qB A b (i + 1) + 1 ∧ rB A b i = 2 * rB A b (i + 1) + bitA A i - b := by
  unfold qB rB at *
  rw [half A i]
  have h1 := bitA_le A i
  generalize A / 2 ^ (i + 1) = T at *
  generalize bitA A i = c at *
  have h2 := Nat.div_add_mod T b
  have h3 := Nat.mod_lt T h0
  generalize T / b = q at *
  generalize T % b = r at *
  have e : 2 * T + c = (2 * r + c - b) + b * (2 * q + 1) := by
    rw [← h2, Nat.mul_add, Nat.mul_add, Nat.mul_left_comm]; omega
  rw [e, Nat.add_mul_div_left _ _ h0, Nat.add_mul_mod_self_left, Nat.div_eq_of_lt (by omega), Nat.mod_eq_of_lt (by omega)]
  omega
theorem step_leave {A b i : Nat} (h0 : 0 < b) (h : 2 * rB A b (i + 1) + bitA A i < b) : qB A b i = 2 * qB A b (i + 1) ∧ rB A b i = 2 * rB A b (i + 1) + bitA A i := by
  unfold qB rB at *
  rw [half A i]
  generalize A / 2 ^ (i + 1) = T at *
  generalize bitA A i = c at *
  have h2 := Nat.div_add_mod T b
  generalize T / b = q at *
  generalize T % b = r at *
  have e : 2 * T + c = (2 * r + c) + b * (2 * q) := by
    rw [← h2, Nat.mul_add, Nat.mul_left_comm]; omega
  rw [e, Nat.add_mul_div_left _ _ h0, Nat.add_mul_mod_self_left, Nat.div_eq_of_lt h, Nat.mod_eq_of_lt h]
  omega
theorem qB_lt {A : Nat} (hA : A < W128) (b s : Nat) : qB A b s < W128 := by
  have h1 := Nat.div_le_self A (2 ^ s)
  have h2 := Nat.div_le_self (A / 2 ^ s) b
  unfold qB; omega
theorem rB_lt (A : Nat) {b : Nat} (h0 : 0 < b) (s : Nat) : rB A b s < b := Nat.mod_lt _ h0
theorem qB_top {A : Nat} (hA : A < W128) (b : Nat) : qB A b 128 = 0 ∧ rB A b 128 = 0 := by
  have e : A / 2 ^ 128 = 0 := Nat.div_eq_of_lt hA
  unfold qB rB; rw [e]; simp
theorem words_twice {Q c : Nat} (hc : c ≤ 1) (h : 2 * Q + c < W128) : hiW (2 * Q + c) = hiW Q * 2 + loW Q / 9223372036854775808 ∧ loW (2 * Q + c) = (loW Q * 2 + c) % 18446744073709551616 ∧ hiW Q * 2 + loW Q / 9223372036854775808 < 18446744073709551616 := by
  unfold W128 hiW loW at *; omega

set_option maxRecDepth 100000 in
set_option maxHeartbeats 1000000 in
theorem rdiv_none (A : Nat) (hA : A < W128) (w : World) :
    Calls Try.prog 25 #[wv A, .int .u64 (0 : Nat)] w fun e w' => e = .returned (.tuple #[wv 0, .int .u64 (0 : Nat), .int .i64 2]) ∧ Below w.heap.size w w' := by
  have HA := Lib.hid hA
  clear hA
  go_enter Try.func25, Try.ntmps25
  go_wp2_with fail
  refine bodyPost_ret (v := .tuple #[wv 0, .int .u64 (0 : Nat), .int .i64 2]) ?_ rfl ⟨rfl, ?_⟩
  · have e1 : hiW 0 = 0 := rfl
    have e2 : loW 0 = 0 := rfl
    simp [results, Try.results25, go_sem, e1, e2]
  · exact ((Below.refl _ _).alloc (Nat.le_refl _) _).alloc (by simp) _

set_option maxRecDepth 100000 in
set_option maxHeartbeats 4000000 in
theorem rdiv_any (A b : Nat) (hA : A < W128) (h0 : 0 < b) (hb : b < 18446744073709551616) (w : World) :
    Calls Try.prog 25 #[wv A, .int .u64 b] w fun e w' => e = .returned (.tuple #[wv (A / b), .int .u64 (A % b : Nat), .int .i64 0]) ∧ Below w.heap.size w w' := by
  have HA := Lib.hid hA
  have HB := Lib.hid hb
  have hb1 : ¬ b = 0 := by omega
  clear hA hb
  go_enter Try.func25, Try.ntmps25
  go_wp2_with fail
  go_loopw [8, 9] (fun r i wr => ∃ s : Nat, s ≤ 128 ∧ i = .int .i64 ((s : Int) - 1) ∧ r = .int .u64 (rB A b s) ∧ wr.cell? ⟨w.heap.size + 1 + 1, 0, none⟩ = some (.int .u64 (hiW (qB A b s))) ∧ wr.cell? ⟨w.heap.size + 1 + 1, 1, none⟩ = some (.int .u64 (loW (qB A b s))) ∧
      wr.frozen? ⟨w.heap.size + 1 + 1, 0, none⟩ = false ∧ wr.frozen? ⟨w.heap.size + 1 + 1, 1, none⟩ = false ∧ w.heap.size + 1 + 1 < wr.heap.size ∧ Below (laid2 w A).heap.size (laid2 w A) wr)
    (fun _ i _ => (intOf i + 1).toNat)
  case atStart =>
    have ht := qB_top HA.out b
    have e1 : hiW 0 = 0 := rfl
    have e2 : loW 0 = 0 := rfl
    exact ⟨128, by omega, rfl, by rw [ht.2]; rfl, by rw [ht.1, e1]; simp [go_sem], by rw [ht.1, e2]; simp [go_sem], by simp [go_sem], by simp [go_sem], by simp, (Below.refl _ _).alloc (Nat.le_refl _) _⟩
  case round =>
    obtain ⟨s, hs, rfl, rfl, c1, c2, f1, f2, hlt, hbw⟩ := hrel
    obtain ⟨b1, b2⟩ := box_cells hbw
    rcases Nat.eq_zero_or_pos s with rfl | hs0
    · obtain ⟨r1, r2, r3, r4, r5⟩ := res_cells hbw
      have kb : Below w.heap.size w wr := (((Below.refl _ _).alloc (Nat.le_refl _) _).alloc (by simp) _).trans (hbw.mono (by simp; omega))
      have hq : qB A b 0 = A / b := by unfold qB; simp
      have hr : rB A b 0 = A % b := by unfold rB; simp
      rw [hq] at c1 c2
      rw [hr]
      clear hq hr
      go_wp2_with fail
      obtain ⟨q1, q2⟩ := set2 (u := .int .u64 (hiW (A / b))) (v := .int .u64 (loW (A / b))) r1 r2
      refine bodyPost_ret (v := .tuple #[wv (A / b), .int .u64 (A % b : Nat), .int .i64 0]) ?_ rfl ⟨rfl, (kb.setCell (by simp) _).setCell (by simp) _⟩
      simp [results, Try.results25, go_sem, q1, q2]
    · obtain ⟨i, rfl⟩ : ∃ i, s = i + 1 := ⟨s - 1, by omega⟩
      have e0 : ((i + 1 : Nat) : Int) - 1 = (i : Int) := by omega
      rw [e0]
      obtain ⟨c, hc⟩ : ∃ c, c = bitA A i := ⟨_, rfl⟩
      have HCc : Hid (c = bitA A i) := hc
      have hc1 : Hid (c ≤ 1) := by show c ≤ 1; rw [hc]; exact bitA_le A i
      clear hc
      have hRb : Hid (rB A b (i + 1) < b) := rB_lt A h0 (i + 1)
      have hQi : Hid (qB A b i < W128) := qB_lt HA.out b i
      rcases (show 9223372036854775808 ≤ rB A b (i + 1) ∨ (rB A b (i + 1) < 9223372036854775808 ∧ b ≤ 2 * rB A b (i + 1) + c) ∨ (rB A b (i + 1) < 9223372036854775808 ∧ 2 * rB A b (i + 1) + c < b) from by omega) with hh | hh | hh
      · have hst := step_take (A := A) (b := b) (i := i) h0 (by rw [← HCc.out]; have := HB.out; omega)
        have eh : ((rB A b (i + 1) : Int) / 9223372036854775808) = 1 := by have := hRb.out; have := HB.out; omega
        obtain ⟨v, hv⟩ : ∃ v, v = 2 * rB A b (i + 1) + c - 18446744073709551616 := ⟨_, rfl⟩
        have HV : Hid (v = 2 * rB A b (i + 1) + c - 18446744073709551616) := hv
        clear hv
        have e1' : IntKind.u64.wrap ((rB A b (i + 1) : Int) * 2 + (c : Int)) = (v : Int) := by
          have h' := hRb.out; have h'' := HB.out; have h3 := HV.out; have h4 := hc1.out
          rw [h3, IntKind.wrap_u64]; omega
        have e1 : IntKind.u64.wrap (IntKind.u64.wrap ((rB A b (i + 1) : Int) * 2) + (c : Int)) = (v : Int) := by
          have h' := hRb.out; have h'' := HB.out; have h3 := HV.out; have h4 := hc1.out
          rw [h3, IntKind.wrap_u64, IntKind.wrap_u64]; omega
        have hwt := words_twice (Q := qB A b (i + 1)) (c := 1) (by omega) (by rw [← hst.1]; exact hQi.out)
        rw [← hst.1] at hwt
        have HST := Lib.hid hst
        have HWT := Lib.hid hwt
        clear hst hwt
        have e3 : IntKind.u64.wrap (IntKind.u64.wrap ((hiW (qB A b (i + 1)) : Int) * 2) + (loW (qB A b (i + 1)) : Int) / 9223372036854775808) = (hiW (qB A b i) : Int) := by
          have h := HWT.out
          rw [h.1, wrap_u64_of ((hiW (qB A b (i + 1)) : Int) * 2) (by omega) (by omega), wrap_u64_of ((hiW (qB A b (i + 1)) : Int) * 2 + (loW (qB A b (i + 1)) : Int) / 9223372036854775808) (by omega) (by omega)]; omega
        have e4 : IntKind.u64.wrap (IntKind.u64.wrap ((loW (qB A b (i + 1)) : Int) * 2) + 1) = (loW (qB A b i) : Int) := by
          have h := HWT.out
          rw [h.2.1, IntKind.wrap_u64, IntKind.wrap_u64]; omega
        have e2 : IntKind.u64.wrap ((v : Int) - (b : Int)) = (rB A b i : Int) := by
          have h := HST.out.2; have h' := hRb.out; have h'' := HB.out; have h3 := HV.out; have h4 := hc1.out
          rw [← HCc.out] at h
          rw [h, IntKind.wrap_u64]; omega
        by_cases hi : i < 64
        · have eb : bits .and .u64 ((loW A : Int) / 2 ^ (i % 64)) 1 = (c : Int) := by rw [and_shr _ _ (loW_lt A), Nat.mod_eq_of_lt hi, ← bit_lo A hi, HCc.out]
          go_wp2_with fail
          obtain ⟨q1, q2⟩ := set2 (u := .int .u64 (hiW (qB A b i))) (v := .int .u64 (loW (qB A b i))) c1 c2
          go_roundw
          case rel => exact ⟨i, by omega, by go_num, rfl, q1, q2, by simpa using f1, by simpa using f2, by simpa using hlt, (hbw.setCell (by simp) _).setCell (by simp) _⟩
          case measure => simp [intOf]
        · obtain ⟨j, rfl⟩ : ∃ j, i = j + 64 := ⟨i - 64, by omega⟩
          have hj : j < 64 := by omega
          have eb0 := and_shr (loW A) ((j + 64) % 64) (loW_lt A)
          have eb : bits .and .u64 ((hiW A : Int) / 2 ^ j) 1 = (c : Int) := by rw [and_shr _ _ (hiW_lt HA.out), ← bit_hi, HCc.out]
          generalize loW A / 2 ^ ((j + 64) % 64) % 2 = junk at *
          go_wp2_with fail
          obtain ⟨q1, q2⟩ := set2 (u := .int .u64 (hiW (qB A b (j + 64)))) (v := .int .u64 (loW (qB A b (j + 64)))) c1 c2
          go_roundw
          case rel => exact ⟨j + 64, by omega, by go_num, rfl, q1, q2, by simpa using f1, by simpa using f2, by simpa using hlt, (hbw.setCell (by simp) _).setCell (by simp) _⟩
          case measure => simp [intOf]; try omega
      · have hst := step_take (A := A) (b := b) (i := i) h0 (by rw [← HCc.out]; omega)
        have eh : ((rB A b (i + 1) : Int) / 9223372036854775808) = 0 := by omega
        obtain ⟨v, hv⟩ : ∃ v, v = 2 * rB A b (i + 1) + c := ⟨_, rfl⟩
        have HV : Hid (v = 2 * rB A b (i + 1) + c) := hv
        clear hv
        have e1' : IntKind.u64.wrap ((rB A b (i + 1) : Int) * 2 + (c : Int)) = (v : Int) := by
          have h' := hRb.out; have h'' := HB.out; have h3 := HV.out; have h4 := hc1.out
          rw [h3, IntKind.wrap_u64]; omega
        have e1 : IntKind.u64.wrap (IntKind.u64.wrap ((rB A b (i + 1) : Int) * 2) + (c : Int)) = (v : Int) := by
          have h' := hRb.out; have h'' := HB.out; have h3 := HV.out; have h4 := hc1.out
          rw [h3, IntKind.wrap_u64, IntKind.wrap_u64]; omega
        have hbv : (b : Int) ≤ (v : Int) := by have := HV.out; omega
        have hwt := words_twice (Q := qB A b (i + 1)) (c := 1) (by omega) (by rw [← hst.1]; exact hQi.out)
        rw [← hst.1] at hwt
        have HST := Lib.hid hst
        have HWT := Lib.hid hwt
        clear hst hwt
        have e3 : IntKind.u64.wrap (IntKind.u64.wrap ((hiW (qB A b (i + 1)) : Int) * 2) + (loW (qB A b (i + 1)) : Int) / 9223372036854775808) = (hiW (qB A b i) : Int) := by
          have h := HWT.out
          rw [h.1, wrap_u64_of ((hiW (qB A b (i + 1)) : Int) * 2) (by omega) (by omega), wrap_u64_of ((hiW (qB A b (i + 1)) : Int) * 2 + (loW (qB A b (i + 1)) : Int) / 9223372036854775808) (by omega) (by omega)]; omega
        have e4 : IntKind.u64.wrap (IntKind.u64.wrap ((loW (qB A b (i + 1)) : Int) * 2) + 1) = (loW (qB A b i) : Int) := by
          have h := HWT.out
          rw [h.2.1, IntKind.wrap_u64, IntKind.wrap_u64]; omega
        have e2 : IntKind.u64.wrap ((v : Int) - (b : Int)) = (rB A b i : Int) := by
          have h := HST.out.2; have h' := hRb.out; have h'' := HB.out; have h3 := HV.out; have h4 := hc1.out
          rw [← HCc.out] at h
          rw [h, IntKind.wrap_u64]; omega
        by_cases hi : i < 64
        · have eb : bits .and .u64 ((loW A : Int) / 2 ^ (i % 64)) 1 = (c : Int) := by rw [and_shr _ _ (loW_lt A), Nat.mod_eq_of_lt hi, ← bit_lo A hi, HCc.out]
          go_wp2_with fail
          obtain ⟨q1, q2⟩ := set2 (u := .int .u64 (hiW (qB A b i))) (v := .int .u64 (loW (qB A b i))) c1 c2
          go_roundw
          case rel => exact ⟨i, by omega, by go_num, rfl, q1, q2, by simpa using f1, by simpa using f2, by simpa using hlt, (hbw.setCell (by simp) _).setCell (by simp) _⟩
          case measure => simp [intOf]
        · obtain ⟨j, rfl⟩ : ∃ j, i = j + 64 := ⟨i - 64, by omega⟩
          have hj : j < 64 := by omega
          have eb0 := and_shr (loW A) ((j + 64) % 64) (loW_lt A)
          have eb : bits .and .u64 ((hiW A : Int) / 2 ^ j) 1 = (c : Int) := by rw [and_shr _ _ (hiW_lt HA.out), ← bit_hi, HCc.out]
          generalize loW A / 2 ^ ((j + 64) % 64) % 2 = junk at *
          go_wp2_with fail
          obtain ⟨q1, q2⟩ := set2 (u := .int .u64 (hiW (qB A b (j + 64)))) (v := .int .u64 (loW (qB A b (j + 64)))) c1 c2
          go_roundw
          case rel => exact ⟨j + 64, by omega, by go_num, rfl, q1, q2, by simpa using f1, by simpa using f2, by simpa using hlt, (hbw.setCell (by simp) _).setCell (by simp) _⟩
          case measure => simp [intOf]; try omega
      · have hst := step_leave (A := A) (b := b) (i := i) h0 (by rw [← HCc.out]; omega)
        have eh : ((rB A b (i + 1) : Int) / 9223372036854775808) = 0 := by omega
        obtain ⟨v, hv⟩ : ∃ v, v = 2 * rB A b (i + 1) + c := ⟨_, rfl⟩
        have HV : Hid (v = 2 * rB A b (i + 1) + c) := hv
        clear hv
        have e1' : IntKind.u64.wrap ((rB A b (i + 1) : Int) * 2 + (c : Int)) = (v : Int) := by
          have h' := hRb.out; have h'' := HB.out; have h3 := HV.out; have h4 := hc1.out
          rw [h3, IntKind.wrap_u64]; omega
        have e1 : IntKind.u64.wrap (IntKind.u64.wrap ((rB A b (i + 1) : Int) * 2) + (c : Int)) = (v : Int) := by
          have h' := hRb.out; have h'' := HB.out; have h3 := HV.out; have h4 := hc1.out
          rw [h3, IntKind.wrap_u64, IntKind.wrap_u64]; omega
        have hbv : (v : Int) < (b : Int) := by have := HV.out; omega
        have hwt := words_twice (Q := qB A b (i + 1)) (c := 0) (by omega) (by rw [Nat.add_zero, ← hst.1]; exact hQi.out)
        rw [Nat.add_zero, ← hst.1] at hwt
        have HST := Lib.hid hst
        have HWT := Lib.hid hwt
        clear hst hwt
        have e3 : IntKind.u64.wrap (IntKind.u64.wrap ((hiW (qB A b (i + 1)) : Int) * 2) + (loW (qB A b (i + 1)) : Int) / 9223372036854775808) = (hiW (qB A b i) : Int) := by
          have h := HWT.out
          rw [h.1, wrap_u64_of ((hiW (qB A b (i + 1)) : Int) * 2) (by omega) (by omega), wrap_u64_of ((hiW (qB A b (i + 1)) : Int) * 2 + (loW (qB A b (i + 1)) : Int) / 9223372036854775808) (by omega) (by omega)]; omega
        have e4 : IntKind.u64.wrap ((loW (qB A b (i + 1)) : Int) * 2) = (loW (qB A b i) : Int) := by
          have h := HWT.out
          rw [h.2.1, IntKind.wrap_u64]; omega
        have e4' : IntKind.u64.wrap (loW (qB A b i) : Int) = (loW (qB A b i) : Int) := wrap_u64_of (loW (qB A b i) : Int) (by omega) (by have := loW_lt (qB A b i); omega)
        have e2 : (v : Int) = (rB A b i : Int) := by
          have h := HST.out.2; have h3 := HV.out
          rw [← HCc.out] at h
          rw [h, h3]
        by_cases hi : i < 64
        · have eb : bits .and .u64 ((loW A : Int) / 2 ^ (i % 64)) 1 = (c : Int) := by rw [and_shr _ _ (loW_lt A), Nat.mod_eq_of_lt hi, ← bit_lo A hi, HCc.out]
          go_wp2_with fail
          obtain ⟨q1, q2⟩ := set2 (u := .int .u64 (hiW (qB A b i))) (v := .int .u64 (loW (qB A b i))) c1 c2
          go_roundw
          case rel => exact ⟨i, by omega, by go_num, rfl, q1, q2, by simpa using f1, by simpa using f2, by simpa using hlt, (hbw.setCell (by simp) _).setCell (by simp) _⟩
          case measure => simp [intOf]
        · obtain ⟨j, rfl⟩ : ∃ j, i = j + 64 := ⟨i - 64, by omega⟩
          have hj : j < 64 := by omega
          have eb0 := and_shr (loW A) ((j + 64) % 64) (loW_lt A)
          have eb : bits .and .u64 ((hiW A : Int) / 2 ^ j) 1 = (c : Int) := by rw [and_shr _ _ (hiW_lt HA.out), ← bit_hi, HCc.out]
          generalize loW A / 2 ^ ((j + 64) % 64) % 2 = junk at *
          go_wp2_with fail
          obtain ⟨q1, q2⟩ := set2 (u := .int .u64 (hiW (qB A b (j + 64)))) (v := .int .u64 (loW (qB A b (j + 64)))) c1 c2
          go_roundw
          case rel => exact ⟨j + 64, by omega, by go_num, rfl, q1, q2, by simpa using f1, by simpa using f2, by simpa using hlt, (hbw.setCell (by simp) _).setCell (by simp) _⟩
          case measure => simp [intOf]; try omega
end Go.Proofs.Ytnohghdkegfcaaa
