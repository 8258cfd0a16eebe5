/- Plain arithmetic of the long division by a word: how one digit is found; two digits make the quotient. No program in sight. -/
namespace Go.Proofs.Ytnohghdkegfcaaa

/-- one digit of the quotient: (u * 2^32 + d) / (v1 * 2^32 + v0) -/
def qt (u d v1 v0 : Nat) : Nat := (u * 4294967296 + d) / (v1 * 4294967296 + v0)
def rt (u d v1 v0 : Nat) : Nat := (u * 4294967296 + d) % (v1 * 4294967296 + v0)
theorem qt_lt {u d v1 v0 : Nat} (hd : d < 4294967296) (hu : u < v1 * 4294967296 + v0) : qt u d v1 v0 < 4294967296 := by
  unfold qt
  rw [Nat.div_lt_iff_lt_mul (by omega)]
  have : (u + 1) * 4294967296 ≤ 4294967296 * (v1 * 4294967296 + v0) := by rw [Nat.mul_comm]; exact Nat.mul_le_mul_left _ (by omega)
  omega
theorem qt_mul {u d v1 v0 : Nat} : qt u d v1 v0 * (v1 * 4294967296 + v0) ≤ u * 4294967296 + d := Nat.div_mul_le_self _ _
theorem mulY (q v1 v0 : Nat) : q * (v1 * 4294967296 + v0) = q * v1 * 4294967296 + q * v0 := by rw [Nat.mul_add, Nat.mul_assoc]
theorem qt_start {u d v1 v0 : Nat} (hv : 0 < v1) (hd : d < 4294967296) : qt u d v1 v0 ≤ u / v1 := by
  rw [Nat.le_div_iff_mul_le hv]
  have h := qt_mul (u := u) (d := d) (v1 := v1) (v0 := v0)
  rw [mulY] at h
  generalize qt u d v1 v0 * v1 = X at *
  omega
theorem qt_end {q r u d v1 v0 : Nat} (hv : 0 < v1) (hi : q * v1 + r = u) (hq : qt u d v1 v0 ≤ q) (ht : q * v0 ≤ 4294967296 * r + d) : q = qt u d v1 v0 := by
  have : q ≤ qt u d v1 v0 := by
    unfold qt
    rw [Nat.le_div_iff_mul_le (by omega), mulY, ← hi, Nat.add_mul]
    omega
  omega
theorem qt_less {q r u d v1 v0 : Nat} (hi : q * v1 + r = u) (hq : qt u d v1 v0 ≤ q) (ht : 4294967296 * r + d < q * v0) : qt u d v1 v0 ≤ q - 1 := by
  rcases Nat.lt_or_ge (qt u d v1 v0) q with h | h
  · omega
  · have e : qt u d v1 v0 = q := by omega
    have h2 := qt_mul (u := u) (d := d) (v1 := v1) (v0 := v0)
    rw [e, mulY, ← hi, Nat.add_mul] at h2
    omega
theorem qt_broke {q r u d v1 v0 : Nat} (hv : 0 < v1) (hv0 : v0 < 4294967296) (hu : u < v1 * 4294967296 + v0) (hi : q * v1 + r = u) (hq : qt u d v1 v0 ≤ q) (hr : 4294967296 ≤ r) : q = qt u d v1 v0 := by
  refine qt_end hv hi hq ?_
  have h1 : q * v1 < 4294967296 * v1 := by omega
  have h2 : q < 4294967296 := Nat.lt_of_mul_lt_mul_right h1
  have h3 : q * v0 ≤ 4294967296 * 4294967296 := Nat.mul_le_mul (by omega) (by omega)
  omega
theorem rt_lt {u d v1 v0 : Nat} (hv : 0 < v1) : rt u d v1 v0 < v1 * 4294967296 + v0 := Nat.mod_lt _ (by omega)
theorem rt_eq (u d v1 v0 : Nat) : qt u d v1 v0 * (v1 * 4294967296 + v0) + rt u d v1 v0 = u * 4294967296 + d := by
  unfold qt rt; rw [Nat.mul_comm]; exact Nat.div_add_mod _ _
theorem two_abs {u d1 d0 Y a b c e K : Nat} (hY : 0 < Y) (e1 : a * Y + b = u * K + d1) (e2 : c * Y + e = b * K + d0) (h2 : e < Y) :
    ((u * K + d1) * K + d0) / Y = a * K + c ∧ ((u * K + d1) * K + d0) % Y = e := by
  have hU : (u * K + d1) * K + d0 = e + Y * (a * K + c) := by
    rw [← e1, Nat.mul_add, Nat.add_mul, Nat.add_assoc, ← e2, Nat.mul_comm Y c, Nat.mul_comm Y (a * K), Nat.mul_right_comm a K Y]
    omega
  rw [hU]
  exact ⟨by rw [Nat.add_mul_div_left _ _ hY, Nat.div_eq_of_lt h2, Nat.zero_add], by rw [Nat.add_mul_mod_self_left, Nat.mod_eq_of_lt h2]⟩
/-- two digits make the quotient -/
theorem two_digits (u d1 d0 v1 v0 : Nat) (hv : 0 < v1) :
    ((u * 4294967296 + d1) * 4294967296 + d0) / (v1 * 4294967296 + v0) = qt u d1 v1 v0 * 4294967296 + qt (rt u d1 v1 v0) d0 v1 v0 ∧
    ((u * 4294967296 + d1) * 4294967296 + d0) % (v1 * 4294967296 + v0) = rt (rt u d1 v1 v0) d0 v1 v0 :=
  two_abs (by omega) (rt_eq u d1 v1 v0) (rt_eq (rt u d1 v1 v0) d0 v1 v0) (rt_lt hv)
/-- a number of bits that makes a word's highest bit 1 -/
theorem shift_words (hi lo s : Nat) (hs : s ≤ 63) :
    (hi * 18446744073709551616 + lo) * 2 ^ s = (hi * 2 ^ s + lo / 2 ^ (64 - s)) * 18446744073709551616 + lo * 2 ^ s % 18446744073709551616 := by
  have e : (18446744073709551616 : Nat) = 2 ^ (64 - s) * 2 ^ s := by rw [← Nat.pow_add, show 64 - s + s = 64 from by omega]
  have h1 : lo * 2 ^ s / 18446744073709551616 = lo / 2 ^ (64 - s) := by
    rw [e, Nat.mul_div_mul_right _ _ (Nat.two_pow_pos s)]
  have h2 := Nat.div_add_mod (lo * 2 ^ s) 18446744073709551616
  rw [h1] at h2
  rw [Nat.add_mul, Nat.mul_right_comm, Nat.add_mul (hi * 2 ^ s)]
  omega
end Go.Proofs.Ytnohghdkegfcaaa
