/- Plain arithmetic for the layer digit: the short form and the eight bytes of a number as lists of bytes; no program in sight. -/
namespace Go.Proofs.Ytjbdmhafjcoplaa

/-- what is left of a number behind k steps of seven bits -/
def rest (n k : Nat) : Nat := n / 128 ^ k
theorem rest_zero (n : Nat) : rest n 0 = n := by simp [rest]
theorem rest_succ (n k : Nat) : rest n (k + 1) = rest n k / 128 := by
  unfold rest; rw [Nat.pow_succ, Nat.div_div_eq_div_mul]
theorem rest_nine (n : Nat) (h : n < 18446744073709551616) : rest n 9 ≤ 1 := by
  unfold rest; have : (128 : Nat) ^ 9 = 9223372036854775808 := by decide
  rw [this]; omega
theorem rest_le (n k : Nat) : rest n k ≤ n := Nat.div_le_self _ _

/-- the short form, with at most f + 1 bytes -/
def sh : Nat → Nat → List UInt8
  | 0, n => [UInt8.ofNat n]
  | f + 1, n => if n < 128 then [UInt8.ofNat n] else UInt8.ofNat (n % 128 + 128) :: sh f (n / 128)
/-- the short form -/
def short (n : Nat) : List UInt8 := sh 9 n
def putS (n : Nat) : ByteArray := ⟨(short n).toArray⟩

/-- the first k steps all went on -/
def Many (n k : Nat) : Prop := ∀ i, i < k → 128 ≤ rest n i
theorem many_zero (n : Nat) : Many n 0 := fun i h => by omega
theorem many_succ {n k : Nat} (h : Many n k) (h1 : 128 ≤ rest n k) : Many n (k + 1) := fun i hi => by
  rcases Nat.lt_or_ge i k with h2 | h2
  · exact h i h2
  · obtain rfl : i = k := by omega
    exact h1

theorem sh_many (f : Nat) : ∀ (n k : Nat), k ≤ f → Many n k → rest n k < 128 →
    sh f n = (List.range k).map (fun i => UInt8.ofNat (rest n i % 128 + 128)) ++ [UInt8.ofNat (rest n k)] := by
  induction f with
  | zero =>
    intro n k hk _ _
    obtain rfl : k = 0 := by omega
    simp [sh, rest_zero]
  | succ f ih =>
    intro n k hk hm hl
    cases k with
    | zero => rw [rest_zero] at hl; simp [sh, rest_zero, hl]
    | succ k =>
      have h0 := hm 0 (by omega)
      rw [rest_zero] at h0
      have hr : ∀ i, rest (n / 128) i = rest n (i + 1) := fun i => by
        unfold rest; rw [Nat.div_div_eq_div_mul, Nat.pow_succ, Nat.mul_comm]
      have := ih (n / 128) k (by omega) (fun i hi => by rw [hr]; exact hm (i + 1) (by omega)) (by rw [hr]; exact hl)
      rw [sh, if_neg (by omega), this, List.range_succ_eq_map]
      simp [hr, rest_zero, Function.comp_def]

theorem sh_length (f n : Nat) : 1 ≤ (sh f n).length ∧ (sh f n).length ≤ f + 1 := by
  induction f generalizing n with
  | zero => simp [sh]
  | succ f ih =>
    unfold sh
    split
    · simp
    · simp; exact (ih _).2
theorem short_length (n : Nat) : 1 ≤ (short n).length ∧ (short n).length ≤ 10 := sh_length 9 n
theorem putS_size (n : Nat) : (putS n).size = (short n).length := rfl

/-- the i-th of the eight bytes, the highest first -/
def eb (n i : Nat) : Nat := n / 2 ^ (56 - 8 * i) % 256
/-- the eight bytes -/
def eight (n : Nat) : List UInt8 := (List.range 8).map fun i => UInt8.ofNat (eb n i)
def eightS (n : Nat) : ByteArray := ⟨(eight n).toArray⟩
theorem eightS_size (n : Nat) : (eightS n).size = 8 := rfl

/-- the last k of the eight bytes -/
def lows (n k : Nat) : List UInt8 := (List.range k).map fun i => UInt8.ofNat (eb n (8 - k + i))
theorem lows_zero (n : Nat) : lows n 0 = [] := rfl
theorem lows_succ (n k : Nat) (h : k < 8) : lows n (k + 1) = UInt8.ofNat (n / 256 ^ k % 256) :: lows n k := by
  unfold lows
  rw [List.range_succ_eq_map]
  simp only [List.map_cons, List.map_map, Nat.add_zero]
  congr 1
  · unfold eb
    rw [show (256 : Nat) = 2 ^ 8 from rfl, ← Nat.pow_mul, show 56 - 8 * (8 - (k + 1)) = 8 * k from by omega]
  · apply List.map_congr_left
    intro i _
    simp only [Function.comp]
    rw [show 8 - (k + 1) + i.succ = 8 - k + i from by omega]
theorem lows_eight (n : Nat) : lows n 8 = eight n := by simp [lows, eight]

end Go.Proofs.Ytjbdmhafjcoplaa
