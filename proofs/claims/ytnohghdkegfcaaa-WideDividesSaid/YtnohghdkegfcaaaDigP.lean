/- Numbers as digits of 32 bits: the plain law of carrying on, of sums, of products. -/
import Derived.Test.YtnohghdkegfcaaaSumW
namespace Go.Proofs.Ytnohghdkegfcaaa

/-- the number of a row of digits -/
def valF (f : Nat → Nat) : Nat → Nat
  | 0 => 0
  | k + 1 => valF f k + f k * 4294967296 ^ k
/-- what goes on to the next digit -/
def cO (f : Nat → Nat) : Nat → Nat
  | 0 => 0
  | k + 1 => (f k + cO f k) / 4294967296
def cD (f : Nat → Nat) (k : Nat) : Nat := (f k + cO f k) % 4294967296
def cR (f : Nat → Nat) (n i : Nat) : Nat := if i < n then cD f i else cO f n
theorem valF_congr {f g : Nat → Nat} {n : Nat} (h : ∀ i, i < n → f i = g i) : valF f n = valF g n := by
  induction n with
  | zero => rfl
  | succ n ih => unfold valF; rw [ih (fun i hi => h i (by omega)), h n (by omega)]
theorem carry_val (f : Nat → Nat) (k : Nat) : valF (cD f) k + cO f k * 4294967296 ^ k = valF f k := by
  induction k with
  | zero => rfl
  | succ k ih =>
    rw [valF, valF, cO, Nat.pow_succ, ← ih]
    unfold cD
    have h := Nat.div_add_mod (f k + cO f k) 4294967296
    generalize hq : (f k + cO f k) / 4294967296 = q at *
    generalize hr : (f k + cO f k) % 4294967296 = r at *
    generalize 4294967296 ^ k = P
    have e : f k * P + cO f k * P = (4294967296 * q + r) * P := by rw [h, Nat.add_mul]
    rw [Nat.add_mul] at e
    have e2 : q * (P * 4294967296) = 4294967296 * q * P := by rw [Nat.mul_comm P, ← Nat.mul_assoc, Nat.mul_comm q]
    rw [e2]
    have e3 : valF (fun k => (f k + cO f k) % 4294967296) k = valF (cD f) k := rfl
    omega
theorem cR_val (f : Nat → Nat) (n : Nat) : valF (cR f n) (n + 1) = valF f n := by
  rw [valF, show valF (cR f n) n = valF (cD f) n from valF_congr (fun i hi => if_pos hi), show cR f n n = cO f n from if_neg (Nat.lt_irrefl _)]
  exact carry_val f n
theorem cO_lt {f : Nat → Nat} (h : ∀ i, f i < 1099511627776) (k : Nat) : cO f k < 1024 := by
  induction k with
  | zero => unfold cO; omega
  | succ k ih => unfold cO; have := h k; omega
theorem cR_lt {f : Nat → Nat} (h : ∀ i, f i < 1099511627776) (n i : Nat) : cR f n i < 4294967296 := by
  unfold cR; split
  · exact Nat.mod_lt _ (by omega)
  · have := cO_lt h n; omega
theorem valF_lt {f : Nat → Nat} (h : ∀ i, f i < 4294967296) (n : Nat) : valF f n < 4294967296 ^ n := by
  induction n with
  | zero => show 0 < 1; omega
  | succ n ih =>
    rw [valF, Nat.pow_succ]
    have : (f n + 1) * 4294967296 ^ n ≤ 4294967296 * 4294967296 ^ n := Nat.mul_le_mul_right _ (h n)
    rw [Nat.add_mul, Nat.mul_comm 4294967296] at this
    omega
theorem valF_add (f g : Nat → Nat) (n : Nat) : valF (fun i => f i + g i) n = valF f n + valF g n := by
  induction n with
  | zero => rfl
  | succ n ih => rw [valF, valF, valF, ih, Nat.add_mul]; omega
theorem valF_mono {f : Nat → Nat} {m n : Nat} (h : m ≤ n) : valF f m ≤ valF f n := by
  induction n with
  | zero => have : m = 0 := by omega
            subst this; exact Nat.le_refl _
  | succ n ih =>
    by_cases h1 : m = n + 1
    · subst h1; exact Nat.le_refl _
    · exact Nat.le_trans (ih (by omega)) (Nat.le_add_right _ _)
/-- the four digits of a wide number -/
def dig (A i : Nat) : Nat := A / 4294967296 ^ i % 4294967296
theorem dig_lt (A i : Nat) : dig A i < 4294967296 := Nat.mod_lt _ (by omega)
theorem dig_val (A n : Nat) : valF (dig A) n = A % 4294967296 ^ n := by
  induction n with
  | zero => rw [valF]; show 0 = A % 1; omega
  | succ n ih =>
    rw [valF, ih, dig, Nat.pow_succ, Nat.mod_mul, Nat.mul_comm (A / 4294967296 ^ n % 4294967296)]
theorem pow4 : 4294967296 ^ 4 = W128 := by decide
theorem dig_val4 {A : Nat} (h : A < W128) : valF (dig A) 4 = A := by rw [dig_val, pow4]; exact Nat.mod_eq_of_lt h
theorem dig0 (A : Nat) : dig A 0 = loW A % 4294967296 := by unfold dig loW; omega
theorem dig1 (A : Nat) : dig A 1 = loW A / 4294967296 := by unfold dig loW; omega
theorem dig2 (A : Nat) : dig A 2 = hiW A % 4294967296 := by
  show A / 18446744073709551616 % 4294967296 = _; unfold hiW; omega
theorem dig3 {A : Nat} (h : A < W128) : dig A 3 = hiW A / 4294967296 := by
  show A / 79228162514264337593543950336 % 4294967296 = _; unfold hiW; unfold W128 at h; omega
/-- a row's wide number, and whether it is one -/
def wideR (f : Nat → Nat) (n : Nat) : Nat × Bool := if valF f n < W128 then (valF f n, true) else (0, false)
theorem valF_zeros {f : Nat → Nat} {n : Nat} (hn : 4 ≤ n) (h : ∀ i, 4 ≤ i → i < n → f i = 0) : valF f n = valF f 4 := by
  induction n with
  | zero => omega
  | succ n ih =>
    by_cases h4 : 4 = n + 1
    · rw [h4]
    · rw [valF, ih (by omega) (fun i h1 h2 => h i h1 (by omega)), h n (by omega) (by omega)]; omega
theorem valF_big {f : Nat → Nat} {n i : Nat} (h4 : 4 ≤ i) (hi : i < n) (h : f i ≠ 0) : ¬ valF f n < W128 := by
  have h1 : valF f (i + 1) ≤ valF f n := valF_mono hi
  rw [valF] at h1
  have h2 : 1 * 4294967296 ^ i ≤ f i * 4294967296 ^ i := Nat.mul_le_mul_right _ (by omega)
  have h3 : 4294967296 ^ 4 ≤ 4294967296 ^ i := Nat.pow_le_pow_right (by omega) h4
  rw [pow4] at h3
  omega
theorem wideR_no {f : Nat → Nat} {n i : Nat} (h4 : 4 ≤ i) (hi : i < n) (h : f i ≠ 0) : wideR f n = (0, false) := if_neg (valF_big h4 hi h)
theorem wideR_yes {f : Nat → Nat} {n : Nat} (hf : ∀ i, f i < 4294967296) (hn : 4 ≤ n) (h : ∀ i, 4 ≤ i → i < n → f i = 0) :
    wideR f n = (valF f 4, true) ∧ hiW (valF f 4) = f 3 * 4294967296 + f 2 ∧ loW (valF f 4) = f 1 * 4294967296 + f 0 := by
  have hv := valF_lt hf 4
  rw [pow4] at hv
  refine ⟨?_, ?_⟩
  · unfold wideR; rw [valF_zeros hn h, if_pos hv]
  · have e : valF f 4 = (f 3 * 4294967296 + f 2) * 18446744073709551616 + (f 1 * 4294967296 + f 0) := by
      show 0 + f 0 * 1 + f 1 * 4294967296 + f 2 * 18446744073709551616 + f 3 * 79228162514264337593543950336 = _
      omega
    have := hf 0
    have := hf 1
    rw [e]
    exact ⟨hiW_mk _ _ (by omega), loW_mk _ _ (by omega)⟩
/-- the reference's sum is the sum -/
theorem plus_ref {A B : Nat} (hA : A < W128) (hB : B < W128) : wideR (cR (fun i => dig A i + dig B i) 4) 5 = (if A + B < W128 then (A + B, true) else (0, false)) := by
  unfold wideR; rw [cR_val, valF_add, dig_val4 hA, dig_val4 hB]
theorem plus_small (A B i : Nat) : dig A i + dig B i < 1099511627776 := by have := dig_lt A i; have := dig_lt B i; omega
end Go.Proofs.Ytnohghdkegfcaaa
