/- Plain arithmetic of taking a number: the number with whose short form a text begins; what was put is taken, what is taken is what is put. No program in sight. -/
import Derived.Test.YtjbdmhafjcoplaaPlain
namespace Go.Proofs.Ytjbdmhafjcoplaa

/-- the number with whose short form a text begins, its length, and the error's number -/
def tkF (s : ByteArray) : Nat → Nat → Nat → Nat × Nat × Nat
  | 0, _, _ => (0, 0, 6)
  | f + 1, i, a =>
    if h : i < s.size then
      if i = 9 ∧ 1 < s[i].toNat then (0, 0, 6)
      else if s[i].toNat < 128 then
        if s[i].toNat = 0 ∧ 0 < i then (0, 0, 6) else (a + s[i].toNat % 128 * 128 ^ i, i + 1, 0)
      else tkF s f (i + 1) (a + s[i].toNat % 128 * 128 ^ i)
    else (0, 0, 10)
def take (s : ByteArray) : Nat × Nat × Nat := tkF s 10 0 0
def Goes (s : ByteArray) (k a : Nat) : Prop := tkF s (10 - k) k a = take s ∧ a < 128 ^ k

theorem goes_zero (s : ByteArray) : Goes s 0 0 := ⟨rfl, by decide⟩
theorem goes_ten {s : ByteArray} {a : Nat} (h : Goes s 10 a) : take s = (0, 0, 6) := h.1.symm
theorem goes_step {s : ByteArray} {k a : Nat} (h : Goes s k a) (hk : k < 10) : take s =
    if h : k < s.size then
      if k = 9 ∧ 1 < s[k].toNat then (0, 0, 6)
      else if s[k].toNat < 128 then
        if s[k].toNat = 0 ∧ 0 < k then (0, 0, 6) else (a + s[k].toNat % 128 * 128 ^ k, k + 1, 0)
      else tkF s (10 - (k + 1)) (k + 1) (a + s[k].toNat % 128 * 128 ^ k)
    else (0, 0, 10) := by
  rw [← h.1, show 10 - k = (10 - (k + 1)) + 1 from by omega, tkF]
theorem goes_short {s : ByteArray} {k a : Nat} (h : Goes s k a) (hk : k < 10) (hs : k = s.size) : take s = (0, 0, 10) := by
  rw [goes_step h hk, dif_neg (by omega)]
theorem goes_big {s : ByteArray} {k a : Nat} (h : Goes s k a) (hk : k = 9) (hs : k < s.size) (hc : 1 < s[k].toNat) : take s = (0, 0, 6) := by
  rw [goes_step h (by omega), dif_pos hs, if_pos ⟨hk, hc⟩]
theorem goes_nought {s : ByteArray} {k a : Nat} (h : Goes s k a) (hk : k < 10) (hs : k < s.size) (hc : s[k].toNat = 0) (h0 : 0 < k) : take s = (0, 0, 6) := by
  rw [goes_step h (by omega), dif_pos hs, if_neg (by omega), if_pos (by omega), if_pos ⟨hc, h0⟩]
theorem goes_done {s : ByteArray} {k a : Nat} (h : Goes s k a) (hk : k < 10) (hs : k < s.size) (h9 : ¬ (k = 9 ∧ 1 < s[k].toNat)) (hc : s[k].toNat < 128) (h0 : ¬ (s[k].toNat = 0 ∧ 0 < k)) :
    take s = (a + s[k].toNat % 128 * 128 ^ k, k + 1, 0) := by
  rw [goes_step h (by omega), dif_pos hs, if_neg h9, if_pos (by omega), if_neg h0]
theorem pow_le_top (k : Nat) (hk : k < 9) : 128 ^ k ≤ 72057594037927936 := by
  have : (72057594037927936 : Nat) = 128 ^ 8 := by decide
  rw [this]; exact Nat.pow_le_pow_right (by omega) (by omega)
theorem goes_more {s : ByteArray} {k a : Nat} (h : Goes s k a) (hk : k < 9) (hs : k < s.size) (hc : 128 ≤ s[k].toNat) : Goes s (k + 1) (a + s[k].toNat % 128 * 128 ^ k) := by
  refine ⟨?_, ?_⟩
  · rw [goes_step h (by omega), dif_pos hs, if_neg (by omega), if_neg (by omega)]
  · have h2 := h.2
    have h3 : s[k].toNat % 128 * 128 ^ k ≤ 127 * 128 ^ k := Nat.mul_le_mul_right _ (by omega)
    rw [Nat.pow_succ]; omega
theorem sum_low (a c k : Nat) (hk : k < 9) (ha : a < 128 ^ k) : a + c % 128 * 128 ^ k < 18446744073709551616 := by
  have h1 := pow_le_top k hk
  have h3 : c % 128 * 128 ^ k ≤ 127 * 128 ^ k := Nat.mul_le_mul_right _ (by omega)
  omega
theorem sum_nine (a c : Nat) (hc : c ≤ 1) (ha : a < 128 ^ 9) : a + c % 128 * 128 ^ 9 < 18446744073709551616 := by
  have e : (128 : Nat) ^ 9 = 9223372036854775808 := by decide
  rw [e] at ha ⊢
  have : c % 128 ≤ 1 := by omega
  omega

/-! ### the number of a list of bytes -/
def valL : List UInt8 → Nat
  | [] => 0
  | b :: l => b.toNat % 128 + 128 * valL l
theorem valL_snoc (l : List UInt8) (c : UInt8) : valL (l ++ [c]) = valL l + c.toNat % 128 * 128 ^ l.length := by
  induction l with
  | nil => simp [valL]
  | cons b l ih =>
    simp only [List.cons_append, valL, ih, List.length_cons, Nat.pow_succ]
    rw [Nat.mul_add, Nat.add_assoc]
    congr 2
    rw [Nat.mul_comm 128, Nat.mul_assoc]
theorem valL_lt (l : List UInt8) : valL l < 128 ^ l.length := by
  induction l with
  | nil => simp [valL]
  | cons b l ih => simp only [valL, List.length_cons, Nat.pow_succ]; omega
/-- all bytes go on -/
def Conts (l : List UInt8) : Prop := ∀ b ∈ l, 128 ≤ b.toNat
theorem sh_valL (f : Nat) : ∀ (l : List UInt8) (c : UInt8), Conts l → c.toNat < 128 → (c.toNat ≠ 0 ∨ l = []) → l.length ≤ f → sh f (valL (l ++ [c])) = l ++ [c] := by
  induction f with
  | zero =>
    intro l c _ hc _ hl
    obtain rfl : l = [] := List.eq_nil_of_length_eq_zero (by omega)
    simp only [List.nil_append, valL, sh, Nat.mul_zero, Nat.add_zero]
    rw [Nat.mod_eq_of_lt hc, UInt8.ofNat_toNat]
  | succ f ih =>
    intro l c hl hc h0 hf
    cases l with
    | nil =>
      simp only [List.nil_append, valL, sh, Nat.mul_zero, Nat.add_zero]
      rw [Nat.mod_eq_of_lt hc, if_pos hc, UInt8.ofNat_toNat]
    | cons b l =>
      have hc0 : c.toNat ≠ 0 := by rcases h0 with h | h; exact h; cases h
      have hv : 1 ≤ valL (l ++ [c]) := by
        rw [valL_snoc]
        have hp : 0 < 128 ^ l.length := Nat.pow_pos (by omega)
        have : 1 ≤ c.toNat % 128 * 128 ^ l.length := Nat.mul_pos (by omega) hp
        omega
      have hb := hl b (by simp)
      have hb2 := b.toNat_lt
      have := ih l c (fun x hx => hl x (by simp [hx])) hc (Or.inl hc0) (by simp at hf; omega)
      simp only [List.cons_append, valL, sh]
      rw [if_neg (by omega), show (b.toNat % 128 + 128 * valL (l ++ [c])) % 128 + 128 = b.toNat from by omega,
        show (b.toNat % 128 + 128 * valL (l ++ [c])) / 128 = valL (l ++ [c]) from by omega, this, UInt8.ofNat_toNat]
/-- a short form: bytes that go on, and a last one -/
theorem sh_form (f : Nat) : ∀ (n : Nat), n < 128 ^ (f + 1) → ∃ (l : List UInt8) (c : UInt8), sh f n = l ++ [c] ∧ Conts l ∧ c.toNat < 128 ∧ (c.toNat ≠ 0 ∨ l = []) ∧ l.length ≤ f ∧ valL (l ++ [c]) = n ∧ (l.length = f → c.toNat = n / 128 ^ f) := by
  induction f with
  | zero =>
    intro n hn
    have hn : n < 128 := by simpa using hn
    have e : (UInt8.ofNat n).toNat = n := by simp; omega
    exact ⟨[], UInt8.ofNat n, rfl, (fun b h => by cases h), by omega, Or.inr rfl, by simp, by simp only [List.nil_append, valL]; omega, fun _ => by simp; omega⟩
  | succ f ih =>
    intro n hn
    by_cases h : n < 128
    · have e : (UInt8.ofNat n).toNat = n := by simp; omega
      exact ⟨[], UInt8.ofNat n, by simp [sh, h], (fun b h => by cases h), by omega, Or.inr rfl, by simp, by simp only [List.nil_append, valL]; omega, fun hf => by simp at hf⟩
    · obtain ⟨l, c, h1, h2, h3, h4, h5, h6, h7⟩ := ih (n / 128) (by rw [Nat.pow_succ] at hn; omega)
      have e : (UInt8.ofNat (n % 128 + 128)).toNat = n % 128 + 128 := by simp; omega
      refine ⟨UInt8.ofNat (n % 128 + 128) :: l, c, by simp [sh, h, h1], ?_, h3, ?_, by simp; omega, ?_, ?_⟩
      · intro b hb
        rcases List.mem_cons.1 hb with rfl | hb
        · omega
        · exact h2 b hb
      · rcases h4 with h4 | rfl
        · exact Or.inl h4
        · left
          simp only [List.nil_append, valL] at h6
          omega
      · simp only [List.cons_append, valL]
        rw [h6, e]; omega
      · intro hf
        rw [h7 (by simpa using hf), Nat.div_div_eq_div_mul, Nat.pow_succ, Nat.mul_comm]
theorem sh_length_lt (f : Nat) : ∀ (n k : Nat), n < 128 ^ k → 1 ≤ k → (sh f n).length ≤ k := by
  induction f with
  | zero => intro n k _ hk; simpa [sh] using hk
  | succ f ih =>
    intro n k hn hk
    unfold sh
    split
    · simpa using hk
    · obtain ⟨k, rfl⟩ : ∃ j, k = j + 1 := ⟨k - 1, by omega⟩
      rcases Nat.eq_zero_or_pos k with rfl | h0
      · simp at hn; omega
      · have := ih (n / 128) k (by rw [Nat.pow_succ] at hn; omega) h0
        simp; omega

/-! ### the first bytes of a text -/
theorem size_toList (s : ByteArray) : s.data.toList.length = s.size := Array.length_toList
def firsts (s : ByteArray) (k : Nat) : List UInt8 := s.data.toList.take k
theorem firsts_succ (s : ByteArray) (k : Nat) (h : k < s.size) : firsts s (k + 1) = firsts s k ++ [s[k]] := by
  unfold firsts
  rw [List.take_succ_eq_append_getElem (by simpa using h)]; rfl
theorem firsts_length (s : ByteArray) (k : Nat) (h : k ≤ s.size) : (firsts s k).length = k := by
  unfold firsts; rw [List.length_take, size_toList]; omega
theorem conts_succ {s : ByteArray} {k : Nat} (h : k < s.size) (hc : Conts (firsts s k)) (h1 : 128 ≤ s[k].toNat) : Conts (firsts s (k + 1)) := by
  rw [firsts_succ s k h]
  intro b hb
  rcases List.mem_append.1 hb with hb | hb
  · exact hc b hb
  · obtain rfl := List.mem_singleton.1 hb; exact h1
theorem valL_succ (s : ByteArray) (k : Nat) (h : k < s.size) : valL (firsts s (k + 1)) = valL (firsts s k) + s[k].toNat % 128 * 128 ^ k := by
  rw [firsts_succ s k h, valL_snoc, firsts_length s k (by omega)]
theorem goes_of (s : ByteArray) (k : Nat) (hk : k ≤ 9) (hs : k ≤ s.size) (hc : Conts (firsts s k)) : Goes s k (valL (firsts s k)) := by
  induction k with
  | zero => simpa [firsts, valL] using goes_zero s
  | succ k ih =>
    have h0 : Conts (firsts s k) := fun b hb => hc b (by rw [firsts_succ s k (by omega)]; exact List.mem_append_left _ hb)
    have h1 := hc s[k] (by rw [firsts_succ s k (by omega)]; simp)
    rw [valL_succ s k (by omega)]
    exact goes_more (ih (by omega) (by omega) h0) (by omega) (by omega) h1

/-- what taking comes to: an error, or a number whose short form stands there -/
def Took (s : ByteArray) (n k : Nat) : Prop := ∃ m, k = m + 1 ∧ m ≤ 9 ∧ (∃ h : m < s.size, s[m].toNat < 128 ∧ (s[m].toNat ≠ 0 ∨ m = 0) ∧ (m = 9 → s[m].toNat ≤ 1)) ∧ Conts (firsts s m) ∧ n = valL (firsts s (m + 1))
theorem take_cases (s : ByteArray) : take s = (0, 0, 6) ∨ take s = (0, 0, 10) ∨ ∃ n k, take s = (n, k, 0) ∧ Took s n k := by
  suffices ∀ d k, k + d = 9 → k ≤ s.size → Conts (firsts s k) → take s = (0, 0, 6) ∨ take s = (0, 0, 10) ∨ ∃ n k, take s = (n, k, 0) ∧ Took s n k from
    this 9 0 (by omega) (by omega) (fun b hb => by simp [firsts] at hb)
  intro d
  induction d with
  | zero =>
    intro k hk hs hc
    have hg := goes_of s k (by omega) hs hc
    rcases Nat.lt_or_ge k s.size with hlt | hge
    · by_cases h1 : 1 < s[k].toNat
      · exact Or.inl (goes_big hg (by omega) hlt h1)
      · by_cases h0 : s[k].toNat = 0
        · exact Or.inl (goes_nought hg (by omega) hlt h0 (by omega))
        · refine Or.inr (Or.inr ⟨_, _, goes_done hg (by omega) hlt (by omega) (by omega) (by omega), k, rfl, by omega, ⟨hlt, by omega, Or.inl h0, fun _ => by omega⟩, hc, ?_⟩)
          rw [valL_succ s k hlt]
    · exact Or.inr (Or.inl (goes_short hg (by omega) (by omega)))
  | succ d ih =>
    intro k hk hs hc
    have hg := goes_of s k (by omega) hs hc
    rcases Nat.lt_or_ge k s.size with hlt | hge
    · by_cases h1 : 128 ≤ s[k].toNat
      · exact ih (k + 1) (by omega) (by omega) (conts_succ hlt hc h1)
      · by_cases h0 : s[k].toNat = 0 ∧ 0 < k
        · exact Or.inl (goes_nought hg (by omega) hlt h0.1 h0.2)
        · refine Or.inr (Or.inr ⟨_, _, goes_done hg (by omega) hlt (by omega) (by omega) h0, k, rfl, by omega, ⟨hlt, by omega, by omega, fun h => by omega⟩, hc, ?_⟩)
          rw [valL_succ s k hlt]
    · exact Or.inr (Or.inl (goes_short hg (by omega) (by omega)))
theorem took_put {s : ByteArray} {n k : Nat} (h : Took s n k) : short n = firsts s k := by
  obtain ⟨m, rfl, hm, ⟨hs, h1, h2, h3⟩, hc, rfl⟩ := h
  rw [firsts_succ s m hs]
  exact sh_valL 9 _ _ hc h1 (by
    rcases h2 with h2 | rfl
    · exact Or.inl h2
    · exact Or.inr rfl) (by rw [firsts_length s m (by omega)]; exact hm)
theorem took_lt {s : ByteArray} {n k : Nat} (h : Took s n k) : n < 18446744073709551616 := by
  obtain ⟨m, rfl, hm, ⟨hs, h1, h2, h3⟩, hc, rfl⟩ := h
  have hl := valL_lt (firsts s m)
  rw [firsts_length s m (by omega)] at hl
  rw [valL_succ s m hs]
  rcases Nat.lt_or_ge m 9 with h | h
  · exact sum_low _ _ _ h hl
  · obtain rfl : m = 9 := by omega
    exact sum_nine _ _ (h3 rfl) hl

/-- what was put is taken as it was, whatever stands behind it -/
theorem take_put (n : Nat) (hn : n < 18446744073709551616) (s : ByteArray) (more : List UInt8) (hs : s.data.toList = short n ++ more) : take s = (n, (short n).length, 0) := by
  have e10 : (128 : Nat) ^ (9 + 1) = 1180591620717411303424 := by decide
  have e9 : (128 : Nat) ^ 9 = 9223372036854775808 := by decide
  obtain ⟨l, c, h1, h2, h3, h4, h5, h6, h7⟩ := sh_form 9 n (by rw [e10]; omega)
  rw [e9] at h7
  have h1' : short n = l ++ [c] := h1
  rw [h1'] at hs
  have hsz : s.size = l.length + 1 + more.length := by
    have := congrArg List.length hs
    rw [size_toList] at this
    simp at this; omega
  have hf : firsts s l.length = l := by unfold firsts; rw [hs, List.append_assoc, List.take_left]
  have hlt : l.length < s.size := by omega
  have hat : s[l.length] = c := by
    have : s[l.length] = s.data.toList[l.length]'(by rw [size_toList]; exact hlt) := by simp; rfl
    rw [this]
    simp [hs]
  have hf1 := valL_succ s l.length hlt
  rw [firsts_succ s _ hlt, hf, hat, h6] at hf1
  have hg := goes_of s l.length h5 (by omega) (by rw [hf]; exact h2)
  rw [hf] at hg
  have hd := goes_done hg (by omega) hlt (by rw [hat]; intro h; have := h7 h.1; omega) (by rw [hat]; exact h3) (by
    rw [hat]; rintro ⟨h, h'⟩
    rcases h4 with h4 | rfl
    · exact h4 h
    · simp at h')
  rw [hd, hat, ← hf1, h1']; simp
/-- a beginning of what was taken is none -/
theorem take_begin {s t : ByteArray} {n k i : Nat} (h : Took s n k) (hi : i < k) (ht : t.data.toList = firsts s i) : take t = (0, 0, 10) := by
  obtain ⟨m, rfl, hm, ⟨hs, h1, h2, h3⟩, hc, rfl⟩ := h
  have hsz : t.size = i := by
    have := congrArg List.length ht
    rw [firsts_length s i (by omega), size_toList] at this
    exact this
  have hf : firsts t i = firsts s i := by
    unfold firsts at *
    rw [ht, List.take_take, Nat.min_self]
  have hc2 : Conts (firsts t i) := by
    rw [hf]; intro b hb
    refine hc b ?_
    unfold firsts at *
    exact (List.take_subset_take_left _ (by omega)) hb
  exact goes_short (goes_of t i (by omega) (by omega) hc2) (by omega) hsz.symm
end Go.Proofs.Ytjbdmhafjcoplaa
