/- The walk of the law DigitOrder: the lesser number's eight bytes stand ahead, its short form is no longer. -/
import Derived.Test.YtjbdmhafjcoplaaTakesW
import Derived.Lib.Bytealg
namespace Go.Proofs.Ytjbdmhafjcoplaa
open Go.RowKit

set_option maxRecDepth 100000 in
set_option maxHeartbeats 400000 in
theorem cmpString_any (a b : ByteArray) (w : World) :
    Calls Try.prog 27 #[.string a, .string b] w fun e w' => e = .returned (.int .i64 (Lib.compareBytes a.data.toList b.data.toList)) ∧ w = w' := by
  go_enter Try.func27, Try.ntmps27
  go_wp2
  rw [run_callFunc_extern Try.func28 (by kernel_rfl) (by kernel_rfl) (by kernel_rfl) (e := Extern.BytealgCompare.compare) (by kernel_rfl), Lib.run_compareString]
  simp only [Result.andThen]
  rw [Oper.upon_value]
  go_wp2
  go_ret
  exact ⟨rfl, rfl⟩
set_option maxRecDepth 100000 in
set_option maxHeartbeats 400000 in
theorem compare_any (a b : ByteArray) (w : World) :
    Calls Try.prog 25 #[.string a, .string b] w fun e w' => e = .returned (.int .i64 (Lib.compareBytes a.data.toList b.data.toList)) ∧ w = w' := by
  go_enter Try.func25, Try.ntmps25
  go_wp2_with fail
  refine (cmpString_any a b _).mono ?_
  rintro e w1 ⟨rfl, rfl⟩
  go_wp2_with fail
  go_ret
  exact ⟨rfl, rfl⟩

/-- the number of some bytes, the highest first -/
def big : List UInt8 → Nat
  | [] => 0
  | b :: l => b.toNat * 256 ^ l.length + big l
theorem big_lt (l : List UInt8) : big l < 256 ^ l.length := by
  induction l with
  | nil => decide
  | cons b l ih =>
    have := b.toNat_lt
    simp only [big, List.length_cons, Nat.pow_succ]
    have h : b.toNat * 256 ^ l.length ≤ 255 * 256 ^ l.length := Nat.mul_le_mul_right _ (by omega)
    omega
theorem compare_big : ∀ (l m : List UInt8), l.length = m.length → Lib.compareBytes l m = if big l < big m then -1 else if big m < big l then 1 else 0
  | [], [], _ => rfl
  | [], _ :: _, h => by simp at h
  | _ :: _, [], h => by simp at h
  | a :: l, b :: m, h => by
    have h' : l.length = m.length := by simpa using h
    have ih := compare_big l m h'
    have hl := big_lt l
    have hm := big_lt m
    have eA : big (a :: l) = a.toNat * 256 ^ l.length + big l := rfl
    have eB : big (b :: m) = b.toNat * 256 ^ l.length + big m := by rw [h']; rfl
    rw [← h'] at hm
    unfold Lib.compareBytes
    generalize 256 ^ l.length = P at *
    generalize big (a :: l) = X at *
    generalize big (b :: m) = Y at *
    by_cases h1 : a < b
    · have h2 : a.toNat < b.toNat := UInt8.lt_iff_toNat_lt.1 h1
      have h3 : (a.toNat + 1) * P ≤ b.toNat * P := Nat.mul_le_mul_right _ h2
      rw [Nat.add_mul] at h3
      rw [if_pos h1, if_pos (by omega)]
    · by_cases h4 : b < a
      · have h2 : b.toNat < a.toNat := UInt8.lt_iff_toNat_lt.1 h4
        have h3 : (b.toNat + 1) * P ≤ a.toNat * P := Nat.mul_le_mul_right _ h2
        rw [Nat.add_mul] at h3
        rw [if_neg h1, if_pos h4, if_neg (by omega), if_pos (by omega)]
      · have h5 : a = b := UInt8.le_antisymm (UInt8.not_lt.1 h4) (UInt8.not_lt.1 h1)
        subst h5
        rw [if_neg h1, if_neg h4, ih]
        subst eA eB
        by_cases c1 : big l < big m
        · rw [if_pos c1, if_pos (by omega)]
        · by_cases c2 : big m < big l
          · rw [if_neg c1, if_pos c2, if_neg (by omega), if_pos (by omega)]
          · rw [if_neg c1, if_neg c2, if_neg (by omega), if_neg (by omega)]
theorem lows_length (n k : Nat) : (lows n k).length = k := by simp [lows]
theorem big_lows (n k : Nat) (hk : k ≤ 8) : big (lows n k) = n % 256 ^ k := by
  induction k with
  | zero => simp [lows, big, Nat.mod_one]
  | succ k ih =>
    rw [lows_succ n k (by omega), big, lows_length, ih (by omega), Nat.pow_succ, Nat.mod_mul]
    have : (UInt8.ofNat (n / 256 ^ k % 256)).toNat = n / 256 ^ k % 256 := by simp
    rw [this, Nat.mul_comm]; omega
theorem big_eight (n : Nat) (h : n < 18446744073709551616) : big (eight n) = n := by
  have e : (256 : Nat) ^ 8 = 18446744073709551616 := by decide
  rw [← lows_eight, big_lows n 8 (by omega), e, Nat.mod_eq_of_lt h]
/-- how two numbers' eight bytes stand to one another -/
def ordE (a b : Nat) : Int := if a < b then -1 else if b < a then 1 else 0
theorem compare_eight (a b : Nat) (ha : a < 18446744073709551616) (hb : b < 18446744073709551616) : Lib.compareBytes (eightS a).data.toList (eightS b).data.toList = ordE a b := by
  show Lib.compareBytes (eight a) (eight b) = _
  rw [compare_big (eight a) (eight b) rfl, big_eight a ha, big_eight b hb]; rfl
theorem sh_mono (f : Nat) : ∀ (a b : Nat), a ≤ b → (sh f a).length ≤ (sh f b).length := by
  induction f with
  | zero => intro a b _; simp [sh]
  | succ f ih =>
    intro a b h
    unfold sh
    by_cases h1 : a < 128
    · rw [if_pos h1]
      split
      · simp
      · simp
    · rw [if_neg h1, if_neg (by omega)]
      simpa using ih (a / 128) (b / 128) (Nat.div_le_div_right h)
theorem short_one (a : Nat) : ((short a).length = 1) ↔ a < 128 := by
  unfold short sh
  split
  · simp; assumption
  · have := sh_length 8 (a / 128)
    simp
    constructor
    · intro h; rw [h] at this; simp at this
    · intro h; omega

set_option maxRecDepth 100000 in
set_option maxHeartbeats 1000000 in
theorem digitOrderWalk (a0 : Int) (a1 : Int) (w : World) (w0 : (Lit.int .u64 a0).wf = true) (w1 : (Lit.int .u64 a1).wf = true) :
    Calls Try.prog 8 #[.int .u64 a0, .int .u64 a1] w fun e w' => e = .returned (.bool true) ∧ Below w.heap.size w w' := by
  obtain ⟨a, rfl, ha⟩ := of_wf_u64 w0
  obtain ⟨b, rfl, hb⟩ := of_wf_u64 w1
  clear w0 w1
  have HA := Lib.hid ha
  have HB := Lib.hid hb
  have HC := Lib.hid (compare_eight a b ha hb)
  have HM := Lib.hid (fun h : a ≤ b => sh_mono 9 a b h)
  have H1 := Lib.hid (short_one a)
  have hs8 := eightS_size a
  clear ha hb
  have hsa := short_length a
  rw [← putS_size] at hsa
  have hsb := short_length b
  rw [← putS_size] at hsb
  go_enter Try.func8, Try.ntmps8
  go_wp2_with fail
  refine (eight_any a _).mono ?_
  rintro e w1 ⟨rfl, hb1⟩
  go_wp2_with fail
  refine (eight_any b _).mono ?_
  rintro e w2 ⟨rfl, hb2⟩
  go_wp2_with fail
  refine (compare_any (eightS a) (eightS b) _).mono ?_
  rintro e w3 ⟨rfl, rfl⟩
  rw [HC.out]
  have ho : ordE a b = -1 ∧ a < b ∨ ordE a b = 0 ∧ a = b ∨ ordE a b = 1 ∧ b < a := by unfold ordE; by_cases h : a < b <;> by_cases h' : b < a <;> simp [h, h'] <;> omega
  have HF : Hid ((decide ((a : Int) < 128) == (((putS a).size : Int) == 1)) = true) := by
    have h := H1.out
    rw [← putS_size] at h
    by_cases h1 : a < 128
    · have h2 := h.2 h1
      have h3 : ((a : Int) < 128) := by omega
      show (decide ((a : Int) < 128) == (((putS a).size : Int) == 1)) = true
      rw [h2]; simp [h3]
    · have h2 : ¬ (putS a).size = 1 := fun e => h1 (h.1 e)
      have h3 : ¬ ((a : Int) < 128) := by omega
      have h4 : (((putS a).size : Int) == 1) = false := beq_eq_false_iff_ne.2 (by omega)
      show (decide ((a : Int) < 128) == (((putS a).size : Int) == 1)) = true
      rw [h4]; simp [h3]
  rcases ho with ⟨h, hab⟩ | ⟨h, rfl⟩ | ⟨h, hab⟩
  · rw [h]
    clear h
    have hq : ((a : Int) == (b : Int)) = false := beq_eq_false_iff_ne.2 (by omega)
    have hle : (putS a).size ≤ (putS b).size := HM.out (by omega)
    go_wp2_with fail
    refine (eight_any a _).mono ?_
    rintro e w4 ⟨rfl, hb4⟩
    go_wp2_with fail
    refine (works_any _).mono ?_
    rintro e w5 ⟨rfl, hb5⟩
    go_wp2_with fail
    refine (size_any a HA.out _).mono ?_
    rintro e w6 ⟨rfl, hb6⟩
    go_wp2_with fail
    refine (size_any b HB.out _).mono ?_
    rintro e w7 ⟨rfl, hb7⟩
    go_wp2_with fail
    refine (size_any a HA.out _).mono ?_
    rintro e w8 ⟨rfl, hb8⟩
    go_wp2_with fail
    go_ret
    exact ⟨congrArg (fun b => Ending.returned (Value.bool b)) HF.out, below_then (below_then (below_then (below_then (below_then (below_then hb1 hb2) hb4) hb5) hb6) hb7) hb8⟩
  · rw [h]
    clear h
    go_wp2_with fail
    refine (eight_any a _).mono ?_
    rintro e w4 ⟨rfl, hb4⟩
    go_wp2_with fail
    refine (works_any _).mono ?_
    rintro e w5 ⟨rfl, hb5⟩
    go_wp2_with fail
    refine (size_any a HA.out _).mono ?_
    rintro e w6 ⟨rfl, hb6⟩
    go_wp2_with fail
    refine (size_any a HA.out _).mono ?_
    rintro e w7 ⟨rfl, hb7⟩
    go_wp2_with fail
    refine (size_any a HA.out _).mono ?_
    rintro e w8 ⟨rfl, hb8⟩
    go_wp2_with fail
    go_ret
    exact ⟨congrArg (fun b => Ending.returned (Value.bool b)) HF.out, below_then (below_then (below_then (below_then (below_then (below_then hb1 hb2) hb4) hb5) hb6) hb7) hb8⟩
  · rw [h]
    clear h
    have hq : ((a : Int) == (b : Int)) = false := beq_eq_false_iff_ne.2 (by omega)
    go_wp2_with fail
    refine (eight_any a _).mono ?_
    rintro e w4 ⟨rfl, hb4⟩
    go_wp2_with fail
    refine (works_any _).mono ?_
    rintro e w5 ⟨rfl, hb5⟩
    go_wp2_with fail
    refine (size_any a HA.out _).mono ?_
    rintro e w8 ⟨rfl, hb8⟩
    go_wp2_with fail
    go_ret
    exact ⟨congrArg (fun b => Ending.returned (Value.bool b)) HF.out, below_then (below_then (below_then (below_then hb1 hb2) hb4) hb5) hb8⟩
end Go.Proofs.Ytjbdmhafjcoplaa
