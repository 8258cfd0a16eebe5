/- The walks of PutText, TakeText, of the reference's, and of the law DigitTexts. -/
import Derived.Test.YtjbdmhafjcoplaaTakesW
namespace Go.Proofs.Ytjbdmhafjcoplaa
open Go.RowKit

/-- the told text with which a text begins, its length with its number, and the error's number -/
def takeT (s : ByteArray) (m : Int) : ByteArray × Int × Int :=
  if (take s).2.2 ≠ 0 then (⟨#[]⟩, 0, (take s).2.2)
  else if m < 0 ∨ m < (take s).1 then (⟨#[]⟩, 0, 3)
  else if s.size - (take s).2.1 < (take s).1 then (⟨#[]⟩, 0, 10)
  else (s.extract (take s).2.1 ((take s).2.1 + (take s).1), ((take s).2.1 + (take s).1 : Nat), 0)

theorem extract_rest (s : ByteArray) (k n : Nat) (h : k + n ≤ s.size) : (s.extract k s.size).extract 0 n = s.extract k (k + n) := by
  rw [ByteArray.extract_extract, Nat.add_zero, Nat.min_eq_left h]
theorem tupleS {a a' : ByteArray} {b b' c c' : Int} (h : a = a') (h2 : b = b') (h3 : c = c') : Ending.returned (.tuple #[.string a, .int .i64 b, .int .i64 c]) = .returned (.tuple #[.string a', .int .i64 b', .int .i64 c']) := by rw [h, h2, h3]

set_option maxRecDepth 100000 in
set_option maxHeartbeats 400000 in
theorem takeT_any (s : ByteArray) (m : Int) (w : World) (hs : s.size ≤ maxLen) (hm : m < 9223372036854775808) :
    Calls Try.prog 21 #[.string s, .int .i64 m] w fun e w' => e = .returned (.tuple #[.string (takeT s m).1, .int .i64 (takeT s m).2.1, .int .i64 (takeT s m).2.2]) ∧ w = w' := by
  have hs' := hs
  unfold maxLen at hs'
  have HM := Lib.hid hm
  clear hm
  rcases take_cases s with h | h | ⟨n, k, h, ht⟩
  · have hv : Hid (takeT s m = (⟨#[]⟩, 0, 6)) := by show takeT s m = _; unfold takeT; rw [h]; simp
    have H := Lib.hid h
    clear h
    go_enter Try.func21, Try.ntmps21
    go_wp2_with fail
    refine (take_any s _ hs).mono ?_
    rintro e w1 ⟨rfl, rfl⟩
    rw [H.out]
    go_wp2_with fail
    go_ret3
    rw [hv.out]; exact ⟨rfl, rfl⟩
  · have hv : Hid (takeT s m = (⟨#[]⟩, 0, 10)) := by show takeT s m = _; unfold takeT; rw [h]; simp
    have H := Lib.hid h
    clear h
    go_enter Try.func21, Try.ntmps21
    go_wp2_with fail
    refine (take_any s _ hs).mono ?_
    rintro e w1 ⟨rfl, rfl⟩
    rw [H.out]
    go_wp2_with fail
    go_ret3
    rw [hv.out]; exact ⟨rfl, rfl⟩
  · have H := Lib.hid h
    have hn := Lib.hid (took_lt ht)
    have hk2 : k ≤ 10 := by obtain ⟨m, rfl, _⟩ := ht; omega
    have hk3 : k ≤ s.size := by obtain ⟨m, rfl, _, ⟨_, _⟩, _⟩ := ht; omega
    clear ht
    by_cases hneg : m < 0
    · have hv : Hid (takeT s m = (⟨#[]⟩, 0, 3)) := by show takeT s m = _; unfold takeT; rw [h]; simp [hneg]
      clear h
      go_enter Try.func21, Try.ntmps21
      go_wp2_with fail
      refine (take_any s _ hs).mono ?_
      rintro e w1 ⟨rfl, rfl⟩
      rw [H.out]
      go_wp2_with fail
      go_ret3
      rw [hv.out]; exact ⟨rfl, rfl⟩
    · have hw : IntKind.u64.wrap m = m := wrap_u64_of m (by omega) (by have := HM.out; omega)
      by_cases hlong : m < n
      · have hv : Hid (takeT s m = (⟨#[]⟩, 0, 3)) := by show takeT s m = _; unfold takeT; rw [h]; simp [hlong]
        clear h
        go_enter Try.func21, Try.ntmps21
        go_wp2_with fail
        refine (take_any s _ hs).mono ?_
        rintro e w1 ⟨rfl, rfl⟩
        rw [H.out]
        go_wp2_with fail
        go_ret3
        rw [hv.out]; exact ⟨rfl, rfl⟩
      · by_cases hsh : s.size - k < n
        · have hv : Hid (takeT s m = (⟨#[]⟩, 0, 10)) := by show takeT s m = _; unfold takeT; rw [h]; simp [hlong, hneg, hsh]
          clear h
          go_enter Try.func21, Try.ntmps21
          go_wp2_with fail
          refine (take_any s _ hs).mono ?_
          rintro e w1 ⟨rfl, rfl⟩
          rw [H.out]
          go_wp2_with fail
          go_ret3
          rw [hv.out]; exact ⟨rfl, rfl⟩
        · have hv : Hid (takeT s m = (s.extract k (k + n), ((k + n : Nat) : Int), 0)) := by show takeT s m = _; unfold takeT; rw [h]; simp [hlong, hneg, hsh]
          clear h
          go_enter Try.func21, Try.ntmps21
          go_wp2_with fail
          refine (take_any s _ hs).mono ?_
          rintro e w1 ⟨rfl, rfl⟩
          rw [H.out]
          go_wp2_with fail
          go_ret3
          rw [hv.out]; exact ⟨rfl, rfl⟩
set_option maxRecDepth 100000 in
set_option maxHeartbeats 400000 in
theorem refTakeT_any (s : ByteArray) (m : Int) (w : World) (hs : s.size ≤ maxLen) (hm : m < 9223372036854775808) :
    Calls Try.prog 22 #[.string s, .int .i64 m] w fun e w' => e = .returned (.tuple #[.string (takeT s m).1, .int .i64 (takeT s m).2.1, .int .i64 (takeT s m).2.2]) ∧ Below w.heap.size w w' := by
  have hs' := hs
  unfold maxLen at hs'
  have HM := Lib.hid hm
  clear hm
  rcases take_cases s with h | h | ⟨n, k, h, ht⟩
  · have hv : Hid (takeT s m = (⟨#[]⟩, 0, 6)) := by show takeT s m = _; unfold takeT; rw [h]; simp
    have H := Lib.hid h
    clear h
    go_enter Try.func22, Try.ntmps22
    go_wp2_with fail
    refine (refTake_any s _ hs).mono ?_
    rintro e w1 ⟨rfl, hb⟩
    rw [H.out]
    go_wp2_with fail
    go_ret3
    rw [hv.out]; exact ⟨rfl, hb⟩
  · have hv : Hid (takeT s m = (⟨#[]⟩, 0, 10)) := by show takeT s m = _; unfold takeT; rw [h]; simp
    have H := Lib.hid h
    clear h
    go_enter Try.func22, Try.ntmps22
    go_wp2_with fail
    refine (refTake_any s _ hs).mono ?_
    rintro e w1 ⟨rfl, hb⟩
    rw [H.out]
    go_wp2_with fail
    go_ret3
    rw [hv.out]; exact ⟨rfl, hb⟩
  · have H := Lib.hid h
    have hn := Lib.hid (took_lt ht)
    have hk2 : k ≤ 10 := by obtain ⟨m, rfl, _⟩ := ht; omega
    have hk3 : k ≤ s.size := by obtain ⟨m, rfl, _, ⟨_, _⟩, _⟩ := ht; omega
    clear ht
    by_cases hneg : m < 0
    · have hv : Hid (takeT s m = (⟨#[]⟩, 0, 3)) := by show takeT s m = _; unfold takeT; rw [h]; simp [hneg]
      clear h
      go_enter Try.func22, Try.ntmps22
      go_wp2_with fail
      refine (refTake_any s _ hs).mono ?_
      rintro e w1 ⟨rfl, hb⟩
      rw [H.out]
      go_wp2_with fail
      go_ret3
      rw [hv.out]; exact ⟨rfl, hb⟩
    · have hw : IntKind.u64.wrap m = m := wrap_u64_of m (by omega) (by have := HM.out; omega)
      by_cases hlong : m < n
      · have hv : Hid (takeT s m = (⟨#[]⟩, 0, 3)) := by show takeT s m = _; unfold takeT; rw [h]; simp [hlong]
        clear h
        go_enter Try.func22, Try.ntmps22
        go_wp2_with fail
        refine (refTake_any s _ hs).mono ?_
        rintro e w1 ⟨rfl, hb⟩
        rw [H.out]
        go_wp2_with fail
        go_ret3
        rw [hv.out]; exact ⟨rfl, hb⟩
      · by_cases hsh : s.size - k < n
        · have hv : Hid (takeT s m = (⟨#[]⟩, 0, 10)) := by show takeT s m = _; unfold takeT; rw [h]; simp [hlong, hneg, hsh]
          clear h
          go_enter Try.func22, Try.ntmps22
          go_wp2_with fail
          refine (refTake_any s _ hs).mono ?_
          rintro e w1 ⟨rfl, hb⟩
          rw [H.out]
          go_wp2_with fail
          go_ret3
          rw [hv.out]; exact ⟨rfl, hb⟩
        · have hv : Hid (takeT s m = (s.extract k (k + n), ((k + n : Nat) : Int), 0)) := by show takeT s m = _; unfold takeT; rw [h]; simp [hlong, hneg, hsh]
          clear h
          go_enter Try.func22, Try.ntmps22
          go_wp2_with fail
          refine (refTake_any s _ hs).mono ?_
          rintro e w1 ⟨rfl, hb⟩
          rw [H.out]
          go_wp2_with fail
          go_ret3
          rw [hv.out]; exact ⟨tupleS (extract_rest s k n (by omega)) rfl rfl, hb⟩

set_option maxRecDepth 100000 in
set_option maxHeartbeats 400000 in
theorem putText_any (s : ByteArray) (w : World) (hs : s.size ≤ 65536) :
    Calls Try.prog 23 #[.string s] w fun e w' => e = .returned (.string (putS s.size ++ s)) ∧ Below w.heap.size w w' := by
  have hp : (putS s.size).size ≤ 10 := (short_length _).2
  go_enter Try.func23, Try.ntmps23
  go_wp2_with fail
  refine (put_any s.size (by omega) _).mono ?_
  rintro e w1 ⟨rfl, hb⟩
  go_wp2_with fail
  go_ret
  exact ⟨rfl, hb⟩

set_option maxRecDepth 100000 in
set_option maxHeartbeats 400000 in
theorem refPutText_any (s : ByteArray) (w : World) (hs : s.size ≤ 65536) :
    Calls Try.prog 24 #[.string s] w fun e w' => e = .returned (.string (putS s.size ++ s)) ∧ Below w.heap.size w w' := by
  have hp : (putS s.size).size ≤ 10 := (short_length _).2
  go_enter Try.func24, Try.ntmps24
  go_wp2_with fail
  refine (refPut s.size (by omega) _).mono ?_
  rintro e w1 ⟨rfl, hb⟩
  go_wp2_with fail
  go_ret
  exact ⟨rfl, hb⟩

set_option maxRecDepth 100000 in
set_option maxHeartbeats 400000 in
theorem digitTextsWalk (a0 : ByteArray) (a1 : Int) (w : World) (w0 : a0.size ≤ maxLen) (w1 : (Lit.int .i64 a1).wf = true) :
    Calls Try.prog 7 #[.string a0, .int .i64 a1] w fun e w' => e = .returned (.bool true) ∧ Below w.heap.size w w' := by
  have hm : a1 < 9223372036854775808 := by
    simp [Lit.wf, IntKind.min, IntKind.max, IntKind.signed, IntKind.bits] at w1
    omega
  have HM := Lib.hid hm
  clear hm w1
  by_cases hl : 65536 < a0.size
  · go_enter Try.func7, Try.ntmps7
    go_wp2_with fail
    refine (works_any _).mono ?_
    rintro e w1 ⟨rfl, hb1⟩
    go_wp2_with fail
    go_ret
    exact ⟨rfl, hb1⟩
  · go_enter Try.func7, Try.ntmps7
    go_wp2_with fail
    refine (takeT_any a0 a1 _ w0 HM.out).mono ?_
    rintro e w1 ⟨rfl, rfl⟩
    go_wp2_with fail
    refine (refTakeT_any a0 a1 _ w0 HM.out).mono ?_
    rintro e w2 ⟨rfl, hb2⟩
    go_wp2_with fail
    refine (putText_any a0 _ (by omega)).mono ?_
    rintro e w3 ⟨rfl, hb3⟩
    go_wp2_with fail
    refine (refPutText_any a0 _ (by omega)).mono ?_
    rintro e w4 ⟨rfl, hb4⟩
    go_wp2_with fail
    go_ret
    exact ⟨rfl, below_then (below_then hb2 hb3) hb4⟩
end Go.Proofs.Ytjbdmhafjcoplaa
