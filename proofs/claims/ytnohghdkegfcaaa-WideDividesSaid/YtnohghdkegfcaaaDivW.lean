/- The walks of wide.Div and wide.Part. -/
import Derived.Test.YtnohghdkegfcaaaDiv
namespace Go.Proofs.Ytnohghdkegfcaaa
open Go.RowKit

theorem div_words {A b : Nat} (h0 : 0 < b) : hiW (A / b) = hiW A / b ∧ loW (A / b) = (hiW A % b * 18446744073709551616 + loW A) / b ∧ A % b = (hiW A % b * 18446744073709551616 + loW A) % b := by
  have e : A = (hiW A % b * 18446744073709551616 + loW A) + hiW A / b * 18446744073709551616 * b := by
    have h1 := hi_lo A
    have h2 := Nat.div_add_mod (hiW A) b
    have h3 : hiW A / b * 18446744073709551616 * b = b * (hiW A / b) * 18446744073709551616 := by rw [Nat.mul_right_comm, Nat.mul_comm b]
    rw [h3]
    generalize b * (hiW A / b) = P at *
    omega
  have hl : (hiW A % b * 18446744073709551616 + loW A) / b < 18446744073709551616 := by
    have h1 := loW_lt A
    have h2 := Nat.mod_lt (hiW A) h0
    rw [Nat.div_lt_iff_lt_mul h0]
    have : hiW A % b * 18446744073709551616 + 18446744073709551616 ≤ b * 18446744073709551616 := by
      have := Nat.mul_le_mul_right 18446744073709551616 (show hiW A % b + 1 ≤ b from h2); omega
    rw [Nat.mul_comm 18446744073709551616 b]; omega
  have q : A / b = (hiW A % b * 18446744073709551616 + loW A) / b + hiW A / b * 18446744073709551616 := by
    conv => lhs; rw [e]
    rw [Nat.add_mul_div_right _ _ h0]
  have r : A % b = (hiW A % b * 18446744073709551616 + loW A) % b := by
    conv => lhs; rw [e]
    rw [Nat.add_mul_mod_self_right]
  refine ⟨?_, ?_, r⟩
  · rw [q, Nat.add_comm]; exact hiW_mk _ _ hl
  · rw [q, Nat.add_comm]; exact loW_mk _ _ hl

theorem set2 {w : World} {g : Nat} {x y u v : Value} (h1 : w.cell? ⟨g, 0, none⟩ = some x) (h2 : w.cell? ⟨g, 1, none⟩ = some y) :
    ((w.setCell ⟨g, 0, none⟩ u).setCell ⟨g, 1, none⟩ v).cell? ⟨g, 0, none⟩ = some u ∧ ((w.setCell ⟨g, 0, none⟩ u).setCell ⟨g, 1, none⟩ v).cell? ⟨g, 1, none⟩ = some v :=
  ⟨(World.cell?_setCell_other _ _ _ _ (by simp)).trans (World.cell?_setCell_same _ _ _ h1), World.cell?_setCell_same _ _ _ ((World.cell?_setCell_other _ _ _ _ (by simp)).trans h2)⟩

set_option maxRecDepth 100000 in
set_option maxHeartbeats 1000000 in
theorem div_none (A : Nat) (hA : A < W128) (w : World) :
    Calls Try.prog 24 #[wv A, .int .u64 (0 : Nat)] w fun e w' => e = .returned (.tuple #[wv 0, .int .u64 (0 : Nat), .int .i64 2]) ∧ Below w.heap.size w w' := by
  have HA := Lib.hid hA
  clear hA
  go_enter Try.func24, Try.ntmps24
  go_wp2_with fail
  refine bodyPost_ret (v := .tuple #[wv 0, .int .u64 (0 : Nat), .int .i64 2]) ?_ rfl ⟨rfl, ?_⟩
  · have e1 : hiW 0 = 0 := rfl
    have e2 : loW 0 = 0 := rfl
    simp [results, Try.results24, go_sem, e1, e2]
  · exact ((Below.refl _ _).alloc (Nat.le_refl _) _).alloc (by simp) _

set_option maxRecDepth 100000 in
set_option maxHeartbeats 1000000 in
theorem div_any (A b : Nat) (hA : A < W128) (h0 : 0 < b) (hb : b < 18446744073709551616) (w : World) :
    Calls Try.prog 24 #[wv A, .int .u64 b] w fun e w' => e = .returned (.tuple #[wv (A / b), .int .u64 (A % b : Nat), .int .i64 0]) ∧ Below w.heap.size w w' := by
  have HA := Lib.hid hA
  have HB := Lib.hid hb
  have hm : Hid (hiW A % b < b) := Nat.mod_lt _ h0
  have hb0 : ((b : Int) == 0) = false := beq_eq_false_iff_ne.2 (by omega)
  have f1 : ((hiW A : Int).tdiv (b : Int)) = ((hiW A / b : Nat) : Int) := by rw [Int.tdiv_eq_ediv_of_nonneg (by omega)]; simp
  have f2 : ((hiW A : Int).tmod (b : Int)) = ((hiW A % b : Nat) : Int) := by rw [Int.tmod_eq_emod_of_nonneg (by omega)]; simp
  have hd := Lib.hid (@div_words A b h0)
  have g1 : ((hiW A : Int) / (b : Int)) = ((hiW A / b : Nat) : Int) := by simp
  have g2 : ((hiW A : Int) % (b : Int)) = ((hiW A % b : Nat) : Int) := by simp
  have hq : Hid (hiW A / b < 18446744073709551616) := by show _ < _; have := hiW_lt HA.out; have := Nat.div_le_self (hiW A) b; omega
  generalize hQ : hiW A / b = Q at *
  generalize hR : hiW A % b = R at *
  have f3 : IntKind.u64.wrap (Q : Int) = (Q : Int) := wrap_u64_of (Q : Int) (by omega) (by have := hq.out; omega)
  have hb1 : ¬ b = 0 := by omega
  clear hA hb hQ hR
  go_enter Try.func24, Try.ntmps24
  go_wp2_with fail
  go_quiet (fail)
  go_wp2_with fail
  refine (div64_any R (loW A) b hm.out (loW_lt A) HB.out _).mono ?_
  rintro e w1 ⟨rfl, hb1⟩
  rw [← hd.out.2.1, ← hd.out.2.2]
  have kb : Below (laid2 w A).heap.size (laid2 w A) w1 := below_then (below_drewN (Below.refl _ _) nq) hb1
  clear hb1
  obtain ⟨r1, r2, r3, r4, r5⟩ := res_cells kb
  have kbw : Below w.heap.size w w1 := (((Below.refl _ _).alloc (Nat.le_refl _) _).alloc (by simp) _).trans (kb.mono (by simp; omega))
  rw [← hd.out.1]
  go_wp2_with fail
  obtain ⟨q1, q2⟩ := set2 (u := .int .u64 (hiW (A / b))) (v := .int .u64 (loW (A / b))) r1 r2
  refine bodyPost_ret (v := .tuple #[wv (A / b), .int .u64 (A % b : Nat), .int .i64 0]) ?_ rfl ⟨rfl, (kbw.setCell (by simp) _).setCell (by simp) _⟩
  simp [results, Try.results24, go_sem, q1, q2]
end Go.Proofs.Ytnohghdkegfcaaa
