/- The walk of the law WideOrder. -/
import Derived.Test.YtnohghdkegfcaaaWide
import Derived.Deep.RegionHeld3
namespace Go.Proofs.Ytnohghdkegfcaaa
open Go.RowKit

theorem of_pair {a b : Int} (w : (Lit.int .u64 a).wf = true) (u : (Lit.int .u64 b).wf = true) : ∃ A : Nat, A < W128 ∧ Value.agg #[.int .u64 a, .int .u64 b] = wv A := by
  obtain ⟨m, rfl, hm⟩ := of_wf_u64 w
  obtain ⟨n, rfl, hn⟩ := of_wf_u64 u
  refine ⟨m * 18446744073709551616 + n, ?_, ?_⟩
  · unfold W128; omega
  · rw [wv, hiW_mk m n hn, loW_mk m n hn]
theorem plusR_comm (A B : Nat) : plusR B A = plusR A B := by unfold plusR; rw [Nat.add_comm]
theorem cmpR_neg (A B : Nat) : cmpR B A = - cmpR A B := by unfold cmpR; by_cases h : A = B <;> by_cases h2 : A < B <;> by_cases h3 : B < A <;> simp [h, h2, h3, eq_comm] <;> omega
theorem plusR_lt {A B : Nat} : (plusR A B).1 < W128 := by unfold plusR; split; assumption; decide

theorem keep_cell {W w1 : World} {p : Addr} {v : Value} (hb : Below W.heap.size W w1) (h : W.cell? p = some v) : w1.cell? p = some v := by rw [hb.cell (World.block_lt_of_cell? W p h), h]
theorem keep_frozen {W w1 : World} {p : Addr} {v : Value} (hb : Below W.heap.size W w1) (hc : W.cell? p = some v) (h : W.frozen? p = false) : w1.frozen? p = false := by rw [hb.frozen (World.block_lt_of_cell? W p hc), h]
set_option maxRecDepth 100000 in
set_option maxHeartbeats 2000000 in
theorem wideOrderWalk' (A B C : Nat) (hA : A < W128) (hB : B < W128) (hC : C < W128) (w : World) :
    Calls Try.prog 3 #[wv A, wv B, wv C] w fun e w' => e = .returned (.bool true) ∧ Below w.heap.size w w' := by
  have HA := Lib.hid hA
  have HB := Lib.hid hB
  have HC := Lib.hid hC
  clear hA hB hC
  go_enter Try.func3, Try.ntmps3
  go_wp2_with fail
  refine (plus_any A B HA.out HB.out _).mono ?_
  rintro e w1 ⟨rfl, hb1⟩
  obtain ⟨hc1, hf1⟩ := bcell hb1
  have hz1 : w.heap.size + 1 + 1 + 1 ≤ w1.heap.size := by have := hb1.size; simpa using this
  have i0 : w.heap.size < w1.heap.size := by omega
  have i1 : w.heap.size + 1 < w1.heap.size := by omega
  have i2 : w.heap.size + 1 + 1 < w1.heap.size := by omega
  go_wp2_with fail
  refine (plus_any B A HB.out HA.out _).mono ?_
  rintro e w2 ⟨rfl, hb2⟩
  rw [plusR_comm]
  obtain ⟨hc2, hf2⟩ := bcell hb2
  have hz2 : w1.heap.size + 1 ≤ w2.heap.size := by have := hb2.size; simpa using this
  have j0 : w.heap.size < w2.heap.size := by omega
  have j1 : w.heap.size + 1 < w2.heap.size := by omega
  have j2 : w.heap.size + 1 + 1 < w2.heap.size := by omega
  have j3 : w1.heap.size < w2.heap.size := by omega
  go_wp2_with fail
  have k1 : (w2.alloc (Obj.cells #[.int .u64 (hiW (plusR A B).1), .int .u64 (loW (plusR A B).1)] 24)).cell? ⟨w.heap.size, 0, none⟩ = some (.int .u64 (hiW A)) := by go_simp
  have k2 : (w2.alloc (Obj.cells #[.int .u64 (hiW (plusR A B).1), .int .u64 (loW (plusR A B).1)] 24)).cell? ⟨w.heap.size, 1, none⟩ = some (.int .u64 (loW A)) := by go_simp
  have k3 : (w2.alloc (Obj.cells #[.int .u64 (hiW (plusR A B).1), .int .u64 (loW (plusR A B).1)] 24)).cell? ⟨w.heap.size + 1, 0, none⟩ = some (.int .u64 (hiW B)) := by go_simp
  have k4 : (w2.alloc (Obj.cells #[.int .u64 (hiW (plusR A B).1), .int .u64 (loW (plusR A B).1)] 24)).cell? ⟨w.heap.size + 1, 1, none⟩ = some (.int .u64 (loW B)) := by go_simp
  have k5 : (w2.alloc (Obj.cells #[.int .u64 (hiW (plusR A B).1), .int .u64 (loW (plusR A B).1)] 24)).cell? ⟨w1.heap.size, 0, none⟩ = some (.int .u64 (hiW (plusR A B).1)) := by go_simp
  have k6 : (w2.alloc (Obj.cells #[.int .u64 (hiW (plusR A B).1), .int .u64 (loW (plusR A B).1)] 24)).cell? ⟨w1.heap.size, 1, none⟩ = some (.int .u64 (loW (plusR A B).1)) := by go_simp
  have k7 : (w2.alloc (Obj.cells #[.int .u64 (hiW (plusR A B).1), .int .u64 (loW (plusR A B).1)] 24)).cell? ⟨w2.heap.size, 0, none⟩ = some (.int .u64 (hiW (plusR A B).1)) := by go_simp
  have k8 : (w2.alloc (Obj.cells #[.int .u64 (hiW (plusR A B).1), .int .u64 (loW (plusR A B).1)] 24)).cell? ⟨w2.heap.size, 1, none⟩ = some (.int .u64 (loW (plusR A B).1)) := by go_simp
  have k9 : (w2.alloc (Obj.cells #[.int .u64 (hiW (plusR A B).1), .int .u64 (loW (plusR A B).1)] 24)).cell? ⟨w.heap.size + 1 + 1, 0, none⟩ = some (.int .u64 (hiW C)) := by go_simp
  have k10 : (w2.alloc (Obj.cells #[.int .u64 (hiW (plusR A B).1), .int .u64 (loW (plusR A B).1)] 24)).cell? ⟨w.heap.size + 1 + 1, 1, none⟩ = some (.int .u64 (loW C)) := by go_simp
  have f5 : (w2.alloc (Obj.cells #[.int .u64 (hiW (plusR A B).1), .int .u64 (loW (plusR A B).1)] 24)).frozen? ⟨w1.heap.size, 0, none⟩ = false := by go_simp
  have f6 : (w2.alloc (Obj.cells #[.int .u64 (hiW (plusR A B).1), .int .u64 (loW (plusR A B).1)] 24)).frozen? ⟨w1.heap.size, 1, none⟩ = false := by go_simp
  have kb : Below w.heap.size w (w2.alloc (Obj.cells #[.int .u64 (hiW (plusR A B).1), .int .u64 (loW (plusR A B).1)] 24)) := ((((((Below.refl _ _).alloc (Nat.le_refl _) _).alloc (by simp) _).alloc (by simp; omega) _).trans (hb1.mono (by simp; omega))).alloc (by omega) _).trans (hb2.mono (by simp; omega)) |>.alloc (by omega) _
  have kz : w2.heap.size < (w2.alloc (Obj.cells #[.int .u64 (hiW (plusR A B).1), .int .u64 (loW (plusR A B).1)] 24)).heap.size := by simp
  generalize (w2.alloc (Obj.cells #[.int .u64 (hiW (plusR A B).1), .int .u64 (loW (plusR A B).1)] 24)) = W3 at *
  clear hb1 hc1 hf1 hb2 hc2 hf2
  have hmc : hiW B * loW A = loW A * hiW B := Nat.mul_comm _ _
  have hcn : cmpR B A = - cmpR A B := cmpR_neg A B
  have hcb : -1 ≤ cmpR A B ∧ cmpR A B ≤ 1 := by unfold cmpR; by_cases h : A = B <;> by_cases h2 : A < B <;> simp [h, h2]
  have hcw : IntKind.i64.wrap (cmpR A B) = cmpR A B := by rw [IntKind.wrap_i64]; omega
  go_region_held3 (fun w' => w'.cell? ⟨w.heap.size, 0, none⟩ = some (.int .u64 (hiW A)) ∧
        w'.cell? ⟨w.heap.size, 1, none⟩ = some (.int .u64 (loW A)) ∧
        w'.cell? ⟨w.heap.size + 1, 0, none⟩ = some (.int .u64 (hiW B)) ∧
        w'.cell? ⟨w.heap.size + 1, 1, none⟩ = some (.int .u64 (loW B)) ∧
        w'.cell? ⟨w.heap.size + 1 + 1, 0, none⟩ = some (.int .u64 (hiW C)) ∧
        w'.cell? ⟨w.heap.size + 1 + 1, 1, none⟩ = some (.int .u64 (loW C)) ∧
        w'.cell? ⟨w1.heap.size, 0, none⟩ = some (.int .u64 (hiW (plusR A B).1)) ∧
        w'.cell? ⟨w1.heap.size, 1, none⟩ = some (.int .u64 (loW (plusR A B).1)) ∧
        w'.cell? ⟨w2.heap.size, 0, none⟩ = some (.int .u64 (hiW (plusR A B).1)) ∧
        w'.cell? ⟨w2.heap.size, 1, none⟩ = some (.int .u64 (loW (plusR A B).1)) ∧
        Below w.heap.size w w' ∧
        w2.heap.size < w'.heap.size ∧ w'.frozen? ⟨w1.heap.size, 0, none⟩ = false ∧ w'.frozen? ⟨w1.heap.size, 1, none⟩ = false)
      (first
        | exact ⟨k1, k2, k3, k4, k9, k10, k5, k6, k7, k8, kb.drew, kz, f5, f6⟩
        | (go_split_ands
           refine ⟨keep_cell (by assumption) (by assumption), keep_cell (by assumption) (by assumption), keep_cell (by assumption) (by assumption), keep_cell (by assumption) (by assumption), keep_cell (by assumption) (by assumption), keep_cell (by assumption) (by assumption), keep_cell (by assumption) (by assumption), keep_cell (by assumption) (by assumption), keep_cell (by assumption) (by assumption), keep_cell (by assumption) (by assumption), below_then (by assumption) (by assumption), Nat.lt_of_lt_of_le (by assumption) (Below.size (by assumption)), keep_frozen (by assumption) (by assumption) (by assumption), keep_frozen (by assumption) (by assumption) (by assumption)⟩))
      (first
        | (go_at_call 11; refine (mul_any _ _ (by first | exact loW_lt _ | exact hiW_lt HB.out) (by first | exact loW_lt _ | exact hiW_lt HB.out) _).mono ?_; rintro e w' ⟨rfl, hb⟩)
        | (go_at_call 12; refine (compare_any _ _ _).mono ?_; rintro e w' ⟨rfl, hb⟩))
  rename_i hh
  clear k1 k2 k3 k4 k5 k6 k7 k8 k9 k10 kb kz f5 f6 hcn hcb hcw hmc
  obtain ⟨k1, k2, k3, k4, k9, k10, k5, k6, k7, k8, kb, kz, f5, f6⟩ := hh
  have l0 : w.heap.size < w'.heap.size := by omega
  have l1 : w.heap.size + 1 < w'.heap.size := by omega
  have l2 : w.heap.size + 1 + 1 < w'.heap.size := by omega
  have l3 : w1.heap.size < w'.heap.size := by omega
  go_wp2_with fail
  refine (plus_any B C HB.out HC.out _).mono ?_
  rintro e w4 ⟨rfl, hb4⟩
  obtain ⟨hc4, hf4⟩ := bcell hb4
  have hz4 := hb4.size
  have m0 : w.heap.size < w4.heap.size := by omega
  have m1 : w.heap.size + 1 < w4.heap.size := by omega
  have m2 : w.heap.size + 1 + 1 < w4.heap.size := by omega
  have m3 : w1.heap.size < w4.heap.size := by omega
  have m4 : w2.heap.size < w4.heap.size := by omega
  by_cases h1 : A + B < W128
  · have p1 : plusR A B = (A + B, 0) := if_pos h1
    rw [p1] at k5 k6 k7 k8
    by_cases h2 : B + C < W128
    · have p2 : plusR B C = (B + C, 0) := if_pos h2
      rw [p1, p2]
      have H1 := Lib.hid h1
      have H2 := Lib.hid h2
      clear h1 h2 p1 p2
      go_wp2_with fail
      refine (plus_any (A + B) C H1.out HC.out _).mono ?_
      rintro e w5 ⟨rfl, hb5⟩
      obtain ⟨hc5, hf5⟩ := bcell hb5
      have hz5 : w4.heap.size + 1 ≤ w5.heap.size := by have := hb5.size; simpa using this
      have n1 : w1.heap.size < w5.heap.size := by omega
      have n4 : w4.heap.size < w5.heap.size := by omega
      go_wp2_with fail
      refine (plus_any A (B + C) HA.out H2.out _).mono ?_
      rintro e w6 ⟨rfl, hb6⟩
      rw [show plusR A (B + C) = plusR (A + B) C from by unfold plusR; rw [Nat.add_assoc]]
      obtain ⟨hc6, hf6⟩ := bcell hb6
      have hz6 : w5.heap.size ≤ w6.heap.size := by have := hb6.size; simpa using this
      have g1 : w5.cell? ⟨w1.heap.size, 0, none⟩ = some (.int .u64 (hiW (A + B))) := by go_simp
      have g2 : w5.cell? ⟨w1.heap.size, 1, none⟩ = some (.int .u64 (loW (A + B))) := by go_simp
      have q1 : w6.cell? ⟨w1.heap.size, 0, none⟩ = some (.int .u64 (hiW (plusR (A + B) C).1)) := by
        rw [hc6 _ _ (by simpa using n1), World.cell?_setCell_other _ _ _ _ (by simp), World.cell?_setCell_same _ _ _ g1]
      have q2 : w6.cell? ⟨w1.heap.size, 1, none⟩ = some (.int .u64 (loW (plusR (A + B) C).1)) := by
        rw [hc6 _ _ (by simpa using n1), World.cell?_setCell_same _ _ _ ((World.cell?_setCell_other _ _ _ _ (by simp)).trans g2)]
      have q3 : w6.cell? ⟨w4.heap.size, 0, none⟩ = some (.int .u64 (hiW (B + C))) := by go_simp
      have q4 : w6.cell? ⟨w4.heap.size, 1, none⟩ = some (.int .u64 (loW (B + C))) := by go_simp
      have q5 : w6.frozen? ⟨w4.heap.size, 0, none⟩ = false := by go_simp
      have q6 : w6.frozen? ⟨w4.heap.size, 1, none⟩ = false := by go_simp
      clear g1 g2 hc6 hf6
      go_wp2_with fail
      refine (works_any _).mono ?_
      rintro e w7 ⟨rfl, hb7⟩
      go_wp2_with fail
      go_ret
      refine ⟨rfl, ?_⟩
      have r5 := below_then ((below_then kb hb4).alloc (by omega) _) hb5
      have r6 : Below w.heap.size w w6 := ((r5.setCell (by simp; omega) _).setCell (by simp; omega) _).trans (hb6.mono (by simp; omega))
      exact ((r6.setCell (by simp; omega) _).setCell (by simp; omega) _).trans (hb7.mono (by simp; omega))
    · have p2 : plusR B C = (0, 9) := if_neg h2
      rw [p1, p2]
      clear h1 h2 p1 p2
      go_wp2_with fail
      refine (works_any _).mono ?_
      rintro e w5 ⟨rfl, hb5⟩
      go_wp2_with fail
      go_ret
      exact ⟨rfl, below_then ((below_then kb hb4).alloc (by omega) _) hb5⟩
  · have p1 : plusR A B = (0, 9) := if_neg h1
    rw [p1] at k5 k6 k7 k8
    rw [p1]
    clear h1 p1
    go_wp2_with fail
    refine (works_any _).mono ?_
    rintro e w5 ⟨rfl, hb5⟩
    go_wp2_with fail
    go_ret
    exact ⟨rfl, below_then ((below_then kb hb4).alloc (by omega) _) hb5⟩
theorem wideOrderWalk (a0 b0 : Int) (a1 b1 : Int) (a2 b2 : Int) (w : World) (w0 : (Lit.int .u64 a0).wf = true) (u0 : (Lit.int .u64 b0).wf = true) (w1 : (Lit.int .u64 a1).wf = true) (u1 : (Lit.int .u64 b1).wf = true) (w2 : (Lit.int .u64 a2).wf = true) (u2 : (Lit.int .u64 b2).wf = true) :
    Calls Try.prog 3 #[.agg #[.int .u64 a0, .int .u64 b0], .agg #[.int .u64 a1, .int .u64 b1], .agg #[.int .u64 a2, .int .u64 b2]] w fun e w' => e = .returned (.bool true) ∧ Below w.heap.size w w' := by
  obtain ⟨A, hA, eA⟩ := of_pair w0 u0
  obtain ⟨B, hB, eB⟩ := of_pair w1 u1
  obtain ⟨C, hC, eC⟩ := of_pair w2 u2
  rw [eA, eB, eC]
  exact wideOrderWalk' A B C hA hB hC w
end Go.Proofs.Ytnohghdkegfcaaa
