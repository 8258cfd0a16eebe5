/- The walk of the law WideProducts. -/
import Derived.Test.YtnohghdkegfcaaaRCmpW
namespace Go.Proofs.Ytnohghdkegfcaaa
open Go.RowKit

theorem frozen2 {w : World} {g : Nat} {u v : Value} {p : Addr} (h : w.frozen? p = false) : ((w.setCell ⟨g, 0, none⟩ u).setCell ⟨g, 1, none⟩ v).frozen? p = false := by simpa using h
theorem other2 {w : World} {g b n : Nat} {u v c : Value} (h : w.cell? ⟨b, n, none⟩ = some c) (hb : b ≠ g) : ((w.setCell ⟨g, 0, none⟩ u).setCell ⟨g, 1, none⟩ v).cell? ⟨b, n, none⟩ = some c := by
  rw [World.cell?_setCell_other _ _ _ _ (fun e => hb (by cases e; rfl)), World.cell?_setCell_other _ _ _ _ (fun e => hb (by cases e; rfl)), h]

set_option maxRecDepth 100000 in
set_option maxHeartbeats 4000000 in
theorem wideProducts_any (A B n : Nat) (hA : A < W128) (hB : B < W128) (hn : n < 18446744073709551616) (w : World) :
    Calls Try.prog 4 #[wv A, wv B, .int .u64 n] w fun e w' => e = .returned (.bool true) ∧ Below w.heap.size w w' := by
  have HA := Lib.hid hA
  have HB := Lib.hid hB
  have HN := Lib.hid hn
  clear hA hB hn
  go_enter Try.func4, Try.ntmps4
  go_wp2_with fail
  refine (plus_any A B HA.out HB.out _).mono ?_
  rintro e w1 ⟨rfl, hb1⟩
  obtain ⟨hc1, hf1⟩ := bcell hb1
  have hz1 : w.heap.size + 1 + 1 ≤ w1.heap.size := by have := hb1.size; simpa using this
  have i0 : w.heap.size < w1.heap.size := by omega
  have i1 : w.heap.size + 1 < w1.heap.size := by omega
  have s1 : Below w.heap.size w w1 := below_then (laid2b_below w A B) hb1
  go_wp2_with fail
  refine (rplus_any A B HA.out HB.out _).mono ?_
  rintro e w2 ⟨rfl, hb2⟩
  obtain ⟨hc2, hf2⟩ := bcell hb2
  have hz2 : w1.heap.size + 1 ≤ w2.heap.size := by have := hb2.size; simpa using this
  have j0 : w.heap.size < w2.heap.size := by omega
  have j1 : w.heap.size + 1 < w2.heap.size := by omega
  have j2 : w1.heap.size < w2.heap.size := by omega
  have s2 : Below w.heap.size w w2 := below_then (s1.alloc s1.size _) hb2
  clear hb1 hb2
  go_wp2_with fail
  have k1 : (w2.alloc (Obj.cells #[.int .u64 (hiW (plusR A B).1), .int .u64 (loW (plusR A B).1)] 24)).cell? ⟨w.heap.size, 0, none⟩ = some (.int .u64 (hiW A)) := by go_simp
  have k2 : (w2.alloc (Obj.cells #[.int .u64 (hiW (plusR A B).1), .int .u64 (loW (plusR A B).1)] 24)).cell? ⟨w.heap.size, 1, none⟩ = some (.int .u64 (loW A)) := by go_simp
  have k3 : (w2.alloc (Obj.cells #[.int .u64 (hiW (plusR A B).1), .int .u64 (loW (plusR A B).1)] 24)).cell? ⟨w.heap.size + 1, 0, none⟩ = some (.int .u64 (hiW B)) := by go_simp
  have k4 : (w2.alloc (Obj.cells #[.int .u64 (hiW (plusR A B).1), .int .u64 (loW (plusR A B).1)] 24)).cell? ⟨w.heap.size + 1, 1, none⟩ = some (.int .u64 (loW B)) := by go_simp
  have k5 : (w2.alloc (Obj.cells #[.int .u64 (hiW (plusR A B).1), .int .u64 (loW (plusR A B).1)] 24)).cell? ⟨w1.heap.size, 0, none⟩ = some (.int .u64 (hiW (plusR A B).1)) := by go_simp
  have k6 : (w2.alloc (Obj.cells #[.int .u64 (hiW (plusR A B).1), .int .u64 (loW (plusR A B).1)] 24)).cell? ⟨w1.heap.size, 1, none⟩ = some (.int .u64 (loW (plusR A B).1)) := by go_simp
  have k7 : (w2.alloc (Obj.cells #[.int .u64 (hiW (plusR A B).1), .int .u64 (loW (plusR A B).1)] 24)).cell? ⟨w2.heap.size, 0, none⟩ = some (.int .u64 (hiW (plusR A B).1)) := by go_simp
  have k8 : (w2.alloc (Obj.cells #[.int .u64 (hiW (plusR A B).1), .int .u64 (loW (plusR A B).1)] 24)).cell? ⟨w2.heap.size, 1, none⟩ = some (.int .u64 (loW (plusR A B).1)) := by go_simp
  have f5 : (w2.alloc (Obj.cells #[.int .u64 (hiW (plusR A B).1), .int .u64 (loW (plusR A B).1)] 24)).frozen? ⟨w1.heap.size, 0, none⟩ = false := by go_simp
  have f6 : (w2.alloc (Obj.cells #[.int .u64 (hiW (plusR A B).1), .int .u64 (loW (plusR A B).1)] 24)).frozen? ⟨w1.heap.size, 1, none⟩ = false := by go_simp
  have f7 : (w2.alloc (Obj.cells #[.int .u64 (hiW (plusR A B).1), .int .u64 (loW (plusR A B).1)] 24)).frozen? ⟨w2.heap.size, 0, none⟩ = false := by go_simp
  have f8 : (w2.alloc (Obj.cells #[.int .u64 (hiW (plusR A B).1), .int .u64 (loW (plusR A B).1)] 24)).frozen? ⟨w2.heap.size, 1, none⟩ = false := by go_simp
  have kb : Below w.heap.size w (w2.alloc (Obj.cells #[.int .u64 (hiW (plusR A B).1), .int .u64 (loW (plusR A B).1)] 24)) := s2.alloc s2.size _
  have kz : w2.heap.size < (w2.alloc (Obj.cells #[.int .u64 (hiW (plusR A B).1), .int .u64 (loW (plusR A B).1)] 24)).heap.size := by simp
  clear s1 s2 hc1 hc2 hf1 hf2
  generalize (w2.alloc (Obj.cells #[.int .u64 (hiW (plusR A B).1), .int .u64 (loW (plusR A B).1)] 24)) = W2 at *
  refine (times_any A n HA.out HN.out _).mono ?_
  rintro e w3 ⟨rfl, hb3⟩
  have l1 := keep_cell hb3 k1
  have l2 := keep_cell hb3 k2
  have l3 := keep_cell hb3 k3
  have l4 := keep_cell hb3 k4
  have l5 := keep_cell hb3 k5
  have l6 := keep_cell hb3 k6
  have l7 := keep_cell hb3 k7
  have l8 := keep_cell hb3 k8
  have g5 := keep_frozen hb3 k5 f5
  have g6 := keep_frozen hb3 k6 f6
  have g7 := keep_frozen hb3 k7 f7
  have g8 := keep_frozen hb3 k8 f8
  have lb := below_then kb hb3
  have lz := Nat.lt_of_lt_of_le kz hb3.size
  clear k1 k2 k3 k4 k5 k6 k7 k8 f5 f6 f7 f8 kb kz hb3
  have n01 : w.heap.size ≠ w1.heap.size := by omega
  have n11 : w.heap.size + 1 ≠ w1.heap.size := by omega
  have n21 : w2.heap.size ≠ w1.heap.size := by omega
  go_wp2_with fail
  have p1 := other2 (u := .int .u64 (hiW (timesR A n).1)) (v := .int .u64 (loW (timesR A n).1)) l1 n01
  have p2 := other2 (u := .int .u64 (hiW (timesR A n).1)) (v := .int .u64 (loW (timesR A n).1)) l2 n01
  have p3 := other2 (u := .int .u64 (hiW (timesR A n).1)) (v := .int .u64 (loW (timesR A n).1)) l3 n11
  have p4 := other2 (u := .int .u64 (hiW (timesR A n).1)) (v := .int .u64 (loW (timesR A n).1)) l4 n11
  have p7 := other2 (u := .int .u64 (hiW (timesR A n).1)) (v := .int .u64 (loW (timesR A n).1)) l7 n21
  have p8 := other2 (u := .int .u64 (hiW (timesR A n).1)) (v := .int .u64 (loW (timesR A n).1)) l8 n21
  obtain ⟨p5, p6⟩ := set2 (u := .int .u64 (hiW (timesR A n).1)) (v := .int .u64 (loW (timesR A n).1)) l5 l6
  replace g7 := frozen2 (g := w1.heap.size) (u := .int .u64 (hiW (timesR A n).1)) (v := .int .u64 (loW (timesR A n).1)) g7
  replace g8 := frozen2 (g := w1.heap.size) (u := .int .u64 (hiW (timesR A n).1)) (v := .int .u64 (loW (timesR A n).1)) g8
  replace lb : Below w.heap.size w ((w3.setCell ⟨w1.heap.size, 0, none⟩ (.int .u64 (hiW (timesR A n).1))).setCell ⟨w1.heap.size, 1, none⟩ (.int .u64 (loW (timesR A n).1))) := (lb.setCell (by simp; omega) _).setCell (by simp; omega) _
  replace lz : w2.heap.size < ((w3.setCell ⟨w1.heap.size, 0, none⟩ (.int .u64 (hiW (timesR A n).1))).setCell ⟨w1.heap.size, 1, none⟩ (.int .u64 (loW (timesR A n).1))).heap.size := by simpa using lz
  clear l1 l2 l3 l4 l5 l6 l7 l8 g5 g6
  generalize ((w3.setCell ⟨w1.heap.size, 0, none⟩ (.int .u64 (hiW (timesR A n).1))).setCell ⟨w1.heap.size, 1, none⟩ (.int .u64 (loW (timesR A n).1))) = W3 at *
  refine (rtimes_any A n HA.out HN.out _).mono ?_
  rintro e w4 ⟨rfl, hb4⟩
  have l1 := keep_cell hb4 p1
  have l2 := keep_cell hb4 p2
  have l3 := keep_cell hb4 p3
  have l4 := keep_cell hb4 p4
  have l5 := keep_cell hb4 p5
  have l6 := keep_cell hb4 p6
  have l7 := keep_cell hb4 p7
  have l8 := keep_cell hb4 p8
  have h7 := keep_frozen hb4 p7 g7
  have h8 := keep_frozen hb4 p8 g8
  replace lb := below_then lb hb4
  clear p1 p2 p3 p4 p5 p6 p7 p8 g7 g8 hb4
  have n02 : w.heap.size ≠ w2.heap.size := by omega
  have n12 : w.heap.size + 1 ≠ w2.heap.size := by omega
  have n22 : w1.heap.size ≠ w2.heap.size := by omega
  go_wp2_with fail
  have p1 := other2 (u := .int .u64 (hiW (timesR A n).1)) (v := .int .u64 (loW (timesR A n).1)) l1 n02
  have p2 := other2 (u := .int .u64 (hiW (timesR A n).1)) (v := .int .u64 (loW (timesR A n).1)) l2 n02
  have p3 := other2 (u := .int .u64 (hiW (timesR A n).1)) (v := .int .u64 (loW (timesR A n).1)) l3 n12
  have p4 := other2 (u := .int .u64 (hiW (timesR A n).1)) (v := .int .u64 (loW (timesR A n).1)) l4 n12
  have p5 := other2 (u := .int .u64 (hiW (timesR A n).1)) (v := .int .u64 (loW (timesR A n).1)) l5 n22
  have p6 := other2 (u := .int .u64 (hiW (timesR A n).1)) (v := .int .u64 (loW (timesR A n).1)) l6 n22
  obtain ⟨p7, p8⟩ := set2 (u := .int .u64 (hiW (timesR A n).1)) (v := .int .u64 (loW (timesR A n).1)) l7 l8
  replace lb : Below w.heap.size w ((w4.setCell ⟨w2.heap.size, 0, none⟩ (.int .u64 (hiW (timesR A n).1))).setCell ⟨w2.heap.size, 1, none⟩ (.int .u64 (loW (timesR A n).1))) := (lb.setCell (by simp; omega) _).setCell (by simp; omega) _
  clear l1 l2 l3 l4 l5 l6 l7 l8 h7 h8
  generalize ((w4.setCell ⟨w2.heap.size, 0, none⟩ (.int .u64 (hiW (timesR A n).1))).setCell ⟨w2.heap.size, 1, none⟩ (.int .u64 (loW (timesR A n).1))) = W4 at *
  go_region_held3 (fun w' => w'.cell? ⟨w.heap.size, 0, none⟩ = some (.int .u64 (hiW A)) ∧ w'.cell? ⟨w.heap.size, 1, none⟩ = some (.int .u64 (loW A)) ∧ w'.cell? ⟨w.heap.size + 1, 0, none⟩ = some (.int .u64 (hiW B)) ∧ w'.cell? ⟨w.heap.size + 1, 1, none⟩ = some (.int .u64 (loW B)) ∧ w'.cell? ⟨w1.heap.size, 0, none⟩ = some (.int .u64 (hiW (timesR A n).1)) ∧ w'.cell? ⟨w1.heap.size, 1, none⟩ = some (.int .u64 (loW (timesR A n).1)) ∧ w'.cell? ⟨w2.heap.size, 0, none⟩ = some (.int .u64 (hiW (timesR A n).1)) ∧ w'.cell? ⟨w2.heap.size, 1, none⟩ = some (.int .u64 (loW (timesR A n).1)) ∧ Below w.heap.size w w')
      (first
        | exact ⟨p1, p2, p3, p4, p5, p6, p7, p8, lb.drew⟩
        | exact ⟨p1, p2, p3, p4, p5, p6, p7, p8, lb⟩
        | (go_split_ands
           refine ⟨keep_cell (by assumption) (by assumption), keep_cell (by assumption) (by assumption), keep_cell (by assumption) (by assumption), keep_cell (by assumption) (by assumption), keep_cell (by assumption) (by assumption), keep_cell (by assumption) (by assumption), keep_cell (by assumption) (by assumption), keep_cell (by assumption) (by assumption), below_then (by assumption) (by assumption)⟩))
      (first
        | (go_at_call 11; refine (mul_any _ _ (loW_lt _) HN.out _).mono ?_; rintro e w' ⟨rfl, hb⟩)
        | (go_at_call 17; refine (rmul_any _ _ (loW_lt _) HN.out _).mono ?_; rintro e w' ⟨rfl, hb⟩)
        | (go_at_call 12; refine (compare_any A B _).mono ?_; rintro e w' ⟨rfl, hb⟩)
        | (go_at_call 18; refine (rcompare_any A B HA.out HB.out _).mono ?_; rintro e w' ⟨rfl, hb⟩)
        | (go_at_call 13; refine (works_any _).mono ?_; rintro e w' ⟨rfl, hb⟩))
  rename_i hh
  clear p1 p2 p3 p4 p5 p6 p7 p8 lb
  have kb := hh.2.2.2.2.2.2.2.2
  clear hh
  go_wp2_with fail
  go_ret
  exact ⟨rfl, kb⟩
theorem wideProductsWalk (a0 b0 : Int) (a1 b1 : Int) (a2 : Int) (w : World) (w0 : (Lit.int .u64 a0).wf = true) (u0 : (Lit.int .u64 b0).wf = true) (w1 : (Lit.int .u64 a1).wf = true) (u1 : (Lit.int .u64 b1).wf = true) (w2 : (Lit.int .u64 a2).wf = true) :
    Calls Try.prog 4 #[.agg #[.int .u64 a0, .int .u64 b0], .agg #[.int .u64 a1, .int .u64 b1], .int .u64 a2] w fun e w' => e = .returned (.bool true) ∧ Below w.heap.size w w' := by
  obtain ⟨A, hA, eA⟩ := of_pair w0 u0
  obtain ⟨B, hB, eB⟩ := of_pair w1 u1
  obtain ⟨n, rfl, hn⟩ := of_wf_u64 w2
  rw [eA, eB]
  exact wideProducts_any A B n hA hB hn w
end Go.Proofs.Ytnohghdkegfcaaa
