/- The walks of the reference's Times and Mul. -/
import Derived.Test.YtnohghdkegfcaaaByW
import Derived.Test.YtnohghdkegfcaaaTimes
namespace Go.Proofs.Ytnohghdkegfcaaa
open Go.RowKit

/-- the digits of a product by one half of a word -/
def byR (A n : Nat) : Nat → Nat := cR (fun i => dig A i * n) 4
/-- the digits of the whole product, not yet carried on -/
def dD (A b i : Nat) : Nat := if i = 0 then byR A (b % 4294967296) 0 else if i < 5 then byR A (b % 4294967296) i + byR A (b / 4294967296) (i - 1) else byR A (b / 4294967296) 4
theorem byR_lt {A n : Nat} (hn : n < 4294967296) (i : Nat) : byR A n i < 4294967296 := cR_mul_lt (dig_lt A) hn 4 i
theorem byR_val {A n : Nat} (hA : A < W128) : valF (byR A n) 5 = A * n := by unfold byR; rw [cR_val, valF_mul, dig_val4 hA]
theorem dD_lt {A b : Nat} (hb : b < 18446744073709551616) (i : Nat) : dD A b i < 1099511627776 := by
  have h1 := byR_lt (A := A) (n := b % 4294967296) (by omega)
  have h2 := byR_lt (A := A) (n := b / 4294967296) (by omega)
  unfold dD
  split
  · have := h1 0; omega
  · split
    · have := h1 i; have := h2 (i - 1); omega
    · have := h2 4; omega
theorem dD_val {A b : Nat} (hA : A < W128) : valF (dD A b) 6 = A * b := by
  have h1 := byR_val (n := b % 4294967296) hA
  have h2 := byR_val (n := b / 4294967296) hA
  have e : A * b = A * (b % 4294967296) + A * (b / 4294967296) * 4294967296 := by
    rw [Nat.mul_assoc, ← Nat.mul_add]; congr 1; omega
  rw [e, ← h1, ← h2]
  have k0 : dD A b 0 = byR A (b % 4294967296) 0 := rfl
  have k1 : dD A b 1 = byR A (b % 4294967296) 1 + byR A (b / 4294967296) 0 := rfl
  have k2 : dD A b 2 = byR A (b % 4294967296) 2 + byR A (b / 4294967296) 1 := rfl
  have k3 : dD A b 3 = byR A (b % 4294967296) 3 + byR A (b / 4294967296) 2 := rfl
  have k4 : dD A b 4 = byR A (b % 4294967296) 4 + byR A (b / 4294967296) 3 := rfl
  have k5 : dD A b 5 = byR A (b / 4294967296) 4 := rfl
  simp only [valF]
  rw [k0, k1, k2, k3, k4, k5]
  generalize byR A (b % 4294967296) 0 = l0
  generalize byR A (b % 4294967296) 1 = l1
  generalize byR A (b % 4294967296) 2 = l2
  generalize byR A (b % 4294967296) 3 = l3
  generalize byR A (b % 4294967296) 4 = l4
  generalize byR A (b / 4294967296) 0 = m0
  generalize byR A (b / 4294967296) 1 = m1
  generalize byR A (b / 4294967296) 2 = m2
  generalize byR A (b / 4294967296) 3 = m3
  generalize byR A (b / 4294967296) 4 = m4
  omega
theorem times_ref {A b : Nat} (hA : A < W128) : wideR (cR (dD A b) 6) 7 = (if A * b < W128 then (A * b, true) else (0, false)) := by
  unfold wideR; rw [cR_val, dD_val hA]

set_option maxRecDepth 100000 in
set_option maxHeartbeats 4000000 in
theorem rtimes_any (A b : Nat) (hA : A < W128) (hb : b < 18446744073709551616) (w : World) :
    Calls Try.prog 16 #[wv A, .int .u64 b] w fun e w' => e = .returned (.tuple #[wv (timesR A b).1, .int .i64 (timesR A b).2]) ∧ Below w.heap.size w w' := by
  have HA := Lib.hid hA
  have HB := Lib.hid hb
  have HD := Lib.hid (dD_lt (A := A) hb)
  have hr := Lib.hid (times_ref (b := b) hA)
  have hdd : Hid (∀ i, dD A b i = if i = 0 then byR A (b % 4294967296) 0 else if i < 5 then byR A (b % 4294967296) i + byR A (b / 4294967296) (i - 1) else byR A (b / 4294967296) 4) := fun _ => rfl
  have e1 : ((b : Int).tmod 4294967296) = ((b % 4294967296 : Nat) : Int) := by rw [Int.tmod_eq_emod_of_nonneg (by omega)]; omega
  have e1' : ((b : Int) % 4294967296) = ((b % 4294967296 : Nat) : Int) := by omega
  have e2 : ((b : Int).tdiv 4294967296) = ((b / 4294967296 : Nat) : Int) := by rw [Int.tdiv_eq_ediv_of_nonneg (by omega)]; omega
  have e2' : ((b : Int) / 4294967296) = ((b / 4294967296 : Nat) : Int) := by omega
  have e3 : IntKind.u64.wrap ((b / 4294967296 : Nat) : Int) = ((b / 4294967296 : Nat) : Int) := wrap_u64_of ((b / 4294967296 : Nat) : Int) (by omega) (by omega)
  have hl : Hid (b % 4294967296 < 4294967296) := by show _ < _; omega
  have hh : Hid (b / 4294967296 < 4294967296) := by show _ < _; omega
  clear hA hb
  generalize b % 4294967296 = bl at *
  generalize b / 4294967296 = bh at *
  generalize hDf : dD A b = D at *
  clear hDf
  have hlo := Lib.hid (byR_lt (A := A) hl.out)
  have hhi := Lib.hid (byR_lt (A := A) hh.out)
  obtain ⟨i0, hi, hz0, hz1, hz2⟩ := info_parts info22
  go_enter Try.func16, Try.ntmps16
  go_wp2_with fail
  refine (of_any A HA.out _).mono ?_
  rintro e w1 ⟨rfl, hat1, hl1, hb1⟩
  go_wp2_with fail
  simp only [World.size_alloc] at hat1 hl1
  refine (by_any _ _ _ (dig A) (dig_lt A) hl.out _ hat1 (by simpa using hl1)).mono ?_
  rintro e w2 ⟨g1, c1, rfl, hat2, hg1, hl2, hb2⟩
  have s2 : Below (laid2 w A).heap.size (laid2 w A) w2 := below_then hb1 hb2
  obtain ⟨b1, b2⟩ := box_cells s2
  clear hat1 hl1 hb1 hb2
  go_wp2_with fail
  refine (of_any A HA.out _).mono ?_
  rintro e w3 ⟨rfl, hat3, hl3, hb3⟩
  go_wp2_with fail
  refine (by_any _ _ _ (dig A) (dig_lt A) hh.out _ hat3 hl3).mono ?_
  rintro e w4 ⟨g2, c2, rfl, hat4, hg2, hl4, hb4⟩
  have s4 : Below (laid2 w A).heap.size (laid2 w A) w4 := below_then (below_then s2 hb3) hb4
  have hatl : At w4 g1 5 (byR A bl) := at_below hat2 (below_then hb3 hb4) hl2
  have hgl : g1 < w4.heap.size := Nat.lt_of_lt_of_le hl2 (below_then hb3 hb4).size
  have hath : At w4 g2 5 (byR A bh) := hat4
  clear hat2 hat3 hat4 b1 b2 hb3 hb4 hl3 hl2 s2 hg1 hg2
  clear e1 e1' e2 e2' e3
  have hD0 : D 0 = byR A bl 0 := hdd.out 0
  have hl0 : w4.cell? ⟨g1, 0, none⟩ = some (.int .u64 (D 0)) := by rw [hD0]; exact hatl 0 (by omega)
  clear hD0
  go_wp2_with fail
  go_loopw [8, 9] (fun v i wr => ∃ j : Nat, j ≤ 4 ∧ i = .int .i64 ((j + 1 : Nat) : Int) ∧ wr.ownsRow w4.heap.size 22 1 v (j + 1) (cellsF D (j + 1)) ∧ Below w4.heap.size w4 wr)
    (fun _ i _ => 5 - (intOf i).toNat)
  case atStart => exact ⟨0, by omega, rfl, World.ownsRow_lit (size := 1) w4 #[.int .u64 (D 0)] 1 (Nat.le_refl _) (by unfold maxLen; omega) rfl, (Below.refl _ _).alloc (Nat.le_refl _) _⟩
  case round =>
    obtain ⟨j, hj, rfl, hown, hbw⟩ := hrel
    have hsz := hbw.size
    clear hl0
    by_cases hkl : j < 4
    · have hDj : D (j + 1) = byR A bl (j + 1) + byR A bh j := by rw [hdd.out, if_neg (by omega), if_pos (by omega)]; rfl
      have hcx : wr.cell? ⟨g1, j + 1, none⟩ = some (.int .u64 (byR A bl (j + 1))) := (hbw.cell (p := ⟨g1, j + 1, none⟩) hgl).trans (hatl (j + 1) (by omega))
      have hcy : wr.cell? ⟨g2, j, none⟩ = some (.int .u64 (byR A bh j)) := (hbw.cell (p := ⟨g2, j, none⟩) hl4).trans (hath j (by omega))
      have e1 : IntKind.u64.wrap ((byR A bl (j + 1) : Int) + (byR A bh j : Int)) = (D (j + 1) : Int) := by
        have := hlo.out (j + 1); have := hhi.out j
        rw [wrap_u64_of ((byR A bl (j + 1) : Int) + (byR A bh j : Int)) (by omega) (by omega), hDj]; omega
      have HDj := Lib.hid hDj
      clear hDj
      have k0 : (0 : Int) ≤ (j : Int) := by omega
      have k1 : (0 : Int) ≤ (j : Int) + 1 := by omega
      have k2 : (j : Int) + 1 < 5 := by omega
      have k3 : (j : Int) < 5 := by omega
      have ew : IntKind.i64.wrap ((j : Int) + 1 - 1) = (j : Int) := by rw [IntKind.wrap_i64]; omega
      have ew2 : IntKind.i64.wrap (j : Int) = (j : Int) := by rw [IntKind.wrap_i64]; omega
      have hkeep : ∀ w', Below w4.heap.size w4 w' → w'.cell? ⟨g1, j + 1, none⟩ = some (.int .u64 (byR A bl (j + 1))) ∧ w'.cell? ⟨g2, j, none⟩ = some (.int .u64 (byR A bh j)) ∧ Below w4.heap.size w4 w' :=
        fun w' hb => ⟨(hb.cell (p := ⟨g1, j + 1, none⟩) hgl).trans (hatl (j + 1) (by omega)), (hb.cell (p := ⟨g2, j, none⟩) hl4).trans (hath j (by omega)), hb⟩
      have HK := Lib.hid hkeep
      clear hkeep
      go_wp2_with fail
      go_region_held3 (fun w' => w'.cell? ⟨g1, j + 1, none⟩ = some (.int .u64 (byR A bl (j + 1))) ∧ w'.cell? ⟨g2, j, none⟩ = some (.int .u64 (byR A bh j)) ∧ Below w4.heap.size w4 w')
        (first | exact HK.out _ (by assumption) | exact HK.out _ hbw.drew | exact HK.out _ (hbw.drew.alloc (by simpa using hsz) _) | exact HK.out _ (hbw.alloc hsz _))
        ((refine step_append_lies _ (by rfl) _ _ _ (by rfl) w4.heap.size 22 i0 (.int .u64 0) 1 8 Try.underlying49 hi hz0 hz1 hz2 (by rfl) (by omega) _ _ _ (by rfl) (by first | exact hown.drew.alloc _ | exact hown.alloc _) _ 1 1 [.int .u64 (D (j + 1))] (by rfl) (by rfl) (World.news_of_block (heap_alloc_new _ _)) (by intro u hu; simp at hu; subst hu; rfl) (by omega) (by unfold maxLen; omega) (by omega) (by simp; omega) _ rfl ?_; intro g' cap' w5 hown' hgrow hat hlt; have hb2 : Below w4.heap.size w4 w5 := (by first | exact (hbw.drew.alloc (by simpa using hsz) _).grown hgrow (by simp; omega) (own_base hown) | exact (hbw.alloc hsz _).grown hgrow (by simp; omega) (own_base hown))))
      rw [cellsF_succ D] at hown'
      clear hgrow hat
      go_wp2_with fail
      go_roundw
      case rel => exact ⟨j + 1, by omega, by go_num, hown', hb2⟩
      case measure => simp [intOf]; omega
    · obtain rfl : j = 4 := by omega
      have hD5 : D 5 = byR A bh 4 := hdd.out 5
      have hcy : wr.cell? ⟨g2, 4, none⟩ = some (.int .u64 (D 5)) := by rw [hD5]; exact (hbw.cell (p := ⟨g2, 4, none⟩) hl4).trans (hath 4 (by omega))
      clear hD5
      go_wp2_with (first
        | (at_builtin; refine wpList_append_lies _ rfl _ _ 49 rfl w4.heap.size 22 i0 (.int .u64 0) 1 8 Try.underlying49 hi hz0 hz1 hz2 rfl (by decide) _ _ _ rfl (hown.alloc _) ⟨wr.heap.size, 0, none⟩ 1 1 [.int .u64 (D 5)] rfl rfl ?d1 ?d2 (by omega) ?d3 ?d4 ?d5 _ rfl ?_))
      case d1 =>
        intro j u hj
        match j, hj with
        | 0, hj => simp at hj; subst hj; simp [Addr.add]
      case d2 => intro u hu; simp at hu; subst hu; rfl
      case d3 => unfold maxLen; omega
      case d4 => omega
      case d5 => simp; omega
      · intro gd cd w5 hown' hgrow hat hld
        have hb5 : Below w4.heap.size w4 w5 := (hbw.alloc hsz _).grown hgrow (by simp; omega) (own_base hown)
        replace hown' : w5.ownsRow w4.heap.size 22 1 (.slice (some ⟨gd, 0, none⟩) 6 cd) 6 (cellsF D 6) := by rw [← cellsF_succ D]; exact hown'
        have hatd := at_owned hown'
        clear hgrow hat hown hbw hcy
        go_wp2_with fail
        refine (carry_any gd 6 cd D (by omega) HD.out _ hatd hld).mono ?_
        rintro e w6 ⟨gc, cc, rfl, hatc, hBc, hlc, hb6⟩
        go_wp2_with fail
        refine (wide_any gc 7 cc _ (by omega) (by omega) (fun i => cR_lt HD.out 6 i) _ hatc hlc).mono ?_
        rintro e w7 ⟨rfl, hb7⟩
        have s7 : Below (laid2 w A).heap.size (laid2 w A) w7 := below_then (below_then (below_then s4 hb5) hb6) hb7
        obtain ⟨r1, r2, r3, r4, r5⟩ := res_cells s7
        have kb : Below w.heap.size w w7 := (((Below.refl _ _).alloc (Nat.le_refl _) _).alloc (by simp) _).trans (s7.mono (by simp; omega))
        clear s4 s7 hb7 hb6 hb5
        by_cases h : A * b < W128
        · have hv : Hid (timesR A b = (A * b, 0)) := if_pos h
          have hq := hr.out
          rw [if_pos h] at hq
          rw [hq]
          clear hq h
          go_wp2_with fail
          obtain ⟨q1, q2⟩ := set2a (u := .int .u64 (hiW (A * b))) (v := .int .u64 (loW (A * b))) r1 r2 r5 (.cells #[.int .u64 (hiW (A * b)), .int .u64 (loW (A * b))] 24)
          refine bodyPost_ret (v := .tuple #[wv (A * b), .int .i64 0]) ?_ rfl ⟨by rw [hv.out]; rfl, ((kb.setCell (by simp) _).setCell (by simp) _).alloc (by have := kb.size; simp; omega) _⟩
          simp [results, Try.results16, go_sem, q1, q2]
        · have hv : Hid (timesR A b = (0, 9)) := if_neg h
          have hq := hr.out
          rw [if_neg h] at hq
          rw [hq]
          clear hq h
          go_wp2_with fail
          obtain ⟨q1, q2⟩ := set2a (u := .int .u64 0) (v := .int .u64 0) r1 r2 r5 (.cells #[.int .u64 0, .int .u64 0] 24)
          refine bodyPost_ret (v := .tuple #[wv 0, .int .i64 9]) ?_ rfl ⟨by rw [hv.out]; rfl, ((kb.setCell (by simp) _).setCell (by simp) _).alloc (by have := kb.size; simp; omega) _⟩
          have e1 : hiW 0 = 0 := rfl
          have e2 : loW 0 = 0 := rfl
          simp [results, Try.results16, go_sem, q1, q2, e1, e2]
end Go.Proofs.Ytnohghdkegfcaaa
