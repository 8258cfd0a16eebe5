/- The walks of the library's LeadingZeros64 and Div64 over this dump: the long division by a word. -/
import Derived.Test.YtnohghdkegfcaaaLen
import Derived.Test.YtnohghdkegfcaaaTimes
import Derived.Test.YtnohghdkegfcaaaDivP
import Derived.BigQuiet
import Derived.WalkSmall
import Derived.Deep.DeepCutAuto
import Derived.Deep.CutBlock
import Derived.Deep.QuietTactic
namespace Go.Proofs.Ytnohghdkegfcaaa
open Go.RowKit

theorem bitLen_zero : Lib.bitLen 0 = 0 := rfl
theorem bitLen_spec (x : Nat) : x < 2 ^ 64 → x ≠ 0 → x < 2 ^ Lib.bitLen x ∧ 1 ≤ Lib.bitLen x ∧ 2 ^ (Lib.bitLen x - 1) ≤ x := by
  induction x using Nat.strongRecOn with
  | ind x ih =>
    intro h h0
    rw [Lib.bitLen_half x h0 h]
    by_cases h1 : x / 2 = 0
    · rw [h1, bitLen_zero]
      have : x = 1 := by omega
      subst this; decide
    · obtain ⟨i1, i2, i3⟩ := ih (x / 2) (by omega) (by omega) h1
      generalize Lib.bitLen (x / 2) = L at *
      refine ⟨?_, by omega, ?_⟩
      · rw [Nat.add_comm, Nat.pow_succ]; omega
      · obtain ⟨M, rfl⟩ : ∃ M, L = M + 1 := ⟨L - 1, by omega⟩
        rw [show 1 + (M + 1) - 1 = M + 1 from by omega, Nat.pow_succ]
        rw [Nat.add_sub_cancel] at i3
        omega
/-- how far a word must be shifted for its highest bit -/
def lz (y : Nat) : Nat := 64 - Lib.bitLen y
theorem lz_spec {y : Nat} (h : y < 18446744073709551616) (h0 : y ≠ 0) : lz y ≤ 63 ∧ 9223372036854775808 ≤ y * 2 ^ lz y ∧ y * 2 ^ lz y < 18446744073709551616 := by
  have e : (18446744073709551616 : Nat) = 2 ^ 64 := by decide
  have e' : (9223372036854775808 : Nat) = 2 ^ 63 := by decide
  rw [e] at h
  obtain ⟨h1, h2, h3⟩ := bitLen_spec y h h0
  have h4 : Lib.bitLen y ≤ 64 := Lib.bitLenAux_le 64 y 64 h
  unfold lz
  generalize Lib.bitLen y = L at *
  refine ⟨by omega, ?_, ?_⟩
  · rw [e', show 63 = (L - 1) + (64 - L) from by omega, Nat.pow_add]
    exact Nat.mul_le_mul_right _ h3
  · rw [e]
    have : (2 : Nat) ^ 64 = 2 ^ L * 2 ^ (64 - L) := by rw [← Nat.pow_add]; congr 1; omega
    rw [this]
    exact Nat.mul_lt_mul_of_pos_right h1 (Nat.two_pow_pos _)

set_option maxRecDepth 100000 in
set_option maxHeartbeats 400000 in
theorem lz_any (y : Nat) (h : y < 18446744073709551616) (w : World) :
    Calls Try.prog 35 #[.int .u64 y] w fun e w' => e = .returned (.int .i64 (lz y)) ∧ w = w' := by
  have h4 : Lib.bitLen y ≤ 64 := Lib.bitLenAux_le 64 y 64 h
  have HY := Lib.hid h
  clear h
  go_enter Try.func35, Try.ntmps35
  go_wp2_with fail
  refine (len64_any y _ (by omega) (by have := HY.out; omega)).mono ?_
  rintro e w1 ⟨rfl, rfl⟩
  rw [Int.toNat_natCast]
  go_wp2_with fail
  go_ret
  refine ⟨congrArg Ending.returned (congrArg (Value.int IntKind.i64) ?_), rfl⟩
  unfold lz
  first | omega | (simp only [wrap64]; omega)

theorem tuple2 {a a' b b' : Int} (h : a = a') (h2 : b = b') : Ending.returned (.tuple #[.int .u64 a, .int .u64 b]) = .returned (.tuple #[.int .u64 a', .int .u64 b']) := by rw [h, h2]
theorem rem_wrap {u d Y Q R : Nat} (hY : Y < 18446744073709551616) (e : Q * Y + R = u * 4294967296 + d) (hR : R < Y) :
    IntKind.u64.wrap (IntKind.u64.wrap (IntKind.u64.wrap ((u : Int) * 4294967296) + (d : Int)) - IntKind.u64.wrap ((Q : Int) * (Y : Int))) = (R : Int) := by
  rw [M.mulN]
  generalize Q * Y = P at *
  rw [IntKind.wrap_u64, IntKind.wrap_u64, IntKind.wrap_u64, IntKind.wrap_u64]
  omega
/-- what holds of a guessed digit and its rest -/
def DI (u d v1 v0 a b : Nat) : Prop := a * v1 + b = u ∧ qt u d v1 v0 ≤ a ∧ b < 4294967296
theorem di_less {u d v1 v0 a b : Nat} (h : DI u d v1 v0 a b) (hd : d < 4294967296) (hu : u < v1 * 4294967296 + v0) (hc : 4294967296 ≤ a ∨ 4294967296 * b + d < a * v0) : qt u d v1 v0 ≤ a - 1 ∧ 1 ≤ a ∧ (a - 1) * v1 + (b + v1) = u := by
  obtain ⟨h1, h2, h3⟩ := h
  have h5 : qt u d v1 v0 ≤ a - 1 := by
    rcases hc with hc | hc
    · have := qt_lt hd hu; omega
    · exact qt_less h1 h2 hc
  have ha : 1 ≤ a := by
    rcases hc with hc | hc
    · omega
    · rcases Nat.eq_zero_or_pos a with rfl | h
      · simp at hc
      · exact h
  refine ⟨h5, ha, ?_⟩
  obtain ⟨k, rfl⟩ : ∃ k, a = k + 1 := ⟨a - 1, by omega⟩
  rw [Nat.add_mul, Nat.one_mul] at h1
  rw [Nat.add_sub_cancel]
  omega
theorem di_broke {u d v1 v0 a b : Nat} (h : DI u d v1 v0 a b) (hv : 0 < v1) (hv0 : v0 < 4294967296) (hd : d < 4294967296) (hu : u < v1 * 4294967296 + v0) (hc : 4294967296 ≤ a ∨ 4294967296 * b + d < a * v0) (hb : 4294967296 ≤ b + v1) : a - 1 = qt u d v1 v0 :=
  have h2 := di_less h hd hu hc
  qt_broke hv hv0 hu h2.2.2 h2.1 hb
theorem di_next {u d v1 v0 a b : Nat} (h : DI u d v1 v0 a b) (hd : d < 4294967296) (hu : u < v1 * 4294967296 + v0) (hc : 4294967296 ≤ a ∨ 4294967296 * b + d < a * v0) (hb : b + v1 < 4294967296) : DI u d v1 v0 (a - 1) (b + v1) :=
  have h2 := di_less h hd hu hc
  ⟨h2.2.2, h2.1, hb⟩
theorem di_start {u d v1 v0 : Nat} (hv : 0 < v1) (hv1 : v1 < 4294967296) (hd : d < 4294967296) : DI u d v1 v0 (u / v1) (u - u / v1 * v1) := by
  have h1 := Nat.div_add_mod u v1
  have h2 := Nat.mod_lt u hv
  rw [Nat.mul_comm] at h1
  refine ⟨by omega, qt_start hv hd, by omega⟩
theorem di_end {u d v1 v0 a b : Nat} (h : DI u d v1 v0 a b) (hv : 0 < v1) (hc : ¬ 4294967296 * b + d < a * v0) : a = qt u d v1 v0 := qt_end hv h.1 h.2.1 (by omega)

set_option maxRecDepth 100000 in
set_option maxHeartbeats 2000000 in
theorem div64_any (hi lo y : Nat) (hy : hi < y) (h1 : lo < 18446744073709551616) (h2 : y < 18446744073709551616) (w : World) :
    Calls Try.prog 34 #[.int .u64 hi, .int .u64 lo, .int .u64 y] w fun e w' => e = .returned (.tuple #[.int .u64 ((hi * 18446744073709551616 + lo) / y : Nat), .int .u64 ((hi * 18446744073709551616 + lo) % y : Nat)]) ∧ Below w.heap.size w w' := by
  have H1 := Lib.hid h1
  have H2 := Lib.hid h2
  have hy0 : ((y : Int) == 0) = false := beq_eq_false_iff_ne.2 (by omega)
  have hy1 : 1 ≤ y := by omega
  by_cases hz : hi = 0
  · subst hz
    go_enter Try.func34, Try.ntmps34
    go_wp2_with fail
    have f1 : ((lo : Int).tdiv (y : Int)) = (lo : Int) / (y : Int) := Int.tdiv_eq_ediv_of_nonneg (by omega)
    have f2 : ((lo : Int).tmod (y : Int)) = (lo : Int) % (y : Int) := Int.tmod_eq_emod_of_nonneg (by omega)
    have f3 : IntKind.u64.wrap ((lo : Int) / (y : Int)) = (lo : Int) / (y : Int) := by
      have h := Nat.div_le_self lo y
      have h' := H1.out
      rw [show ((lo : Int) / (y : Int)) = ((lo / y : Nat) : Int) from by simp]
      generalize lo / y = Q at *
      rw [wrap_u64_of (Q : Int) (by omega) (by omega)]
    clear h1 h2
    go_quiet (fail)
    go_wp2_with fail
    go_ret2
    exact ⟨tuple2 (by simp) (by simp), below_drewN (Below.refl _ _) nq⟩
  · have hz0 : ((hi : Int) == 0) = false := beq_eq_false_iff_ne.2 (by omega)
    have HS := Lib.hid (lz_spec H2.out (by omega))
    have hs := HS.out.1
    obtain ⟨Y, hY⟩ : ∃ Y, Y = y * 2 ^ lz y := ⟨_, rfl⟩
    have HY : Hid (Y = y * 2 ^ lz y) := hY
    have hYb : Hid (9223372036854775808 ≤ Y ∧ Y < 18446744073709551616) := by show _ ∧ _; rw [hY]; exact HS.out.2
    clear hY
    have e1 : IntKind.u64.wrap ((y : Int) * 2 ^ lz y) = (Y : Int) := by
      have h := hYb.out
      rw [show ((y : Int) * 2 ^ lz y) = (Y : Int) from by rw [HY.out]; simp, wrap_u64_of (Y : Int) (by omega) (by omega)]
    obtain ⟨v1, hv1⟩ : ∃ v1, v1 = Y / 4294967296 := ⟨_, rfl⟩
    obtain ⟨v0, hv0⟩ : ∃ v0, v0 = Y % 4294967296 := ⟨_, rfl⟩
    have HV1 : Hid (v1 = Y / 4294967296) := hv1
    have HV0 : Hid (v0 = Y % 4294967296) := hv0
    clear hv1 hv0
    have e2 : (Y : Int) / 4294967296 = (v1 : Int) := by rw [M.divN, ← HV1.out]
    have e3 : bits .and .u64 (Y : Int) 4294967295 = (v0 : Int) := by rw [M.maskN Y hYb.out.2, ← HV0.out]
    obtain ⟨u, hu⟩ : ∃ u, u = hi * 2 ^ lz y + lo / 2 ^ (64 - lz y) := ⟨_, rfl⟩
    have HU : Hid (u = hi * 2 ^ lz y + lo / 2 ^ (64 - lz y)) := hu
    clear hu
    obtain ⟨L, hL⟩ : ∃ L, L = lo * 2 ^ lz y % 18446744073709551616 := ⟨_, rfl⟩
    have HL : Hid (L = lo * 2 ^ lz y % 18446744073709551616) := hL
    clear hL
    have huY : Hid (u < Y) := by
      show u < Y
      rw [HU.out, HY.out]
      have hlo : lo / 2 ^ (64 - lz y) < 2 ^ lz y := by
        rw [Nat.div_lt_iff_lt_mul (Nat.two_pow_pos _), ← Nat.pow_add, show lz y + (64 - lz y) = 64 from by omega]
        exact H1.out
      have h3 : (hi + 1) * 2 ^ lz y ≤ y * 2 ^ lz y := Nat.mul_le_mul_right _ hy
      rw [Nat.add_mul] at h3
      omega
    have e4 : bits .or .u64 (IntKind.u64.wrap ((hi : Int) * 2 ^ lz y)) ((lo : Int) / 2 ^ (64 - lz y)) = (u : Int) := by
      have h3 := huY.out
      have h4 := hYb.out
      rw [HU.out] at h3
      have cP : ((hi : Int) * 2 ^ lz y) = ((hi * 2 ^ lz y : Nat) : Int) := by simp
      have cR : ((lo : Int) / 2 ^ (64 - lz y)) = ((lo / 2 ^ (64 - lz y) : Nat) : Int) := by simp
      have hlo : lo / 2 ^ (64 - lz y) < 2 ^ lz y := by
        rw [Nat.div_lt_iff_lt_mul (Nat.two_pow_pos _), ← Nat.pow_add, show lz y + (64 - lz y) = 64 from by omega]
        exact H1.out
      have hor : hi * 2 ^ lz y ||| lo / 2 ^ (64 - lz y) = hi * 2 ^ lz y + lo / 2 ^ (64 - lz y) := by
        rw [Nat.mul_comm hi, ← Nat.two_pow_add_eq_or_of_lt hlo]
      rw [cP, cR, HU.out]
      clear cP cR hlo HU
      generalize hi * 2 ^ lz y = P at *
      generalize lo / 2 ^ (64 - lz y) = R at *
      rw [wrap_u64_of (P : Int) (by omega) (by omega), u64_or_nat P R (by omega) (by omega), hor]
    have e5 : IntKind.u64.wrap ((lo : Int) * 2 ^ lz y) = (L : Int) := by
      rw [show ((lo : Int) * 2 ^ lz y) = ((lo * 2 ^ lz y : Nat) : Int) from by simp, IntKind.wrap_u64, HL.out]; simp
    obtain ⟨d1, hd1⟩ : ∃ d1, d1 = L / 4294967296 := ⟨_, rfl⟩
    obtain ⟨d0, hd0⟩ : ∃ d0, d0 = L % 4294967296 := ⟨_, rfl⟩
    have HD1 : Hid (d1 = L / 4294967296) := hd1
    have HD0 : Hid (d0 = L % 4294967296) := hd0
    clear hd1 hd0
    have hLb : L < 18446744073709551616 := by rw [HL.out]; omega
    have HLb := Lib.hid hLb
    clear hLb
    have e6 : (L : Int) / 4294967296 = (d1 : Int) := by rw [M.divN, ← HD1.out]
    have e7 : bits .and .u64 (L : Int) 4294967295 = (d0 : Int) := by rw [M.maskN L HLb.out, ← HD0.out]
    obtain ⟨qs, hqs⟩ : ∃ qs, qs = u / v1 := ⟨_, rfl⟩
    have HQS : Hid (qs = u / v1) := hqs
    clear hqs
    have hvb : Hid (2147483648 ≤ v1 ∧ v1 < 4294967296) := by show _ ∧ _; have h := hYb.out; rw [HV1.out]; omega
    have hv1' : ¬ v1 = 0 := by have := hvb.out; omega
    have hqb : Hid (qs * v1 ≤ u ∧ qs ≤ u) := by show _ ∧ _; rw [HQS.out]; exact ⟨Nat.div_mul_le_self _ _, Nat.div_le_self _ _⟩
    have e8 : IntKind.u64.wrap ((u : Int).tdiv (v1 : Int)) = (qs : Int) := by
      rw [Int.tdiv_eq_ediv_of_nonneg (by omega), show ((u : Int) / (v1 : Int)) = ((u / v1 : Nat) : Int) from by simp, ← HQS.out, wrap_u64_of (qs : Int) (by omega) (by have := hqb.out; have := huY.out; have := hYb.out; omega)]
    have e8' : IntKind.u64.wrap ((u : Int) / (v1 : Int)) = (qs : Int) := by
      rw [show ((u : Int) / (v1 : Int)) = ((u / v1 : Nat) : Int) from by simp, ← HQS.out, wrap_u64_of (qs : Int) (by omega) (by have := hqb.out; have := huY.out; have := hYb.out; omega)]
    obtain ⟨rs, hrs⟩ : ∃ rs, rs = u - qs * v1 := ⟨_, rfl⟩
    have HRS : Hid (rs = u - qs * v1) := hrs
    clear hrs
    have e9 : IntKind.u64.wrap ((qs : Int) * (v1 : Int)) = ((qs * v1 : Nat) : Int) := by
      have h := hqb.out; have h' := huY.out; have h'' := hYb.out
      rw [M.mulN, wrap_u64_of ((qs * v1 : Nat) : Int) (by omega) (by omega)]
    have e10 : IntKind.u64.wrap ((u : Int) - (qs : Int) * (v1 : Int)) = (rs : Int) := by
      have h := hqb.out; have h' := huY.out; have h'' := hYb.out; rw [M.mulN, wrap_u64_of ((u : Int) - ((qs * v1 : Nat) : Int)) (by omega) (by omega), HRS.out]; omega
    clear h1 h2
    go_enter Try.func34, Try.ntmps34
    go_wp2_with fail
    refine (lz_any y H2.out _).mono ?_
    rintro e w1 ⟨rfl, rfl⟩
    have hd1 : (d1 : Int) < 4294967296 := by have := HLb.out; rw [HD1.out]; omega
    have hd0 : (d0 : Int) < 4294967296 := by rw [HD0.out]; omega
    have hv0b : (v0 : Int) < 4294967296 := by rw [HV0.out]; omega
    have hvb1 : 2147483648 ≤ (v1 : Int) := by have := hvb.out; omega
    have hvb2 : (v1 : Int) < 4294967296 := by have := hvb.out; omega
    have hYY : Hid (v1 * 4294967296 + v0 = Y) := by show _ = Y; rw [HV1.out, HV0.out]; omega
    have hubu : Hid (u < v1 * 4294967296 + v0) := by show u < _; rw [hYY.out]; exact huY.out
    have hub2 : Hid (u < 18446744073709551616) := by show u < _; have := huY.out; have := hYb.out; omega
    go_upto_block 0 with fail
    go_cut [15, 16] (fun sq _ wx => sq = .int .u64 (qt u d1 v1 v0) ∧ w = wx)
    case first =>
      go_wp2_with fail
      go_loop [15, 16] (fun q r => ∃ a b : Nat, q = .int .u64 a ∧ r = .int .u64 b ∧ DI u d1 v1 v0 a b) (fun q _ => (intOf q).toNat)
      case atStart => exact ⟨qs, rs, rfl, rfl, by rw [HQS.out, HRS.out, HQS.out]; exact di_start (by omega) (by omega) (by omega)⟩
      case round =>
        obtain ⟨a, b, rfl, rfl, hdi⟩ := hrel
        have hb : (b : Int) < 4294967296 := by have := hdi.2.2; omega
        have hau : Hid (a ≤ u) := by show a ≤ u; have := hdi.1; have : a * 1 ≤ a * v1 := Nat.mul_le_mul_left _ (by omega); omega
        have HDI := Lib.hid hdi
        clear hdi
        by_cases c1 : 4294967296 ≤ (a : Int)
        · obtain ⟨a1, ha1⟩ : ∃ a1, a1 = a - 1 := ⟨_, rfl⟩
          have HA1 : Hid (a1 = a - 1) := ha1
          clear ha1
          have hl : a1 < a := by rw [HA1.out]; omega
          have ea : IntKind.u64.wrap ((a : Int) - 1) = (a1 : Int) := by
            have h1 := hau.out; have h2 := hub2.out
            rw [HA1.out, wrap_u64_of ((a : Int) - 1) (by omega) (by omega)]; omega
          by_cases c3 : 4294967296 ≤ (b : Int) + v1
          · go_wp2_with fail
            go_meet
            exact ⟨congrArg (fun n : Nat => Value.int .u64 n) (by rw [HA1.out]; exact di_broke HDI.out (by omega) (by omega) (by omega) hubu.out (Or.inl (by omega)) (by omega)), rfl⟩
          · go_wp2_with fail
            go_round
            case rel => exact ⟨a1, b + v1, rfl, by go_num, by rw [HA1.out]; exact di_next HDI.out (by omega) hubu.out (Or.inl (by omega)) (by omega)⟩
            case measure => simp [intOf]; omega
        · obtain ⟨m, hm⟩ : ∃ m, m = a * v0 := ⟨_, rfl⟩
          have HM : Hid (m = a * v0) := hm
          clear hm
          have hmb : Hid (m < 18446744073709551616) := by
            show m < _; rw [HM.out]
            have : a * v0 ≤ 4294967295 * 4294967295 := Nat.mul_le_mul (by omega) (by omega)
            omega
          have em : IntKind.u64.wrap ((a : Int) * (v0 : Int)) = (m : Int) := by rw [M.mulN, ← HM.out, wrap_u64_of (m : Int) (by omega) (by have := hmb.out; omega)]
          by_cases c2 : 4294967296 * (b : Int) + d1 < m
          · obtain ⟨a1, ha1⟩ : ∃ a1, a1 = a - 1 := ⟨_, rfl⟩
            have HA1 : Hid (a1 = a - 1) := ha1
            clear ha1
            have hcc : Hid (4294967296 * b + d1 < a * v0) := by show _ < _; rw [← HM.out]; omega
            have hpos := (di_less HDI.out (by omega) hubu.out (Or.inr hcc.out)).2.1
            have hl : a1 < a := by rw [HA1.out]; omega
            have ea : IntKind.u64.wrap ((a : Int) - 1) = (a1 : Int) := by
              have h1 := hau.out; have h2 := hub2.out
              rw [HA1.out, wrap_u64_of ((a : Int) - 1) (by omega) (by omega)]; omega
            by_cases c3 : 4294967296 ≤ (b : Int) + v1
            · go_wp2_with fail
              go_meet
              exact ⟨congrArg (fun n : Nat => Value.int .u64 n) (by rw [HA1.out]; exact di_broke HDI.out (by omega) (by omega) (by omega) hubu.out (Or.inr hcc.out) (by omega)), rfl⟩
            · go_wp2_with fail
              go_round
              case rel => exact ⟨a1, b + v1, rfl, by go_num, by rw [HA1.out]; exact di_next HDI.out (by omega) hubu.out (Or.inr hcc.out) (by omega)⟩
              case measure => simp [intOf]; omega
          · go_wp2_with fail
            go_meet
            exact ⟨congrArg (fun n : Nat => Value.int .u64 n) (di_end HDI.out (by omega) (by rw [← HM.out]; omega)), rfl⟩
    case rest =>
    obtain ⟨hs15, rfl⟩ := hcut
    subst hs15
    have hQb : Hid (qt u d1 v1 v0 < 4294967296) := qt_lt (by omega) hubu.out
    have hre : Hid (qt u d1 v1 v0 * Y + rt u d1 v1 v0 = u * 4294967296 + d1) := by show _ = _; rw [← hYY.out]; exact rt_eq u d1 v1 v0
    have hrl : Hid (rt u d1 v1 v0 < Y) := by show _ < Y; rw [← hYY.out]; exact rt_lt (by omega)
    generalize hQ1 : qt u d1 v1 v0 = Q1 at *
    generalize hu2 : rt u d1 v1 v0 = u2 at *
    have HQ1 : Hid (qt u d1 v1 v0 = Q1) := hQ1
    have HU2 : Hid (rt u d1 v1 v0 = u2) := hu2
    clear hQ1 hu2
    have g1 : IntKind.u64.wrap (IntKind.u64.wrap (IntKind.u64.wrap ((u : Int) * 4294967296) + (d1 : Int)) - IntKind.u64.wrap ((Q1 : Int) * (Y : Int))) = (u2 : Int) := rem_wrap hYb.out.2 hre.out hrl.out
    obtain ⟨q2, hq2⟩ : ∃ q2, q2 = u2 / v1 := ⟨_, rfl⟩
    have HQ2 : Hid (q2 = u2 / v1) := hq2
    clear hq2
    have hqb2 : Hid (q2 * v1 ≤ u2 ∧ q2 ≤ u2) := by show _ ∧ _; rw [HQ2.out]; exact ⟨Nat.div_mul_le_self _ _, Nat.div_le_self _ _⟩
    have hub3 : Hid (u2 < 18446744073709551616) := by show u2 < _; have := hrl.out; have := hYb.out; omega
    have hubu2 : Hid (u2 < v1 * 4294967296 + v0) := by show u2 < _; rw [hYY.out]; exact hrl.out
    have i8 : IntKind.u64.wrap ((u2 : Int).tdiv (v1 : Int)) = (q2 : Int) := by
      rw [Int.tdiv_eq_ediv_of_nonneg (by omega), show ((u2 : Int) / (v1 : Int)) = ((u2 / v1 : Nat) : Int) from by simp, ← HQ2.out, wrap_u64_of (q2 : Int) (by omega) (by have := hqb2.out; have := hub3.out; omega)]
    have i8' : IntKind.u64.wrap ((u2 : Int) / (v1 : Int)) = (q2 : Int) := by
      rw [show ((u2 : Int) / (v1 : Int)) = ((u2 / v1 : Nat) : Int) from by simp, ← HQ2.out, wrap_u64_of (q2 : Int) (by omega) (by have := hqb2.out; have := hub3.out; omega)]
    obtain ⟨r2, hr2⟩ : ∃ r2, r2 = u2 - q2 * v1 := ⟨_, rfl⟩
    have HR2 : Hid (r2 = u2 - q2 * v1) := hr2
    clear hr2
    have i9 : IntKind.u64.wrap ((q2 : Int) * (v1 : Int)) = ((q2 * v1 : Nat) : Int) := by
      have h := hqb2.out; have h' := hub3.out
      rw [M.mulN, wrap_u64_of ((q2 * v1 : Nat) : Int) (by omega) (by omega)]
    have i10 : IntKind.u64.wrap ((u2 : Int) - (q2 : Int) * (v1 : Int)) = (r2 : Int) := by
      have h := hqb2.out; have h' := hub3.out
      rw [M.mulN, wrap_u64_of ((u2 : Int) - ((q2 * v1 : Nat) : Int)) (by omega) (by omega), HR2.out]; omega
    clear e8 e8' e9 e10
    go_upto_block 2 with fail
    go_cut [18, 16] (fun sq _ wx => sq = .int .u64 (qt u2 d0 v1 v0) ∧ w = wx)
    case first =>
      go_wp2_with fail
      go_loop [18, 16] (fun q r => ∃ a b : Nat, q = .int .u64 a ∧ r = .int .u64 b ∧ DI u2 d0 v1 v0 a b) (fun q _ => (intOf q).toNat)
      case atStart => exact ⟨q2, r2, rfl, rfl, by rw [HQ2.out, HR2.out, HQ2.out]; exact di_start (by omega) (by omega) (by omega)⟩
      case round =>
        obtain ⟨a, b, rfl, rfl, hdi⟩ := hrel
        have hb : (b : Int) < 4294967296 := by have := hdi.2.2; omega
        have hau : Hid (a ≤ u2) := by show a ≤ u2; have := hdi.1; have : a * 1 ≤ a * v1 := Nat.mul_le_mul_left _ (by omega); omega
        have HDI := Lib.hid hdi
        clear hdi
        by_cases c1 : 4294967296 ≤ (a : Int)
        · obtain ⟨a1, ha1⟩ : ∃ a1, a1 = a - 1 := ⟨_, rfl⟩
          have HA1 : Hid (a1 = a - 1) := ha1
          clear ha1
          have hl : a1 < a := by rw [HA1.out]; omega
          have ea : IntKind.u64.wrap ((a : Int) - 1) = (a1 : Int) := by
            have h1 := hau.out; have h2 := hub3.out
            rw [HA1.out, wrap_u64_of ((a : Int) - 1) (by omega) (by omega)]; omega
          by_cases c3 : 4294967296 ≤ (b : Int) + v1
          · go_wp2_with fail
            go_meet
            exact ⟨congrArg (fun n : Nat => Value.int .u64 n) (by rw [HA1.out]; exact di_broke HDI.out (by omega) (by omega) (by omega) hubu2.out (Or.inl (by omega)) (by omega)), rfl⟩
          · go_wp2_with fail
            go_round
            case rel => exact ⟨a1, b + v1, rfl, by go_num, by rw [HA1.out]; exact di_next HDI.out (by omega) hubu2.out (Or.inl (by omega)) (by omega)⟩
            case measure => simp [intOf]; omega
        · obtain ⟨m, hm⟩ : ∃ m, m = a * v0 := ⟨_, rfl⟩
          have HM : Hid (m = a * v0) := hm
          clear hm
          have hmb : Hid (m < 18446744073709551616) := by
            show m < _; rw [HM.out]
            have : a * v0 ≤ 4294967295 * 4294967295 := Nat.mul_le_mul (by omega) (by omega)
            omega
          have em : IntKind.u64.wrap ((a : Int) * (v0 : Int)) = (m : Int) := by rw [M.mulN, ← HM.out, wrap_u64_of (m : Int) (by omega) (by have := hmb.out; omega)]
          by_cases c2 : 4294967296 * (b : Int) + d0 < m
          · obtain ⟨a1, ha1⟩ : ∃ a1, a1 = a - 1 := ⟨_, rfl⟩
            have HA1 : Hid (a1 = a - 1) := ha1
            clear ha1
            have hcc : Hid (4294967296 * b + d0 < a * v0) := by show _ < _; rw [← HM.out]; omega
            have hpos := (di_less HDI.out (by omega) hubu2.out (Or.inr hcc.out)).2.1
            have hl : a1 < a := by rw [HA1.out]; omega
            have ea : IntKind.u64.wrap ((a : Int) - 1) = (a1 : Int) := by
              have h1 := hau.out; have h2 := hub3.out
              rw [HA1.out, wrap_u64_of ((a : Int) - 1) (by omega) (by omega)]; omega
            by_cases c3 : 4294967296 ≤ (b : Int) + v1
            · go_wp2_with fail
              go_meet
              exact ⟨congrArg (fun n : Nat => Value.int .u64 n) (by rw [HA1.out]; exact di_broke HDI.out (by omega) (by omega) (by omega) hubu2.out (Or.inr hcc.out) (by omega)), rfl⟩
            · go_wp2_with fail
              go_round
              case rel => exact ⟨a1, b + v1, rfl, by go_num, by rw [HA1.out]; exact di_next HDI.out (by omega) hubu2.out (Or.inr hcc.out) (by omega)⟩
              case measure => simp [intOf]; omega
          · go_wp2_with fail
            go_meet
            exact ⟨congrArg (fun n : Nat => Value.int .u64 n) (di_end HDI.out (by omega) (by rw [← HM.out]; omega)), rfl⟩
    case rest =>
    obtain ⟨hs18, rfl⟩ := hcut
    subst hs18
    have hQb0 : (qt u2 d0 v1 v0 : Int) < 4294967296 := by have := qt_lt (u := u2) (d := d0) (v1 := v1) (v0 := v0) (by omega) hubu2.out; omega
    have hQb1 : (Q1 : Int) < 4294967296 := by have := hQb.out; omega
    have hre0 : Hid (qt u2 d0 v1 v0 * Y + rt u2 d0 v1 v0 = u2 * 4294967296 + d0) := by show _ = _; rw [← hYY.out]; exact rt_eq u2 d0 v1 v0
    have hrl0 : Hid (rt u2 d0 v1 v0 < Y) := by show _ < Y; rw [← hYY.out]; exact rt_lt (by omega)
    have hdig : Hid ((hi * 18446744073709551616 + lo) / y = Q1 * 4294967296 + qt u2 d0 v1 v0 ∧ (hi * 18446744073709551616 + lo) % y = rt u2 d0 v1 v0 / 2 ^ lz y) := by
      show _ ∧ _
      have ht := two_digits u d1 d0 v1 v0 (by omega)
      rw [HQ1.out, HU2.out, hYY.out] at ht
      have hN : (u * 4294967296 + d1) * 4294967296 + d0 = (hi * 18446744073709551616 + lo) * 2 ^ lz y := by
        rw [shift_words hi lo (lz y) hs, ← HU.out, ← HL.out]
        rw [HD1.out, HD0.out]; omega
      rw [hN, HY.out, Nat.mul_div_mul_right _ _ (Nat.two_pow_pos _), Nat.mul_mod_mul_right] at ht
      refine ⟨ht.1, ?_⟩
      rw [← ht.2, Nat.mul_div_cancel _ (Nat.two_pow_pos _)]
    generalize hQ0 : qt u2 d0 v1 v0 = Q0 at *
    generalize hu3 : rt u2 d0 v1 v0 = u3 at *
    clear hQ0 hu3
    have g2 : IntKind.u64.wrap (IntKind.u64.wrap (IntKind.u64.wrap ((u2 : Int) * 4294967296) + (d0 : Int)) - IntKind.u64.wrap ((Q0 : Int) * (Y : Int))) = (u3 : Int) := rem_wrap hYb.out.2 hre0.out hrl0.out
    go_wp2_with fail
    go_ret2
    exact ⟨tuple2 (by have := hdig.out.1; omega) (by rw [hdig.out.2]; simp), Below.refl _ _⟩
end Go.Proofs.Ytnohghdkegfcaaa
