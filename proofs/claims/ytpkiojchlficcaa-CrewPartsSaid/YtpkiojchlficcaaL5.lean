/- The walks: lockSlow's loop head, at every depth. -/
import Derived.Test.YtpkiojchlficcaaL3
import Derived.Test.YtpkiojchlficcaaL4
set_option linter.unusedSimpArgs false
namespace Go.Proofs.Ytpkiojchlficcaa.Crew
open Go Go.Conc Go.ConcN Go.RowKit Go.Conc.Lib Go.ConcR.Gen
open Go.ConcM (OsLater goes_pad goes_le)
open Go.ConcR (KK wgBlock WgAt stA smA rd wr mk DC0)
section
variable [Cap] {C : Cf} {W : World}
variable {b₁ : Frame} {a₁ : Act} {ops₁ : Array Oper} {i₁ : Nat} {rest₁ : List Nat} {k₁ : List Item} {cs₁ : List Frame}

/-- How its word is reckoned, whatever the locals. -/
theorem tailGo (hP : C.P = Try.prog) (Ge : Geo C) (hT : ∀ k', ∃ m, ∀ w, KW C W w → GD C k' (at_ .o2) m (G (b₁.at (a₁.put ((ops₁[i₁]?).bind (·.dst)) (.tuple #[])) (.inRegion ops₁ rest₁ :: k₁)) cs₁) w) (k : Nat) (ih : ∀ k', k' < k → ∀ (T : Th) (wst : Int), T.old.n ≤ 16 → T.it ≤ 4 → (hd T).pc ≠ .bad → PosAt C W b₁ a₁ ops₁ i₁ rest₁ k₁ cs₁ [.code LL80, .inLoop LL80, .inBlock 0, .code REST80] k' (hd T) T wst) (T : Th) (wst : Int) (hn : T.old.n ≤ 16) (hit : T.it ≤ 4) (hb : (toC2 T).pc ≠ .bad) : PosAt C W b₁ a₁ ops₁ i₁ rest₁ k₁ cs₁ (IT80 TAIL80) k (toC2 T) T wst := by
  obtain ⟨pc, ⟨l, w, s, n⟩, aw, sv, it⟩ := T
  simp only at hn hit
  unfold toC2 at hb ⊢
  simp only at hb ⊢
  cases aw with
  | false =>
    simp only [Bool.false_and, Bool.false_eq_true, if_false]
    cases l <;> cases s <;> cases sv
    · exact tail0000 hP Ge hT k ih pc w n it wst hn hit
    · exact tail0010 hP Ge hT k ih pc w n it wst hn hit
    · exact tail0100 hP Ge hT k ih pc w n it wst hn hit
    · exact tail0110 hP Ge hT k ih pc w n it wst hn hit
    · exact tail1000 hP Ge hT k ih pc w n it wst hn hit
    · exact tail1010 hP Ge hT k ih pc w n it wst hn hit
    · exact tail1100 hP Ge hT k ih pc w n it wst hn hit
    · exact tail1110 hP Ge hT k ih pc w n it wst hn hit
  | true =>
    cases w with
    | false => simp at hb
    | true =>
      simp only [Bool.not_true, Bool.and_false, Bool.false_eq_true, if_false]
      cases l <;> cases s <;> cases sv
      · exact tail0001 hP Ge hT k ih pc n it wst hn hit
      · exact tail0011 hP Ge hT k ih pc n it wst hn hit
      · exact tail0101 hP Ge hT k ih pc n it wst hn hit
      · exact tail0111 hP Ge hT k ih pc n it wst hn hit
      · exact tail1001 hP Ge hT k ih pc n it wst hn hit
      · exact tail1011 hP Ge hT k ih pc n it wst hn hit
      · exact tail1101 hP Ge hT k ih pc n it wst hn hit
      · exact tail1111 hP Ge hT k ih pc n it wst hn hit

set_option maxRecDepth 100000 in
set_option maxHeartbeats 16000000 in
/-- It spins: r1. -/
theorem spinGo (hP : C.P = Try.prog) (k : Nat) (ih : ∀ k', k' < k → ∀ (T : Th) (wst : Int), T.old.n ≤ 16 → T.it ≤ 4 → (hd T).pc ≠ .bad → PosAt C W b₁ a₁ ops₁ i₁ rest₁ k₁ cs₁ [.code LL80, .inLoop LL80, .inBlock 0, .code REST80] k' (hd T) T wst) (T : Th) (wst : Int) (hit : T.it < 4) : PosAt C W b₁ a₁ ops₁ i₁ rest₁ k₁ cs₁ [.code SPIN80, .code TAIL80, .inBlock 1, .inLoop LL80, .inBlock 0, .code REST80] k { T with pc := .r1 } T wst := by
  obtain ⟨pc, old, aw, sv, it⟩ := T
  simp only at hit
  refine ⟨60, fun j1 j7 j8 j9 j10 j11 j12 j13 j14 j15 j16 j17 j18 j19 j20 j21 j22 j23 j24 j25 j26 j27 j28 j29 j30 j31 j32 j33 j34 j35 j36 j37 j38 j39 j40 j41 j42 j43 j44 j45 j46 j47 j48 j49 j50 j51 j52 j53 j54 j55 j56 j57 j58 j59 j60 j61 j62 j63 j64 j65 j66 j67 j68 j69 j70 j71 j72 j73 j74 j75 j76 j77 j78 j79 j80 j81 j82 j83 j84 j85 j86 j87 j88 j89 j90 j91 j92 j93 j94 j95 j96 j97 j98 j99 j100 j101 j102 j103 j104 j105 j106 j107 j108 j109 j110 j111 j112 j113 j114 j115 j116 j117 j118 j119 j120 j121 j122 j123 j124 j125 j126 j127 j128 j129 j130 j131 j132 j133 j134 j135 j136 j137 j138 w hF => ?_⟩
  have e : IntKind.i64.wrap ((it : Int) + 1) = ((it + 1 : Nat) : Int) := by rw [IntKind.wrap_i64]; omega
  have ih2 : ∀ k', k' < k → ∀ old' : Wd, old'.n ≤ 16 → (Crew.hd { pc := .r1, old := old', aw := aw, sv := sv, it := it + 1 }).pc ≠ .bad → PosAt C W b₁ a₁ ops₁ i₁ rest₁ k₁ cs₁ [.code LL80, .inLoop LL80, .inBlock 0, .code REST80] k' (Crew.hd { pc := .r1, old := old', aw := aw, sv := sv, it := it + 1 }) { pc := .r1, old := old', aw := aw, sv := sv, it := it + 1 } wst := fun k' hk old' hn hb => ih k' hk _ wst hn (by show it + 1 ≤ 4; omega) hb
  unfold PosAt at ih2
  simp only at ih2
  clear hit
  obtain ⟨z, hz⟩ : ∃ z : Int, z = ((it + 1 : Nat) : Int) := ⟨_, rfl⟩
  rw [← hz] at e
  rw [← hz] at ih2
  clear ih hz
  simp only [LL80, REST80, TAIL80, SPIN80, S1N80, R2N80, C2N80, IT80, body80, s0, s1, Try.f80, Option.getD_some]
  repeat w_go KW.rely
  u_in KW.rely hF
  rw [stepG_entry_pure (.tuple #[]) rfl rfl (by k_ne) rfl Try.func84 x84_n x84_b x84_x x84_f]
  simp only [goes_go]
  refine ⟨by u_nil, ?_⟩
  walk_nrm
  repeat w_go KW.rely
  refine at_stop hF fun k' w hk' hF => stpWay hP rfl (by simp) rfl (by simp [Th.wakes]) fun s hs hsm => ?_
  refine ⟨(Crew.hd { pc := .r1, old := s.mu, aw := aw, sv := sv, it := it + 1 }, s), by simp [wmv], fun hb => ?_⟩
  obtain ⟨mH, hH⟩ := ih2 k' (by omega) s.mu hsm.n hb
  have hq := hd_deaf _ hb
  clear ih2
  refine ⟨_, _, _, stepG_loadQ rfl rfl (by k_ne) rfl rfl hs.muC q80, hs, Eff.refl _, evW (by simp) (by rw [hq.1]; exact bk_nil (C := C) 1), afterT hP hq.2 (mH + 60) ?_⟩
  walk_nrm
  repeat w_nl KW.rely
  u_c stepG_inLoop KW.rely hF
  exact goes_pad (hH _ _ _ _ _ _ _ _ _ _ _ _ _ _ _ _ _ _ _ _ _ _ _ _ _ _ _ _ _ _ _ _ _ _ _ _ _ _ _ _ _ _ _ _ _ _ _ _ _ _ _ _ _ _ _ _ _ _ _ _ _ _ _ _ _ _ _ _ _ _ _ _ _ _ _ _ _ _ _ _ _ _ _ _ _ _ _ _ _ _ _ _ _ _ _ _ _ _ _ _ _ _ _ _ _ _ _ _ _ _ _ _ _ _ _ _ _ _ _ _ _ _ _ _ _ _ _ _ _ _ _ _ _ _ hF) _
end
end Go.Proofs.Ytpkiojchlficcaa.Crew
