/- The walks: lockSlow: it waits: s1, t2. -/
import Derived.Test.YtpkiojchlficcaaL0
set_option linter.unusedSimpArgs false
namespace Go.Proofs.Ytpkiojchlficcaa.Crew
open Go Go.Conc Go.ConcN Go.RowKit Go.Conc.Lib Go.ConcR.Gen
open Go.ConcM (OsLater goes_pad goes_le)
open Go.ConcR (KK wgBlock WgAt stA smA rd wr mk DC0)
section
variable [Cap] {C : Cf} {W : World}
variable {b₁ : Frame} {a₁ : Act} {ops₁ : Array Oper} {i₁ : Nat} {rest₁ : List Nat} {k₁ : List Item} {cs₁ : List Frame}

set_option maxRecDepth 100000 in
set_option maxHeartbeats 16000000 in
theorem s1Go (hP : C.P = Try.prog) (Ge : Geo C) (hT : ∀ k', ∃ m, ∀ w, KW C W w → GD C k' (at_ .o2) m (G (b₁.at (a₁.put ((ops₁[i₁]?).bind (·.dst)) (.tuple #[])) (.inRegion ops₁ rest₁ :: k₁)) cs₁) w) (k : Nat) (ih : ∀ k', k' < k → ∀ (T : Th) (wst : Int), T.old.n ≤ 16 → T.it ≤ 4 → (hd T).pc ≠ .bad → PosAt C W b₁ a₁ ops₁ i₁ rest₁ k₁ cs₁ [.code LL80, .inLoop LL80, .inBlock 0, .code REST80] k' (hd T) T wst) (T : Th) (wst : Int) : PosAt C W b₁ a₁ ops₁ i₁ rest₁ k₁ cs₁ (IT80 S1N80) k { T with pc := .s1 } T wst := by
  obtain ⟨pc, old, aw, sv, it⟩ := T
  refine ⟨40, fun j1 j7 j8 j9 j10 j11 j12 j13 j14 j15 j16 j17 j18 j19 j20 j21 j22 j23 j24 j25 j26 j27 j28 j29 j30 j31 j32 j33 j34 j35 j36 j37 j38 j39 j40 j41 j42 j43 j44 j45 j46 j47 j48 j49 j50 j51 j52 j53 j54 j55 j56 j57 j58 j59 j60 j61 j62 j63 j64 j65 j66 j67 j68 j69 j70 j71 j72 j73 j74 j75 j76 j77 j78 j79 j80 j81 j82 j83 j84 j85 j86 j87 j88 j89 j90 j91 j92 j93 j94 j95 j96 j97 j98 j99 j100 j101 j102 j103 j104 j105 j106 j107 j108 j109 j110 j111 j112 j113 j114 j115 j116 j117 j118 j119 j120 j121 j122 j123 j124 j125 j126 j127 j128 j129 j130 j131 j132 j133 j134 j135 j136 j137 j138 w hF => ?_⟩
  simp only [LL80, REST80, TAIL80, SPIN80, S1N80, R2N80, C2N80, IT80, body80, s0, s1, Try.f80, Option.getD_some]
  repeat w_go KW.rely
  refine at_stop hF fun k' w hk hF => stpW rfl (by simp) rfl (by simp [Th.wakes]) fun s hs hsm => ⟨fun h => ?_, fun hne => ?_⟩
  · have h0 : s.ms = 0 := by
      by_cases hc : s.ms = 0
      · exact hc
      · simp [wmv, hc] at h
    rw [hP]
    exact stepG_semacquire_wait rfl rfl rfl Try.func87 x87_n x87_b x87_x x87_f (by simp [Act.eval]; rfl) (by have := hs.msC; rw [h0] at this; exact this)
  have h1 : s.ms ≠ 0 := fun hc => hne (by simp [wmv, hc])
  have hw1 : (s.ms : Int) - 1 = ((s.ms - 1 : Nat) : Int) := by omega
  have hs' := hs.setMs Ge hw1
  have hz1 : (s.ms : Int) ≠ 0 := by omega
  cases sv with
  | true =>
    obtain ⟨mR, hR⟩ := r2Go hP Ge hT k' (fun k'' hlt => ih k'' (by omega)) ⟨pc, old, aw, true, it⟩ wst
    refine ⟨({ pc := .r2, old := old, aw := aw, sv := true, it := it }, { s with ms := s.ms - 1 }), by simp [wmv, h1], fun _ => ⟨_, _, _, by rw [hP]; exact stepG_semacquire rfl rfl (by k_ne) rfl Try.func87 x87_n x87_b x87_x x87_f (by simp [Act.eval]; rfl) hs.msC hz1 (hs.onThaw 2), hs', Eff.set _ _ (.inl rfl), evW (by simp) (bk_sem (C := C) 0 (msA C.tp.On) (.inl rfl)), afterT hP (by simp) (mR + 60) ?_⟩⟩
    have hF := hF.eff Ge (Eff.set _ _ (.inl rfl)) hs'
    clear hw1 hs' hz1
    walk_nrm
    repeat (first | (exact goes_pad (hR _ _ _ _ _ _ _ _ _ _ _ _ _ _ _ _ _ _ _ _ _ _ _ _ _ _ _ _ _ _ _ _ _ _ _ _ _ _ _ _ _ _ _ _ _ _ _ _ _ _ _ _ _ _ _ _ _ _ _ _ _ _ _ _ _ _ _ _ _ _ _ _ _ _ _ _ _ _ _ _ _ _ _ _ _ _ _ _ _ _ _ _ _ _ _ _ _ _ _ _ _ _ _ _ _ _ _ _ _ _ _ _ _ _ _ _ _ _ _ _ _ _ _ _ _ _ _ _ _ _ _ _ _ _ hF) _) | w_go KW.rely)
  | false =>
    refine ⟨({ pc := .t2, old := old, aw := aw, sv := false, it := it }, { s with ms := s.ms - 1 }), by simp [wmv, h1], fun _ => ⟨_, _, _, by rw [hP]; exact stepG_semacquire rfl rfl (by k_ne) rfl Try.func87 x87_n x87_b x87_x x87_f (by simp [Act.eval]; rfl) hs.msC hz1 (hs.onThaw 2), hs', Eff.set _ _ (.inl rfl), evW (by simp) (bk_sem (C := C) 0 (msA C.tp.On) (.inl rfl)), afterT hP (by simp) 60 ?_⟩⟩
    have hF := hF.eff Ge (Eff.set _ _ (.inl rfl)) hs'
    clear hw1 hs' hz1
    walk_nrm
    repeat w_go KW.rely
    -- STOP t2
    refine at_stop hF fun k2 w hk2 hF => stpWay hP rfl (by simp) rfl (by simp [Th.wakes]) fun s hs hsm => ?_
    rcases hB : decide (1000000 < IntKind.i64.wrap (((w.os.mono + w.tick : Nat) : Int) - wst)) with _ | _
    · obtain ⟨mR, hR⟩ := r2Go hP Ge hT k2 (fun k'' hlt => ih k'' (by omega)) ⟨pc, old, aw, false, it⟩ wst
      refine ⟨({ pc := .r2, old := old, aw := aw, sv := false, it := it }, s), by simp [wmv], fun _ => ⟨_, _, _, stepG_nanotime rfl rfl (by k_ne) rfl Try.func86 x86_n x86_b x86_x x86_f x86_q, hs.later, Eff.later _, evW (by simp) (bk_nil (C := C) 1), afterT hP (by simp) (mR + 60) ?_⟩⟩
      have hF := hF.eff Ge (Eff.later w) hs.later
      generalize ((w.os.mono + w.tick : Nat) : Int) = tw at hB ⊢
      walk_nrm
      repeat w_but "regionEnd" KW.rely
      try simp only [hB]
      repeat (first | (exact goes_pad (hR _ _ _ _ _ _ _ _ _ _ _ _ _ _ _ _ _ _ _ _ _ _ _ _ _ _ _ _ _ _ _ _ _ _ _ _ _ _ _ _ _ _ _ _ _ _ _ _ _ _ _ _ _ _ _ _ _ _ _ _ _ _ _ _ _ _ _ _ _ _ _ _ _ _ _ _ _ _ _ _ _ _ _ _ _ _ _ _ _ _ _ _ _ _ _ _ _ _ _ _ _ _ _ _ _ _ _ _ _ _ _ _ _ _ _ _ _ _ _ _ _ _ _ _ _ _ _ _ _ _ _ _ _ _ hF) _) | w_go KW.rely)
    · obtain ⟨mR, hR⟩ := r2Go hP Ge hT k2 (fun k'' hlt => ih k'' (by omega)) ⟨pc, old, aw, true, it⟩ wst
      refine ⟨({ pc := .r2, old := old, aw := aw, sv := true, it := it }, s), by simp [wmv], fun _ => ⟨_, _, _, stepG_nanotime rfl rfl (by k_ne) rfl Try.func86 x86_n x86_b x86_x x86_f x86_q, hs.later, Eff.later _, evW (by simp) (bk_nil (C := C) 1), afterT hP (by simp) (mR + 60) ?_⟩⟩
      have hF := hF.eff Ge (Eff.later w) hs.later
      generalize ((w.os.mono + w.tick : Nat) : Int) = tw at hB ⊢
      walk_nrm
      repeat w_but "regionEnd" KW.rely
      try simp only [hB]
      repeat (first | (exact goes_pad (hR _ _ _ _ _ _ _ _ _ _ _ _ _ _ _ _ _ _ _ _ _ _ _ _ _ _ _ _ _ _ _ _ _ _ _ _ _ _ _ _ _ _ _ _ _ _ _ _ _ _ _ _ _ _ _ _ _ _ _ _ _ _ _ _ _ _ _ _ _ _ _ _ _ _ _ _ _ _ _ _ _ _ _ _ _ _ _ _ _ _ _ _ _ _ _ _ _ _ _ _ _ _ _ _ _ _ _ _ _ _ _ _ _ _ _ _ _ _ _ _ _ _ _ _ _ _ _ _ _ _ _ _ _ _ hF) _) | w_go KW.rely)
end
end Go.Proofs.Ytpkiojchlficcaa.Crew
