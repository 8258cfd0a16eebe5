/- The walks: lockSlow: it lays its word: c2; le | t1, s1 | r3. -/
import Derived.Test.YtpkiojchlficcaaL1
set_option linter.unusedSimpArgs false
namespace Go.Proofs.Ytpkiojchlficcaa.Crew
open Go Go.Conc Go.ConcN Go.RowKit Go.Conc.Lib Go.ConcR.Gen
open Go.ConcM (OsLater goes_pad goes_le)
open Go.ConcR (KK wgBlock WgAt stA smA rd wr mk DC0)
section
variable [Cap] {C : Cf} {W : World}
variable {b₁ : Frame} {a₁ : Act} {ops₁ : Array Oper} {i₁ : Nat} {rest₁ : List Nat} {k₁ : List Item} {cs₁ : List Frame}

set_option maxRecDepth 100000 in
set_option maxHeartbeats 16000000 in
theorem c2Go (hP : C.P = Try.prog) (Ge : Geo C) (hT : ∀ k', ∃ m, ∀ w, KW C W w → GD C k' (at_ .o2) m (G (b₁.at (a₁.put ((ops₁[i₁]?).bind (·.dst)) (.tuple #[])) (.inRegion ops₁ rest₁ :: k₁)) cs₁) w) (k : Nat) (ih : ∀ k', k' < k → ∀ (T : Th) (wst : Int), T.old.n ≤ 16 → T.it ≤ 4 → (hd T).pc ≠ .bad → PosAt C W b₁ a₁ ops₁ i₁ rest₁ k₁ cs₁ [.code LL80, .inLoop LL80, .inBlock 0, .code REST80] k' (hd T) T wst) (T : Th) (wst : Int) (nw : Wd) (hnw : nw = nwd T) (hn : T.old.n ≤ 16) (hit : T.it ≤ 4) : PosN C W b₁ a₁ ops₁ i₁ rest₁ k₁ cs₁ (IT80 C2N80) k { T with pc := .c2 } T wst nw := by
  obtain ⟨pc, old, aw, sv, it⟩ := T
  have hnw' : nwd { pc := .c2, old := old, aw := aw, sv := sv, it := it } = nw := hnw.symm
  clear hnw
  simp only at hn hit
  refine ⟨60, fun j1 j8 j9 j10 j11 j12 j13 j14 j15 j16 j17 j18 j19 j20 j21 j22 j23 j24 j25 j26 j27 j28 j29 j30 j31 j32 j33 j34 j35 j36 j37 j38 j39 j40 j41 j42 j43 j44 j45 j46 j47 j48 j49 j50 j51 j52 j53 j54 j55 j56 j57 j58 j59 j60 j61 j62 j63 j64 j65 j66 j67 j68 j69 j70 j71 j72 j73 j74 j75 j76 j77 j78 j79 j80 j81 j82 j83 j84 j85 j86 j87 j88 j89 j90 j91 j92 j93 j94 j95 j96 j97 j98 j99 j100 j101 j102 j103 j104 j105 j106 j107 j108 j109 j110 j111 j112 j113 j114 j115 j116 j117 j118 j119 j120 j121 j122 j123 j124 j125 j126 j127 j128 j129 j130 j131 j132 j133 j134 j135 j136 j137 j138 w hF => ?_⟩
  simp only [LL80, REST80, TAIL80, SPIN80, S1N80, R2N80, C2N80, IT80, body80, s0, s1, Try.f80, Option.getD_some]
  repeat w_go KW.rely
  refine at_stop hF fun k' w hk' hF => stpWay hP rfl (by simp) rfl (by simp [Th.wakes]) fun s hs hsm => ?_
  by_cases hm : s.mu = old
  · have hs' := hs.setMu Ge (m := nw) rfl
    by_cases hfree : old.l = false ∧ old.s = false
    · have e5 : (bits BinOp.and IntKind.i32 (muZ old) 5 == 0) = true := by rw [y_and5_0 (by omega), hfree.1, hfree.2]; rfl
      obtain ⟨mE, hE'⟩ := leGo hP hT k'
      refine ⟨(at_ .le, { s with mu := nw }), by simp [wmv, hm, hfree, hnw'], fun _ => ⟨_, _, _, stepG_cas_hit rfl rfl (by k_ne) rfl Try.func79 x79_n x79_b x79_x .i32 x79_f rfl rfl rfl (hm ▸ hs.muC) (hs.onThaw 1), hs', Eff.set _ _ (.inl rfl), evW (by simp) (bk_rw (C := C) 0 (muA C.tp.On) (.inl rfl)), afterT hP (by simp) (mE + 60) ?_⟩⟩
      have hF := hF.eff Ge (Eff.set _ _ (.inl rfl)) hs'
      clear hs' hnw'
      walk_nrm
      repeat (first | w_but "code.exit" KW.rely | simp only [e5])
      u_exit KW.rely hF
      exact goes_pad (hE' _ _ _ _ _ _ _ _ _ _ _ _ _ _ _ _ _ _ _ _ _ _ _ _ _ _ _ _ _ _ _ _ _ _ _ _ _ _ _ _ _ _ _ _ _ _ _ _ _ _ _ _ _ _ _ _ _ _ _ _ _ _ _ _ _ _ _ _ _ _ _ _ _ _ _ _ _ _ _ _ _ _ _ _ _ _ _ _ _ _ _ _ _ _ _ _ _ _ _ _ _ _ _ _ _ _ _ _ _ _ _ _ _ _ _ _ _ _ _ _ _ _ _ _ _ _ _ _ _ _ _ _ _ _ _ _ _ _ _ hF) _
    have e5 : (bits BinOp.and IntKind.i32 (muZ old) 5 == 0) = false := by
      rw [y_and5_0 (by omega)]
      cases hl : old.l <;> cases hs : old.s <;> simp [hl, hs] at hfree ⊢
    by_cases hw : wst = 0
    · subst hw
      refine ⟨({ pc := .t1, old := old, aw := aw, sv := sv, it := it }, { s with mu := nw }), by simp [wmv, hm, hfree, hnw'], fun _ => ⟨_, _, _, stepG_cas_hit rfl rfl (by k_ne) rfl Try.func79 x79_n x79_b x79_x .i32 x79_f rfl rfl rfl (hm ▸ hs.muC) (hs.onThaw 1), hs', Eff.set _ _ (.inl rfl), evW (by simp) (bk_rw (C := C) 0 (muA C.tp.On) (.inl rfl)), afterT hP (by simp) 90 ?_⟩⟩
      have hF := hF.eff Ge (Eff.set _ _ (.inl rfl)) hs'
      clear hs' hnw'
      walk_nrm
      repeat (first | w_go KW.rely | simp only [e5])
      -- STOP t1
      refine at_stop hF fun k2 w hk2 hF => stpWay hP rfl (by simp) rfl (by simp [Th.wakes]) fun s hs hsm => ?_
      obtain ⟨mS, hS⟩ := s1Go hP Ge hT k2 (fun k'' hlt => ih k'' (by omega)) ⟨pc, old, aw, sv, it⟩ ((w.os.mono + w.tick : Nat) : Int)
      refine ⟨({ pc := .s1, old := old, aw := aw, sv := sv, it := it }, s), by simp [wmv], fun _ => ⟨_, _, _, stepG_nanotime rfl rfl (by k_ne) rfl Try.func86 x86_n x86_b x86_x x86_f x86_q, hs.later, Eff.later _, evW (by simp) (bk_nil (C := C) 1), afterT hP (by simp) (mS + 60) ?_⟩⟩
      have hF := hF.eff Ge (Eff.later w) hs.later
      generalize ((w.os.mono + w.tick : Nat) : Int) = tw at hS ⊢
      walk_nrm
      repeat (first | (exact goes_pad (hS _ _ _ _ _ _ _ _ _ _ _ _ _ _ _ _ _ _ _ _ _ _ _ _ _ _ _ _ _ _ _ _ _ _ _ _ _ _ _ _ _ _ _ _ _ _ _ _ _ _ _ _ _ _ _ _ _ _ _ _ _ _ _ _ _ _ _ _ _ _ _ _ _ _ _ _ _ _ _ _ _ _ _ _ _ _ _ _ _ _ _ _ _ _ _ _ _ _ _ _ _ _ _ _ _ _ _ _ _ _ _ _ _ _ _ _ _ _ _ _ _ _ _ _ _ _ _ _ _ _ _ _ _ _ hF) _) | w_go KW.rely)
    · obtain ⟨mS, hS⟩ := s1Go hP Ge hT k' (fun k'' hlt => ih k'' (by omega)) ⟨pc, old, aw, sv, it⟩ wst
      have e6 : (wst != 0) = true := by simpa using hw
      have e7 : (wst == 0) = false := by simpa using hw
      refine ⟨({ pc := .s1, old := old, aw := aw, sv := sv, it := it }, { s with mu := nw }), by simp [wmv, hm, hfree, hnw'], fun _ => ⟨_, _, _, stepG_cas_hit rfl rfl (by k_ne) rfl Try.func79 x79_n x79_b x79_x .i32 x79_f rfl rfl rfl (hm ▸ hs.muC) (hs.onThaw 1), hs', Eff.set _ _ (.inl rfl), evW (by simp) (bk_rw (C := C) 0 (muA C.tp.On) (.inl rfl)), afterT hP (by simp) (mS + 90) ?_⟩⟩
      have hF := hF.eff Ge (Eff.set _ _ (.inl rfl)) hs'
      clear hs' hnw'
      walk_nrm
      repeat (first | (exact goes_pad (hS _ _ _ _ _ _ _ _ _ _ _ _ _ _ _ _ _ _ _ _ _ _ _ _ _ _ _ _ _ _ _ _ _ _ _ _ _ _ _ _ _ _ _ _ _ _ _ _ _ _ _ _ _ _ _ _ _ _ _ _ _ _ _ _ _ _ _ _ _ _ _ _ _ _ _ _ _ _ _ _ _ _ _ _ _ _ _ _ _ _ _ _ _ _ _ _ _ _ _ _ _ _ _ _ _ _ _ _ _ _ _ _ _ _ _ _ _ _ _ _ _ _ _ _ _ _ _ _ _ _ _ _ _ _ hF) _) | w_go KW.rely | simp only [e5, e6, e7])
  · refine ⟨({ pc := .r3, old := old, aw := aw, sv := sv, it := it }, s), by simp [wmv, hm], fun _ => ⟨_, _, _, stepG_cas_miss rfl rfl (by k_ne) rfl Try.func79 x79_n x79_b x79_x .i32 x79_f rfl rfl rfl hs.muC (hs.onThaw 1) (fun e => hm (muZ_inj e)), hs, Eff.refl _, evW (by simp) (bk_one (C := C) 0 (muA C.tp.On) false (.inl rfl)), afterT hP (by simp) 60 ?_⟩⟩
    walk_nrm
    repeat w_go KW.rely
    -- STOP r3
    refine at_stop hF fun k2 w hk2 hF => stpWay hP rfl (by simp) rfl (by simp [Th.wakes]) fun s hs hsm => ?_
    refine ⟨(Crew.hd { pc := .r3, old := s.mu, aw := aw, sv := sv, it := it }, s), by simp [wmv], fun hb => ?_⟩
    obtain ⟨mH, hH⟩ := ih k2 (by omega) { pc := .r3, old := s.mu, aw := aw, sv := sv, it := it } wst hsm.n hit hb
    have hq := hd_deaf _ hb
    refine ⟨_, _, _, stepG_loadQ rfl rfl (by k_ne) rfl rfl hs.muC q80, hs, Eff.refl _, evW (by simp) (by rw [hq.1]; exact bk_nil (C := C) 1), afterT hP hq.2 (mH + 60) ?_⟩
    walk_nrm
    repeat w_nl KW.rely
    u_c stepG_inLoop KW.rely hF
    exact goes_pad (hH _ _ _ _ _ _ _ _ _ _ _ _ _ _ _ _ _ _ _ _ _ _ _ _ _ _ _ _ _ _ _ _ _ _ _ _ _ _ _ _ _ _ _ _ _ _ _ _ _ _ _ _ _ _ _ _ _ _ _ _ _ _ _ _ _ _ _ _ _ _ _ _ _ _ _ _ _ _ _ _ _ _ _ _ _ _ _ _ _ _ _ _ _ _ _ _ _ _ _ _ _ _ _ _ _ _ _ _ _ _ _ _ _ _ _ _ _ _ _ _ _ _ _ _ _ _ _ _ _ _ _ _ _ _ hF) _
end
end Go.Proofs.Ytpkiojchlficcaa.Crew
