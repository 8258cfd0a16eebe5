/- The walks: Mutex.Unlock, by whoever holds the Once's lock: ur, ud, u0; then ue; or unlockSlow: uc, ux, us, ue. -/
import Derived.Test.YtpkiojchlficcaaUs
import Derived.Test.YtpkiojchlficcaaOdd
namespace Go.Proofs.Ytpkiojchlficcaa.Crew
open Go Go.Conc Go.ConcN Go.RowKit Go.Conc.Lib Go.ConcR.Gen
open Go.ConcM (OsLater goes_pad goes_le)
open Go.ConcR (KK wgBlock WgAt stA smA rd wr mk DC0)
section
variable [Cap] {C : Cf} {W : World}
variable {b₀ : Frame} {a₀ : Act} {ops₀ : Array Oper} {i₀ : Nat} {rest₀ : List Nat} {k₀ : List Item} {cs : List Frame}
noncomputable def body76 : Code := Try.f76.body.getD .skip

set_option maxRecDepth 100000 in
set_option maxHeartbeats 4000000 in
theorem unlockGo (hP : C.P = Try.prog) (Ge : Geo C) (hT : ∀ k', ∃ m M, ∀ w, KW C W w → GO C k' (at_ .sel) m M (G (b₀.at (a₀.put ((ops₀[i₀]?).bind (·.dst)) (.tuple #[])) (.inRegion ops₀ rest₀ :: k₀)) cs) w) :
    ∀ k w, KW C W w → GD C k (at_ .ur) 40 (G ((base 76).at ⟨#[.pointer (some ⟨C.tp.On, 1, Option.none⟩), undef, undef, undef, undef, undef, undef, undef, undef, undef, undef, undef, undef, undef, undef, undef, undef, undef, undef, undef, undef], []⟩ [.code body76]) (b₀.at a₀ (.inRegion ops₀ (i₀ :: rest₀) :: k₀) :: cs)) w := by
  intro k w hF
  simp only [body76, Try.f76, Option.getD_some]
  repeat w_go KW.rely
  -- '_ = m.state'
  u_in KW.rely hF
  obtain ⟨x0, hx0⟩ := hF.muI
  rw [stepG_loadQ rfl rfl (by k_ne) rfl rfl hx0 q76]
  simp only [goes_go]
  refine ⟨by u_nil, ?_⟩
  clear hx0
  walk_nrm
  repeat w_go KW.rely
  m_convG Try.prog wgLib.underlying_tUP u110 z65 hF.mu.choose_spec KW.rely hF
  refine at_stop hF fun k w hk hF => stpWay hP rfl (by simp) rfl (by simp [Th.wakes]) fun s hs _ => ⟨(at_ .ud, s), by simp [wmv], fun _ => ⟨_, _, _, stepG_markAt .releaseMerge (by simp) rfl rfl (by k_ne) rfl wgLib.f_relMerge (x_relMerge_n lk) (x_relMerge_b lk) (x_relMerge_x lk) (x_relMerge_f lk) (by simp [Act.eval]; rfl), hs, Eff.refl _, evW (by simp) (bk_rel (C := C) 0), afterT hP (by simp) 30 ?_⟩⟩
  walk_nrm
  repeat w_go KW.rely
  refine at_stop hF fun k w hk hF => stpWay hP rfl (by simp) rfl (by simp [Th.wakes]) fun s hs _ => ⟨(at_ .u0, s), by simp [wmv], fun _ => ⟨_, _, _, stepG_mark0 .disable (by simp) rfl rfl (by k_ne) rfl wgLib.f_disable (x_disable_n lk) (x_disable_b lk) (x_disable_x lk) (x_disable_f lk), hs, Eff.refl _, evW (by simp) (bk_dis (C := C) 0), afterT hP (by simp) 30 ?_⟩⟩
  walk_nrm
  repeat w_go KW.rely
  refine at_stop hF fun k w hk hF => stpWay hP rfl (by simp) rfl (by simp [Th.wakes]) fun s hs hsm => ?_
  by_cases hl : s.mu.l = false
  · exact ⟨(at_ .bad, s), by simp [wmv, hl], fun h => absurd rfl h⟩
  have hl : s.mu.l = true := by simpa using hl
  have hz := z_unl (m := s.mu) (by have := hsm.n; omega) hl
  have hmn : ({ s.mu with l := false } : Wd).n ≤ 16 := hsm.n
  have hml : ({ s.mu with l := false } : Wd).l = false := rfl
  have hs' := hs.setMu Ge hz
  have hmem : ((if s.mu.s then at_ .us else uck { s.mu with l := false }), { s with mu := { s.mu with l := false } }) ∈ wmv (at_ .u0) s := by simp [wmv, hl]
  have hst : s.mu.s = ({ s.mu with l := false } : Wd).s := rfl
  rw [hst] at hmem
  generalize ({ s.mu with l := false } : Wd) = m at hz hmn hml hs' hmem
  have hd : (if m.s then at_ .us else uck m).deaf = 1 ∧ (if m.s then at_ .us else uck m).pc ≠ .quit := by
    unfold uck; split
    · simp [Th.deaf]
    · split <;> simp [Th.deaf]
  refine ⟨_, hmem, fun _ => ⟨_, _, _, stepG_add_atomic rfl rfl (by k_ne) rfl Try.func81 x81_n x81_b x81_x .i32 x81_f rfl rfl hs.muC (hs.onThaw 1), hs', Eff.set _ _ (.inl rfl), evW (by simp) (by show BookC C 1 _ _; rw [hd.1]; exact bk_rw (C := C) 0 (muA C.tp.On) (.inl rfl)), ?_⟩⟩
  replace hF := hF.eff Ge (Eff.set (muA C.tp.On) (.int .i32 (IntKind.i32.wrap (muZ s.mu + -1))) (.inl rfl)) hs'
  simp only [hz] at hF ⊢
  clear hz hs' hmem hst hs
  refine afterT hP hd.2 260 ?_
  walk_nrm
  repeat w_go KW.rely
  by_cases h0 : muZ m = 0
  · obtain rfl : m = {} := muZ_inj (by rw [h0]; rfl)
    have e0 : (muZ {} != 0) = false := by rw [h0]; rfl
    simp only [e0]
    show Goes _ _ _ _ (WK C k (at_ .ue)) _ _ _
    clear h0
    repeat w_go KW.rely
    refine at_stop hF fun k w hk hF => stpWay hP rfl (by simp) rfl (by simp [Th.wakes]) fun s hs _ => ?_
    obtain ⟨mT, MT, hT'⟩ := hT k
    refine ⟨(at_ .sel, s), by simp [wmv], fun _ => ⟨_, _, _, stepG_mark0 .enable (by simp) rfl rfl (by k_ne) rfl wgLib.f_enable (x_enable_n lk) (x_enable_b lk) (x_enable_x lk) (x_enable_f lk), hs, Eff.refl _, evW (by simp) (bk_en (C := C) 0), afterOdd hP (by simp) (mT + 20) MT ?_⟩⟩
    walk_nrm
    repeat w_go KW.rely
    u_leave0 Try.func76 KW.rely hF
    exact goes_pad (hT' _ hF) _
  have e0 : (muZ m != 0) = true := by simpa using h0
  simp only [e0]
  repeat w_go KW.rely
  u_call Try.func82 nm82 Try.f82 KW.rely hF
  refine goes_le (by omega) (slowU hP Ge ?_ m hmn hml k _ hF)
  clear hF
  intro k' w hF
  walk_nrm
  repeat w_go KW.rely
  refine at_stop hF fun k w hk hF => stpWay hP rfl (by simp) rfl (by simp [Th.wakes]) fun s hs _ => ?_
  obtain ⟨mT, MT, hT'⟩ := hT k
  refine ⟨(at_ .sel, s), by simp [wmv], fun _ => ⟨_, _, _, stepG_mark0 .enable (by simp) rfl rfl (by k_ne) rfl wgLib.f_enable (x_enable_n lk) (x_enable_b lk) (x_enable_x lk) (x_enable_f lk), hs, Eff.refl _, evW (by simp) (bk_en (C := C) 0), afterOdd hP (by simp) (mT + 20) MT ?_⟩⟩
  walk_nrm
  repeat w_go KW.rely
  u_leave0 Try.func76 KW.rely hF
  exact goes_pad (hT' _ hF) _
end
end Go.Proofs.Ytpkiojchlficcaa.Crew
