/- The walks: Mutex.Lock: ld, l0; le, la | the slow way. -/
import Derived.Test.YtpkiojchlficcaaL6
set_option linter.unusedSimpArgs false
namespace Go.Proofs.Ytpkiojchlficcaa.Crew
open Go Go.Conc Go.ConcN Go.RowKit Go.Conc.Lib Go.ConcR.Gen
open Go.ConcM (OsLater goes_pad goes_le)
open Go.ConcR (KK wgBlock WgAt stA smA rd wr mk DC0)
section
variable [Cap] {C : Cf} {W : World}
variable {b₁ : Frame} {a₁ : Act} {ops₁ : Array Oper} {i₁ : Nat} {rest₁ : List Nat} {k₁ : List Item} {cs₁ : List Frame}

set_option maxRecDepth 100000 in
set_option maxHeartbeats 16000000 in
/-- lockSlow, from its entry. -/
theorem slowGo (hP : C.P = Try.prog) (Ge : Geo C) (hT : ∀ k', ∃ m, ∀ w, KW C W w → GD C k' (at_ .o2) m (G (b₁.at (a₁.put ((ops₁[i₁]?).bind (·.dst)) (.tuple #[])) (.inRegion ops₁ rest₁ :: k₁)) cs₁) w) (k : Nat) (w : World) (hF : KW C W w) : GD C k (at_ .r0) 60 (G ((base 80).at ⟨#[.pointer (some ⟨C.tp.On, 1, Option.none⟩), undef, undef, undef, undef, undef, undef, undef, undef, undef, undef, undef, undef, undef, undef, undef, undef, undef, undef, undef, undef, undef, undef, undef, undef, undef, undef, undef, undef, undef, undef, undef, undef, undef, undef, undef, undef, undef, undef, undef, undef, undef, undef, undef, undef, undef, undef, undef, undef, undef, undef, undef, undef, undef, undef, undef, undef, undef, undef, undef, undef, undef, undef, undef, undef, undef, undef, undef, undef, undef, undef, undef, undef, undef, undef, undef, undef, undef, undef, undef, undef, undef, undef, undef, undef, undef, undef, undef, undef, undef, undef, undef, undef, undef, undef, undef, undef, undef, undef, undef, undef, undef, undef, undef, undef, undef, undef, undef, undef, undef, undef, undef, undef, undef, undef, undef, undef, undef, undef, undef, undef, undef, undef, undef, undef, undef, undef, undef, undef, undef, undef, undef, undef, undef, undef, undef, undef, undef, undef], []⟩ [.code body80]) (b₁.at a₁ (.inRegion ops₁ (i₁ :: rest₁) :: k₁) :: cs₁)) w := by
  have ih := headGo hP Ge hT
  clear hT
  simp only [body80, Try.f80, Option.getD_some]
  repeat w_go KW.rely
  refine at_stop hF fun k' w hk' hF => stpWay hP rfl (by simp) rfl (by simp [Th.wakes]) fun s hs hsm => ?_
  refine ⟨(Crew.hd { pc := .r0, old := s.mu }, s), by simp [wmv], fun hb => ?_⟩
  obtain ⟨mH, hH⟩ := ih k' { pc := .r0, old := s.mu } 0 hsm.n (by simp) hb
  have hq := hd_deaf _ hb
  refine ⟨_, _, _, stepG_loadQ rfl rfl (by k_ne) rfl rfl hs.muC q80, hs, Eff.refl _, evW (by simp) (by rw [hq.1]; exact bk_nil (C := C) 1), afterT hP hq.2 (mH + 60) ?_⟩
  clear ih
  walk_nrm
  repeat w_but "code.loop" KW.rely
  u_c stepG_loop KW.rely hF
  exact goes_pad (hH _ _ _ _ _ _ _ _ _ _ _ _ _ _ _ _ _ _ _ _ _ _ _ _ _ _ _ _ _ _ _ _ _ _ _ _ _ _ _ _ _ _ _ _ _ _ _ _ _ _ _ _ _ _ _ _ _ _ _ _ _ _ _ _ _ _ _ _ _ _ _ _ _ _ _ _ _ _ _ _ _ _ _ _ _ _ _ _ _ _ _ _ _ _ _ _ _ _ _ _ _ _ _ _ _ _ _ _ _ _ _ _ _ _ _ _ _ _ _ _ _ _ _ _ _ _ _ _ _ _ _ _ _ _ hF) _
end
section
variable [Cap] {C : Cf} {W : World}
variable {b₀ : Frame} {a₀ : Act} {ops₀ : Array Oper} {i₀ : Nat} {rest₀ : List Nat} {k₀ : List Item} {cs : List Frame}
noncomputable def body75 : Code := Try.f75.body.getD .skip
set_option maxRecDepth 100000 in
set_option maxHeartbeats 16000000 in
/-- ████ Mutex.Lock. ████ -/
theorem lockGo (hP : C.P = Try.prog) (Ge : Geo C) (hT : ∀ k', ∃ m, ∀ w, KW C W w → GD C k' (at_ .o2) m (G (b₀.at (a₀.put ((ops₀[i₀]?).bind (·.dst)) (.tuple #[])) (.inRegion ops₀ rest₀ :: k₀)) cs) w) :
    ∀ k w, KW C W w → GD C k (at_ .ld) 40 (G ((base 75).at ⟨#[.pointer (some ⟨C.tp.On, 1, Option.none⟩), undef, undef, undef, undef, undef, undef, undef, undef, undef, undef, undef, undef], []⟩ [.code body75]) (b₀.at a₀ (.inRegion ops₀ (i₀ :: rest₀) :: k₀) :: cs)) w := by
  intro k w hF
  simp only [body75, Try.f75, Option.getD_some]
  repeat w_go KW.rely
  refine at_stop hF fun k w hk hF => stpWay hP rfl (by simp) rfl (by simp [Th.wakes]) fun s hs _ => ⟨(at_ .l0, s), by simp [wmv], fun _ => ⟨_, _, _, stepG_mark0 .disable (by simp) rfl rfl (by k_ne) rfl wgLib.f_disable (x_disable_n lk) (x_disable_b lk) (x_disable_x lk) (x_disable_f lk), hs, Eff.refl _, evW (by simp) (bk_dis (C := C) 0), afterT hP (by simp) 30 ?_⟩⟩
  walk_nrm
  repeat w_go KW.rely
  refine at_stop hF fun k w hk hF => stpWay hP rfl (by simp) rfl (by simp [Th.wakes]) fun s hs _ => ?_
  by_cases h0 : s.mu = {}
  · have hs' := hs.setMu Ge (m := { l := true }) (z := 1) rfl
    refine ⟨(at_ .le, { s with mu := { l := true } }), by simp [wmv, h0], fun _ => ⟨_, _, _, stepG_cas_hit rfl rfl (by k_ne) rfl Try.func79 x79_n x79_b x79_x .i32 x79_f rfl rfl rfl (by have := hs.muC; rw [h0] at this; exact this) (hs.onThaw 1), hs', Eff.set _ _ (.inl rfl), evW (by simp) (bk_rw (C := C) 0 (muA C.tp.On) (.inl rfl)), afterT hP (by simp) 30 ?_⟩⟩
    have hF := hF.eff Ge (Eff.set _ _ (.inl rfl)) hs'
    clear hs'
    walk_nrm
    repeat w_go KW.rely
    refine at_stop hF fun k w hk hF => stpWay hP rfl (by simp) rfl (by simp [Th.wakes]) fun s hs _ => ⟨(at_ .la, s), by simp [wmv], fun _ => ⟨_, _, _, stepG_mark0 .enable (by simp) rfl rfl (by k_ne) rfl wgLib.f_enable (x_enable_n lk) (x_enable_b lk) (x_enable_x lk) (x_enable_f lk), hs, Eff.refl _, evW (by simp) (bk_en (C := C) 0), afterT hP (by simp) 30 ?_⟩⟩
    walk_nrm
    repeat w_go KW.rely
    m_convG Try.prog wgLib.underlying_tUP u110 z65 hF.mu.choose_spec KW.rely hF
    refine at_stop hF fun k w hk hF => stpWay hP rfl (by simp) rfl (by simp [Th.wakes]) fun s hs _ => ?_
    obtain ⟨mT, hT'⟩ := hT k
    refine ⟨(at_ .o2, s), by simp [wmv], fun _ => ⟨_, _, _, stepG_markAt .acquire (by simp) rfl rfl (by k_ne) rfl wgLib.f_acquire (x_acquire_n lk) (x_acquire_b lk) (x_acquire_x lk) (x_acquire_f lk) (by simp [Act.eval]; rfl), hs, Eff.refl _, evW (by simp) (bk_acq (C := C) 0), afterT hP (by simp) (mT + 20) ?_⟩⟩
    walk_nrm
    repeat w_go KW.rely
    u_leave0 Try.func75 KW.rely hF
    exact goes_pad (hT' _ hF) _
  · have hz : muZ s.mu ≠ 0 := fun e => h0 (muZ_inj (e.trans (by rfl)))
    refine ⟨(at_ .r0, s), by simp [wmv, h0], fun _ => ⟨_, _, _, stepG_cas_miss rfl rfl (by k_ne) rfl Try.func79 x79_n x79_b x79_x .i32 x79_f rfl rfl rfl hs.muC (hs.onThaw 1) hz, hs, Eff.refl _, evW (by simp) (bk_one (C := C) 0 (muA C.tp.On) false (.inl rfl)), afterT hP (by simp) 100 ?_⟩⟩
    clear hz
    walk_nrm
    repeat w_go KW.rely
    u_call Try.func80 nm80 Try.f80 KW.rely hF
    refine goes_le (by omega) (slowGo hP Ge ?_ k _ hF)
    clear hF
    intro k'
    obtain ⟨mT, hT'⟩ := hT k'
    refine ⟨mT + 20, fun w hF => ?_⟩
    walk_nrm
    repeat w_go KW.rely
    u_leave0 Try.func75 KW.rely hF
    exact goes_pad (hT' _ hF) _
end
end Go.Proofs.Ytpkiojchlficcaa.Crew
