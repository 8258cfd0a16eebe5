/- The walks: Once.Do: o1; on | ld .. la, o2; ur .. | cl, st, ur .. -/
import Derived.Test.YtpkiojchlficcaaLk
import Derived.Test.YtpkiojchlficcaaOn0
namespace Go.Proofs.Ytpkiojchlficcaa.Crew
open Go Go.Conc Go.ConcN Go.RowKit Go.Conc.Lib Go.ConcR.Gen
open Go.ConcM (OsLater goes_pad goes_le)
open Go.ConcR (KK wgBlock WgAt stA smA rd wr mk DC0)
section
variable {C : Cf} {W w : World}
/-- A variable that is none of the five keeps what it held. -/
theorem KW.cell (h : KW C W w) {b o : Nat} (hb : ¬ Five C b) : w.cell? ⟨b, o, Option.none⟩ = W.cell? ⟨b, o, Option.none⟩ := by simp only [World.cell?, h.rx.block b hb]
/-- A variable that may be read in the phase. -/
structure Var (C : Cf) (W : World) (b : Nat) (v : Value) : Prop where
  not : ¬ Five C b
  shun : ¬ C.tp.Shun (.cell ⟨b, 0, Option.none⟩)
  low : b < C.B
  at0 : W.cell? ⟨b, 0, Option.none⟩ = some v
theorem Var.cell {b : Nat} {v : Value} (x : Var C W b v) (h : KW C W w) : w.cell? ⟨b, 0, Option.none⟩ = some v := (h.cell x.not).trans x.at0
theorem Var.dx {b : Nat} {v : Value} (x : Var C W b v) {h : Option Nat} : DX C h false w w #[⟨.cell ⟨b, 0, Option.none⟩, false, false⟩] := dx_load _ x.not x.shun x.low rfl
theorem loud42 : (Try.prog.funcs[(base 42).fn]?).any (·.norace) = false := by kernel_rfl
end
section
variable [Cap] {C : Cf} {W : World} {Sv : Nat}
variable {b₀ : Frame} {a₀ : Act} {ops₀ : Array Oper} {i₀ : Nat} {rest₀ : List Nat} {k₀ : List Item} {cs : List Frame}
noncomputable def body41 : Code := Try.f41.body.getD .skip
set_option maxRecDepth 100000 in
set_option maxHeartbeats 16000000 in
/-- ████ Once.Do, of the function that closes the channel to stop. ████ -/
theorem onceGo (hP : C.P = Try.prog) (Ge : Geo C) (hSv : Var C W Sv (.chan (some C.tp.St))) (hT : ∀ k', ∃ m M, ∀ w, KW C W w → GO C k' (at_ .sel) m M (G (b₀.at (a₀.put ((ops₀[i₀]?).bind (·.dst)) (.tuple #[])) (.inRegion ops₀ rest₀ :: k₀)) cs) w) :
    ∀ k w, KW C W w → GD C k (at_ .o1) 60 (G ((base 41).at ⟨#[.pointer (some ⟨C.tp.On, 0, Option.none⟩), .func (.func 42) #[] #[.pointer (some ⟨Sv, 0, Option.none⟩)], undef, undef, undef, undef, undef, undef, undef, undef, undef, undef], []⟩ [.code body41]) (b₀.at a₀ (.inRegion ops₀ (i₀ :: rest₀) :: k₀) :: cs)) w := by
  intro k w hF
  simp only [body41, Try.f41, Option.getD_some]
  repeat w_go KW.rely
  u_call Try.func59 nm59 Try.f59 KW.rely hF
  repeat w_go KW.rely
  -- STOP o1
  refine at_stop hF fun k w hk hF => stpWay hP rfl (by simp) rfl (by simp [Th.wakes]) fun s hs hsm => ?_
  have hc := hs.dnC
  cases hd : s.dn with
  | true =>
    rw [hd] at hc
    replace hc : w.cell? (dnA C.tp.On) = some (.int .u32 1) := hc
    obtain ⟨mT, MT, hT'⟩ := hT k
    refine ⟨(at_ .sel, s), by simp [wmv, hd], fun _ => ⟨_, _, _, stepG_load_atomic rfl rfl (by k_ne) rfl Try.func70 x70_n x70_b x70_x .u32 x70_f rfl hc, hs, Eff.refl _, evW0 (by simp) rfl ⟨fun e he => by simp at he; subst he; exact sy_cell (.inl rfl) _, rfl⟩, afterOdd hP (by simp) (mT + 60) MT ?_⟩⟩
    clear hc
    walk_nrm
    repeat w_go KW.rely
    u_leave1 Try.func59 KW.rely hF
    repeat w_go KW.rely
    u_leave0 Try.func41 KW.rely hF
    exact goes_pad (hT' _ hF) _
  | false =>
    rw [hd] at hc
    replace hc : w.cell? (dnA C.tp.On) = some (.int .u32 0) := hc
    refine ⟨(at_ .ld, s), by simp [wmv, hd], fun _ => ⟨_, _, _, stepG_load_atomic rfl rfl (by k_ne) rfl Try.func70 x70_n x70_b x70_x .u32 x70_f rfl hc, hs, Eff.refl _, evW0 (by simp) rfl ⟨fun e he => by simp at he; subst he; exact sy_cell (.inl rfl) _, rfl⟩, afterT hP (by simp) 160 ?_⟩⟩
    clear hc
    walk_nrm
    repeat w_go KW.rely
    u_leave1 Try.func59 KW.rely hF
    repeat w_go KW.rely
    u_call Try.func60 nm60 Try.f60 KW.rely hF
    repeat w_go KW.rely
    u_call Try.func71 nm71 Try.f71 KW.rely hF
    repeat w_go KW.rely
    u_call Try.func75 nm75 Try.f75 KW.rely hF
    refine goes_le (by omega) (lockGo hP Ge ?_ k _ hF)
    clear hF hk hs hsm hd
    -- BEHIND Lock
    intro k
    refine ⟨120, fun w hF => ?_⟩
    walk_nrm
    repeat w_go KW.rely
    u_leave0 Try.func71 KW.rely hF
    repeat w_go KW.rely
    u_defer KW.rely hF
    repeat w_go KW.rely
    u_call Try.func59 nm59 Try.f59 KW.rely hF
    repeat w_go KW.rely
    -- STOP o2
    refine at_stop hF fun k w hk hF => stpWay hP rfl (by simp) rfl (by simp [Th.wakes]) fun s hs hsm => ?_
    have hc := hs.dnC
    cases hd : s.dn with
    | true =>
      rw [hd] at hc
      replace hc : w.cell? (dnA C.tp.On) = some (.int .u32 1) := hc
      refine ⟨(at_ .ur, s), by simp [wmv, hd], fun _ => ⟨_, _, _, stepG_load_atomic rfl rfl (by k_ne) rfl Try.func70 x70_n x70_b x70_x .u32 x70_f rfl hc, hs, Eff.refl _, evW0 (by simp) rfl ⟨fun e he => by simp at he; subst he; exact sy_cell (.inl rfl) _, rfl⟩, afterT hP (by simp) 160 ?_⟩⟩
      clear hc
      walk_nrm
      repeat w_go KW.rely
      u_leave1 Try.func59 KW.rely hF
      repeat w_go KW.rely
      u_in KW.rely hF
      rw [stepG_unwind_enter rfl Try.func72 nm72 rfl]
      simp only [goes_go]
      refine ⟨by u_nil, ?_⟩
      walk_nrmf Try.f72
      refine goes_le (by omega) (unlockD hP Ge rfl ?_ k _ hF)
      clear hF hk hs hsm hd
      intro k
      obtain ⟨mT, MT, hT'⟩ := hT k
      refine ⟨mT + 30, MT, fun w hF => ?_⟩
      u_leave0 Try.func60 KW.rely hF
      repeat w_go KW.rely
      u_leave0 Try.func41 KW.rely hF
      exact goes_pad (hT' _ hF) _
    | false =>
      rw [hd] at hc
      replace hc : w.cell? (dnA C.tp.On) = some (.int .u32 0) := hc
      refine ⟨(at_ .cl, s), by simp [wmv, hd], fun _ => ⟨_, _, _, stepG_load_atomic rfl rfl (by k_ne) rfl Try.func70 x70_n x70_b x70_x .u32 x70_f rfl hc, hs, Eff.refl _, evW0 (by simp) rfl ⟨fun e he => by simp at he; subst he; exact sy_cell (.inl rfl) _, rfl⟩, afterOdd hP (by simp) 120 20 ?_⟩⟩
      clear hc
      walk_nrm
      repeat w_go KW.rely
      u_leave1 Try.func59 KW.rely hF
      repeat w_go KW.rely
      u_defer KW.rely hF
      repeat w_go KW.rely
      u_in KW.rely hF
      refine goes_callv rfl rfl (by k_ne) rfl rfl Try.func42 nm42 rfl ⟨by u_nil, ?_⟩
      walk_nrmf Try.f42
      repeat w_go KW.rely
      -- ODD: the variable that holds the channel to stop
      refine Goes.stop (fun w₁ r₁ => ?_)
      have hF := hF.rely r₁
      clear r₁
      refine ⟨rfl, _, _, _, stepG_loadChan 57 (.inr rfl) rfl rfl (by k_ne) rfl rfl (hSv.cell hF) loud42, hSv.dx, ?_⟩
      refine goes_mono (D := DC0) (fun _ _ _ x => dx_of_dc0 x) (fun _ _ x => x) ?_
      clear hk hs hsm hd
      walk_nrm
      repeat w_go KW.rely
      -- STOP cl
      refine at_stop hF fun k w hk hF => stpWay hP rfl (by simp) rfl (fun _ => mayWake_close rfl rfl) fun s hs hsm => ?_
      by_cases hsc : s.sc = true
      · exact ⟨(at_ .bad, s), by simp [wmv, hsc], fun h => absurd rfl h⟩
      have hsc : s.sc = false := by simpa using hsc
      have hst := hs.st
      rw [hsc] at hst
      have hs' := hs.shutSt Ge
      refine ⟨(at_ .st, { s with sc := true }), by simp [wmv, hsc], fun _ => ⟨_, _, _, stepG_close rfl rfl (by k_ne) rfl rfl hst loud42, hs', Eff.setChan _ _ _ _ _ _ _ (.inr rfl), evW0 (by simp) rfl ⟨sy_close (.inr rfl), rfl⟩, afterOdd hP (by simp) 60 60 ?_⟩⟩
      have hF := hF.eff Ge (Eff.setChan _ _ _ _ _ _ _ (.inr rfl)) hs'
      clear hs' hst hk hs hsm hsc
      walk_nrm
      repeat w_go KW.rely
      u_leave0 Try.func42 KW.rely hF
      repeat w_go KW.rely
      u_in KW.rely hF
      rw [stepG_unwind_enter rfl Try.func73 nm73 rfl]
      simp only [goes_go]
      refine ⟨by u_nil, ?_⟩
      walk_nrmf Try.f73
      refine goes_le (by omega) (storeD hP Ge rfl ?_ k _ hF)
      clear hF
      intro k
      refine ⟨80, fun w hF => ?_⟩
      u_in KW.rely hF
      rw [stepG_unwind_enter rfl Try.func72 nm72 rfl]
      simp only [goes_go]
      refine ⟨by u_nil, ?_⟩
      walk_nrmf Try.f72
      refine goes_le (by omega) (unlockD hP Ge rfl ?_ k _ hF)
      clear hF
      intro k
      obtain ⟨mT, MT, hT'⟩ := hT k
      refine ⟨mT + 30, MT, fun w hF => ?_⟩
      u_leave0 Try.func60 KW.rely hF
      repeat w_go KW.rely
      u_leave0 Try.func41 KW.rely hF
      exact goes_pad (hT' _ hF) _
end
end Go.Proofs.Ytpkiojchlficcaa.Crew
