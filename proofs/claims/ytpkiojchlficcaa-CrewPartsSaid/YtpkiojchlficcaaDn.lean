/- The walks: the worker's deferred wg.Done(): wr, wk, d1; then it leaves, or d2, d3, d4 and it leaves. -/
import Derived.Test.YtpkiojchlficcaaGround
set_option linter.unusedSimpArgs false
namespace Go.Proofs.Ytpkiojchlficcaa.Crew
open Go Go.Conc Go.ConcN Go.RowKit Go.Conc.Lib Go.ConcR.Gen
open Go.ConcM (OsLater goes_pad goes_le)
open Go.ConcR (KK wgBlock WgAt stA smA rd wr mk DC0)
/-- More fuel does no harm. -/
theorem quitsD_more {P : Program} : ∀ {n d : Nat} {g : Goroutine}, QuitsD P n d g → QuitsD P (n + 1) d g
  | 0, _, _, h => .inl h
  | _ + 1, _, _, .inl h => .inl h
  | _ + 1, _, _, .inr ⟨hr, g', es, hm, hs, hq⟩ => .inr ⟨hr, g', es, hm, hs, quitsD_more hq⟩
theorem quitsD_le {P : Program} {n n' d : Nat} {g : Goroutine} (h : n ≤ n') (x : QuitsD P n d g) : QuitsD P n' d g := by
  obtain ⟨r, rfl⟩ := Nat.exists_eq_add_of_le h
  induction r with
  | zero => exact x
  | succ r ih => exact quitsD_more (ih (Nat.le_add_right _ _))
theorem wgZ_lo (c : Nat) (v : Bool) : 0 ≤ wgZ c v := by unfold wgZ bz; split <;> omega
theorem wgZ_div (c : Nat) (v : Bool) : wgZ c v / 4294967296 = (c : Int) := by unfold wgZ bz; split <;> omega
theorem wg_lo_all : ∀ (i : Fin 18) (v : Bool), bits .and .u64 (wgZ i.1 v) 2147483647 = bz v := by decide
theorem wg_hi_all : ∀ (i : Fin 18) (v : Bool), bits .and .u64 (wgZ i.1 v) 2147483648 = 0 := by decide
theorem wg_lo {c : Nat} (h : c ≤ 17) (v : Bool) : bits .and .u64 (wgZ c v) 2147483647 = bz v := wg_lo_all ⟨c, by omega⟩ v
theorem wg_hi {c : Nat} (h : c ≤ 17) (v : Bool) : bits .and .u64 (wgZ c v) 2147483648 = 0 := wg_hi_all ⟨c, by omega⟩ v
theorem wg_dec {c : Nat} (h : c ≤ 17) (h0 : c ≠ 0) (v : Bool) : IntKind.u64.wrap (wgZ c v + 18446744069414584320) = wgZ (c - 1) v := by
  rw [IntKind.wrap_u64]; unfold wgZ bz; split <;> omega
theorem wg_inc {c : Nat} (h : c ≤ 17) (v : Bool) : IntKind.u64.wrap (wgZ c v + 4294967296) = wgZ (c + 1) v := by
  rw [IntKind.wrap_u64]; unfold wgZ bz; split <;> omega
section
variable [Cap] {C : Cf} {W : World} {c : Frame} {cs : List Frame} {qt : Nat}
noncomputable def body40 : Code := Try.f40.body.getD .skip
set_option maxRecDepth 100000 in
set_option maxHeartbeats 16000000 in
/-- ████ THE WORKER's DEFERRED wg.Done(). ████ -/
theorem doneGo (hP : C.P = Try.prog) (Ge : Geo C) (hcm : c.mode = .returning) (hT : QuitsD Try.prog qt 0 (G c cs)) :
    ∀ k w, KW C W w → GD C k (at_ .wr) 60 (G ((baseD 40).at ⟨#[.pointer (some ⟨C.tp.Wg, 0, Option.none⟩), undef, undef, undef], []⟩ [.code body40]) (c :: cs)) w := by
  intro k w hF
  simp only [body40, Try.f40, Option.getD_some]
  repeat w_go KW.rely
  u_call Try.func38 nm38 Try.f38 KW.rely hF
  repeat w_go KW.rely
  m_convG Try.prog wgLib.underlying_tUP wgLib.underlying_tWgP wgLib.room_tWg hF.wg.choose_spec KW.rely hF
  -- STOP wr
  refine at_stop hF fun k w hk hF => stpWay hP rfl (by simp) rfl (by simp [Th.wakes]) fun s hs _ => ⟨(at_ .wk, s), by simp [wmv], fun _ => ⟨_, _, _, stepG_markAt .releaseMerge (by simp) rfl rfl (by k_ne) rfl wgLib.f_relMerge (x_relMerge_n lk) (x_relMerge_b lk) (x_relMerge_x lk) (x_relMerge_f lk) (by simp [Act.eval]; rfl), hs, Eff.refl _, by unfold EvStopW; rw [if_pos rfl]; rfl, afterT hP (by simp) 30 ?_⟩⟩
  walk_nrm
  repeat w_go KW.rely
  -- STOP wk
  refine at_stop hF fun k w hk hF => stpWay hP rfl (by simp) rfl (by simp [Th.wakes]) fun s hs _ => ⟨(at_ .d1, s), by simp [wmv], fun _ => ⟨_, _, _, stepG_mark0 .disable (by simp) rfl rfl (by k_ne) rfl wgLib.f_disable (x_disable_n lk) (x_disable_b lk) (x_disable_x lk) (x_disable_f lk), hs, Eff.refl _, evW (by simp) (bk_dis (C := C) 0), afterT hP (by simp) 90 ?_⟩⟩
  walk_nrm
  repeat w_go KW.rely
  u_defer KW.rely hF
  repeat w_go KW.rely
  u_in KW.rely hF
  rw [stepG_entry_pure (.bool false) rfl rfl (by k_ne) rfl wgLib.f_inBubble (x_inBubble_n lk) (x_inBubble_b lk) (x_inBubble_x lk) (x_inBubble_f lk)]
  simp only [goes_go]
  refine ⟨by u_nil, ?_⟩
  walk_nrm
  repeat w_go KW.rely
  u_call Try.func53 nm53 Try.f53 KW.rely hF
  repeat w_go KW.rely
  m_num
  -- STOP d1
  refine at_stop hF fun k w hk hF => stpWay hP rfl (by simp) rfl (by simp [Th.wakes]) fun s hs hsm => ?_
  by_cases hc0 : s.c = 0
  · exact ⟨(at_ .bad, s), by simp [wmv, hc0], fun h => absurd rfl h⟩
  have hc16 := hsm.c
  have hz := wg_dec (c := s.c) (by omega) hc0 s.wv
  have hs' := hs.setWg Ge hz
  have e1 := wgZ_div (s.c - 1) s.wv
  have e2 := wg_lo (c := s.c - 1) (by omega) s.wv
  have e3 := wg_hi (c := s.c - 1) (by omega) s.wv
  have e5 : (((s.c - 1 : Nat) : Int) + 2147483648) % 4294967296 - 2147483648 = ((s.c - 1 : Nat) : Int) := by omega
  have e4 : decide (((s.c - 1 : Nat) : Int) < 0) = false := by simp
  have hz1 : (wgZ (s.c - 1) s.wv = 1) = (s.c = 1 ∧ s.wv = true) := by
    unfold wgZ bz; cases s.wv <;> simp <;> omega
  by_cases hA : s.c = 1 ∧ s.wv = true
  · -- THE GIVER WAITS ALREADY
    obtain ⟨hA1, hA2⟩ := hA
    have hz' : IntKind.u64.wrap (wgZ s.c s.wv + 18446744069414584320) = 1 := by rw [hz, hA1, hA2]; rfl
    refine ⟨(at_ .d2, { s with c := s.c - 1 }), by simp [wmv, hA1, hA2], fun _ => ⟨_, _, _, stepG_add_atomic rfl rfl (by k_ne) rfl wgLib.f_addU64 (x_addU64_n lk) (x_addU64_b lk) (x_addU64_x lk) .u64 (x_addU64_f lk) rfl rfl hs.wgC (hs.wgThaw 0), hs', Eff.set _ _ (.inr rfl), evW (by simp) (bk_rw (C := C) 0 (stA C.tp.Wg) (.inr rfl)), afterT hP (by simp) 140 ?_⟩⟩
    have hF := hF.eff Ge (Eff.set _ _ (.inr rfl)) hs'
    simp only [hz'] at hF ⊢
    clear hz hz' hs' e1 e2 e3 e4 e5 hz1 hc0 hc16
    walk_nrm
    repeat w_go KW.rely
    u_leave1 Try.func53 KW.rely hF
    repeat w_go KW.rely
    u_call Try.func55 nm55 Try.f55 KW.rely hF
    repeat w_go KW.rely
    -- STOP d2
    refine at_stop hF fun k w hk hF => stpWay hP rfl (by simp) rfl (by simp [Th.wakes]) fun s hs hsm => ?_
    by_cases h1 : s.c = 0 ∧ s.wv = true
    · have hc := hs.wgC
      rw [h1.1, h1.2] at hc
      replace hc : w.cell? (stA C.tp.Wg) = some (.int .u64 1) := hc
      refine ⟨(at_ .d3, s), by simp [wmv, h1], fun _ => ⟨_, _, _, stepG_load_atomic rfl rfl (by k_ne) rfl wgLib.f_loadU64 (x_loadU64_n lk) (x_loadU64_b lk) (x_loadU64_x lk) .u64 (x_loadU64_f lk) rfl hc, hs, Eff.refl _, evW (by simp) (bk_one (C := C) 0 (stA C.tp.Wg) false (.inr rfl)), afterT hP (by simp) 60 ?_⟩⟩
      clear hc h1
      walk_nrm
      repeat w_go KW.rely
      u_leave1 Try.func55 KW.rely hF
      repeat w_go KW.rely
      u_call Try.func56 nm56 Try.f56 KW.rely hF
      repeat w_go KW.rely
      -- STOP d3
      refine at_stop hF fun k w hk hF => stpWay hP rfl (by simp) rfl (by simp [Th.wakes]) fun s hs hsm => ?_
      have hs' := hs.setWg Ge (c := 0) (v := false) (z := 0) rfl
      refine ⟨(at_ .d4, { s with c := 0, wv := false }), by simp [wmv], fun _ => ⟨_, _, _, stepG_store_atomic rfl rfl (by k_ne) rfl wgLib.f_storeU64 (x_storeU64_n lk) (x_storeU64_b lk) (x_storeU64_x lk) (x_storeU64_f lk) rfl rfl hs.wgC (hs.wgThaw 0), hs', Eff.set _ _ (.inr rfl), evW (by simp) (bk_one (C := C) 0 (stA C.tp.Wg) true (.inr rfl)), afterT hP (by simp) 60 ?_⟩⟩
      have hF := hF.eff Ge (Eff.set _ _ (.inr rfl)) hs'
      clear hs'
      walk_nrm
      repeat w_go KW.rely
      u_leave0 Try.func56 KW.rely hF
      repeat w_go KW.rely
      -- STOP d4
      refine at_stop hF fun k w hk hF => stpWay hP rfl (by simp) rfl (fun _ => mayWake_entry rfl rfl wgLib.f_semrelease (x_semrelease_b lk)) fun s hs hsm => ?_
      have hw1 : IntKind.u32.wrap ((s.ws : Int) + 1) = ((s.ws + 1 : Nat) : Int) := by have := hsm.ws; rw [IntKind.wrap_u32]; omega
      refine ⟨(at_ .quit, { s with ws := s.ws + 1 }), by simp [wmv], fun _ => ⟨_, _, _, stepG_semrelease rfl rfl (by k_ne) rfl wgLib.f_semrelease (x_semrelease_n lk) (x_semrelease_b lk) (x_semrelease_x lk) (x_semrelease_f lk) (by simp [Act.eval]; rfl) hs.wsC (hs.wgThaw 1), hs.setWs Ge hw1, Eff.set _ _ (.inr rfl), evW (by simp) (bk_sem (C := C) 0 (smA C.tp.Wg) (.inr rfl)), ?_⟩⟩
      clear hw1
      unfold AfterW
      rw [if_pos rfl, hP]
      refine ⟨qt + 200, ?_⟩
      walk_nrm
      repeat (q_go; try q_fix)
      q_en wgLib lk
      q_leave0 Try.func38
      repeat (q_go; try q_fix)
      exact quitsD_le (by omega) (QuitsD.leaveD rfl rfl Try.func40 rfl hcm hT)
    · exact ⟨(at_ .bad, s), by simp [wmv, h1], fun h => absurd rfl h⟩
  · refine ⟨(at_ .quit, { s with c := s.c - 1 }), by simp [wmv, hA, hc0], fun _ => ⟨_, _, _, stepG_add_atomic rfl rfl (by k_ne) rfl wgLib.f_addU64 (x_addU64_n lk) (x_addU64_b lk) (x_addU64_x lk) .u64 (x_addU64_f lk) rfl rfl hs.wgC (hs.wgThaw 0), hs', Eff.set _ _ (.inr rfl), evW (by simp) (bk_rw (C := C) 0 (stA C.tp.Wg) (.inr rfl)), ?_⟩⟩
    unfold AfterW
    rw [if_pos rfl, hP]
    have hcv : (s.c - 1 ≠ 0) ∨ s.wv = false := by
      cases hv : s.wv
      · exact .inr rfl
      · left; intro h; exact hA ⟨by omega, hv⟩
    simp only [hz]
    clear hz hs' hz1 hc0 hc16 hA
    generalize wgZ (s.c - 1) s.wv = z at e1 e2 e3 ⊢
    have hcv' : decide (0 < ((s.c - 1 : Nat) : Int)) = true ∨ s.wv = false := by
      rcases hcv with h | h
      · left; simp; omega
      · exact .inr h
    clear hcv
    generalize ((s.c - 1 : Nat) : Int) = cz at e1 e4 e5 hcv'
    generalize s.wv = v at e2 hcv'
    have e6 : IntKind.i32.wrap cz = cz := by rw [IntKind.wrap_i32]; exact e5
    have e7 : IntKind.u32.wrap 0 = 0 := by decide
    have e8 : IntKind.u32.wrap 1 = 1 := by decide
    clear e5
    refine ⟨qt + 200, ?_⟩
    walk_nrm
    rcases Bool.eq_false_or_eq_true (decide (0 < cz)) with hp | hp
    · cases v with
      | false =>
        simp only [bz, Bool.false_eq_true, if_false] at e2
        repeat (q_go; try q_fix)
        q_leave1 Try.func53
        repeat (q_go; try q_fix)
        q_en wgLib lk
        q_leave0 Try.func38
        repeat (q_go; try q_fix)
        exact quitsD_le (by omega) (QuitsD.leaveD rfl rfl Try.func40 rfl hcm hT)
      | true =>
        simp only [bz, if_true] at e2
        repeat (q_go; try q_fix)
        q_leave1 Try.func53
        repeat (q_go; try q_fix)
        q_en wgLib lk
        q_leave0 Try.func38
        repeat (q_go; try q_fix)
        exact quitsD_le (by omega) (QuitsD.leaveD rfl rfl Try.func40 rfl hcm hT)
    · obtain rfl : v = false := by
        rcases hcv' with h | h
        · rw [hp] at h; cases h
        · exact h
      simp only [bz, Bool.false_eq_true, if_false] at e2
      repeat (q_go; try q_fix)
      q_leave1 Try.func53
      repeat (q_go; try q_fix)
      q_en wgLib lk
      q_leave0 Try.func38
      repeat (q_go; try q_fix)
      exact quitsD_le (by omega) (QuitsD.leaveD rfl rfl Try.func40 rfl hcm hT)
end
end Go.Proofs.Ytpkiojchlficcaa.Crew
