/- The walks: the giver's wg.Wait(): w0; w1, ke, aq | w2, wm, w3, w4, ke, aq. -/
import Derived.Test.YtpkiojchlficcaaAd
set_option linter.unusedSimpArgs false
namespace Go.Proofs.Ytpkiojchlficcaa.Crew
open Go Go.Conc Go.ConcN Go.RowKit Go.Conc.Lib Go.ConcR.Gen
open Go.ConcM (OsLater goes_pad goes_le)
open Go.ConcR (KK wgBlock WgAt stA smA rd wr mk DC0)
def findLoop44 : Code → Option Code
  | .loop c => some c
  | .seq x y => match findLoop44 x with | some c => some c | none => findLoop44 y
  | .block _ c => findLoop44 c
  | _ => none
noncomputable def body44 : Code := Try.f44.body.getD .skip
noncomputable def LL44 : Code := (findLoop44 body44).getD .skip
theorem wgZ_inj {c c' : Nat} {v v' : Bool} (h : wgZ c v = wgZ c' v') : c = c' ∧ v = v' := by
  unfold wgZ bz at h
  cases v <;> cases v' <;> simp at h ⊢ <;> omega
theorem wgZ_one (c : Nat) (h : c ≤ 16) : IntKind.u64.wrap (wgZ c false + 1) = wgZ c true := by
  rw [IntKind.wrap_u64]; unfold wgZ bz; simp; omega
section
variable {C : Cf} {W : World} {N : Nat} {Anch : Goroutine → World → Prop}
variable {b₀ : Frame} {a₀ : Act} {ops₀ : Array Oper} {i₀ : Nat} {rest₀ : List Nat} {k₀ : List Item} {cs : List Frame}
/-- AT Wait's LOOP HEAD, all temporaries but the receiver whatever. -/
def WaitAt (C : Cf) (W : World) (N : Nat) (Anch : Goroutine → World → Prop) (b₀ : Frame) (a₀ : Act) (ops₀ : Array Oper) (i₀ : Nat) (rest₀ : List Nat) (k₀ : List Item) (cs : List Frame) (k : Nat) : Prop :=
  ∃ m, ∀ (j1 j2 j3 j4 j5 j6 j7 j8 j9 j10 j11 j12 j13 j14 j15 j16 j17 j18 j19 j20 j21 j22 j23 j24 j25 j26 j27 j28 j29 j30 j31 j32 j33 j34 j35 j36 j37 j38 j39 j40 j41 j42 j43 j44 j45 j46 j47 j48 j49 j50 j51 j52 j53 j54 j55 j56 j57 j58 j59 j60 j61 j62 j63 j64 j65 j66 j67 j68 j69 j70 j71 j72 j73 j74 j75 j76 j77 j78 j79 j80 j81 j82 j83 : Value) (w : World), KW C W w → GM C N Anch k .w1 m (G ((base 44).at ⟨#[.pointer (some ⟨C.tp.Wg, 0, Option.none⟩), j1, j2, j3, j4, j5, j6, j7, j8, j9, j10, j11, j12, j13, j14, j15, j16, j17, j18, j19, j20, j21, j22, j23, j24, j25, j26, j27, j28, j29, j30, j31, j32, j33, j34, j35, j36, j37, j38, j39, j40, j41, j42, j43, j44, j45, j46, j47, j48, j49, j50, j51, j52, j53, j54, j55, j56, j57, j58, j59, j60, j61, j62, j63, j64, j65, j66, j67, j68, j69, j70, j71, j72, j73, j74, j75, j76, j77, j78, j79, j80, j81, j82, j83], []⟩ [.code LL44, .inLoop LL44, .inBlock 0]) (b₀.at a₀ (.inRegion ops₀ (i₀ :: rest₀) :: k₀) :: cs)) w
set_option maxRecDepth 100000 in
set_option maxHeartbeats 16000000 in
theorem waitHead (hP : C.P = Try.prog) (Ge : Geo C) (hT : ∀ k', ∃ m, ∀ w, KW C W w → GM C N Anch k' .ret m (G (b₀.at (a₀.put ((ops₀[i₀]?).bind (·.dst)) (.tuple #[])) (.inRegion ops₀ rest₀ :: k₀)) cs) w) : ∀ k, WaitAt C W N Anch b₀ a₀ ops₀ i₀ rest₀ k₀ cs k := by
  intro k
  induction k using Nat.strongRecOn with
  | _ k ih =>
  refine ⟨60, fun j1 j2 j3 j4 j5 j6 j7 j8 j9 j10 j11 j12 j13 j14 j15 j16 j17 j18 j19 j20 j21 j22 j23 j24 j25 j26 j27 j28 j29 j30 j31 j32 j33 j34 j35 j36 j37 j38 j39 j40 j41 j42 j43 j44 j45 j46 j47 j48 j49 j50 j51 j52 j53 j54 j55 j56 j57 j58 j59 j60 j61 j62 j63 j64 j65 j66 j67 j68 j69 j70 j71 j72 j73 j74 j75 j76 j77 j78 j79 j80 j81 j82 j83 w hF => ?_⟩
  simp only [LL44, body44, findLoop44, Try.f44, Option.getD_some]
  repeat w_go KW.rely
  u_call Try.func55 nm55 Try.f55 KW.rely hF
  repeat w_go KW.rely
  -- STOP w1
  refine at_stopM hF fun k' w hk hF => stpWayM hP rfl trivial rfl (by simp [Mp.wakes]) fun s hs hsm => ?_
  have hc := hs.wgC
  by_cases h0 : s.c = 0
  · have e1 := wgZ_div s.c s.wv
    have e2 := wg_lo (c := s.c) (by omega) s.wv
    have e3 := wg_hi (c := s.c) (by omega) s.wv
    rw [h0] at e1 e2 e3
    refine ⟨(.ke, s), by simp [mmv, h0], fun _ => ⟨_, _, _, stepG_load_atomic rfl rfl (by k_ne) rfl wgLib.f_loadU64 (x_loadU64_n lk) (x_loadU64_b lk) (x_loadU64_x lk) .u64 (x_loadU64_f lk) rfl hc, hs, Eff.refl _, evM (by simp) (by simp) (by simp) (bk_one (C := C) 0 (stA C.tp.Wg) false (.inr rfl)), afterM hP 60 ?_⟩⟩
    rw [h0]
    clear hc hs hsm h0 ih hk
    have e1 : wgZ 0 s.wv / 4294967296 = 0 := e1
    generalize hv : s.wv = v at e1 e2 e3 ⊢
    clear hv
    cases v with
    | false =>
      simp only [bz, Bool.false_eq_true, if_false] at e2
      generalize wgZ 0 false = z at e1 e2 e3 ⊢
      walk_nrm
      repeat w_go KW.rely
      u_leave1 Try.func55 KW.rely hF
      repeat (first | w_go KW.rely | simp only [e1])
      -- STOP ke
      refine at_stopM hF fun k w hk hF => stpWayM hP rfl trivial rfl (by simp [Mp.wakes]) fun s hs hsm => ?_
      refine ⟨(.aq, s), by simp [mmv], fun _ => ⟨_, _, _, stepG_mark0 .enable (by simp) rfl rfl (by k_ne) rfl wgLib.f_enable (x_enable_n lk) (x_enable_b lk) (x_enable_x lk) (x_enable_f lk), hs, Eff.refl _, evM (by simp) (by simp) (by simp) (bk_en (C := C) 0), afterM hP 30 ?_⟩⟩
      walk_nrm
      repeat w_go KW.rely
      m_convG Try.prog wgLib.underlying_tUP wgLib.underlying_tWgP wgLib.room_tWg hF.wg.choose_spec KW.rely hF
      -- STOP aq
      refine at_stopM hF fun k w hk hF => stpWayM hP rfl trivial rfl (by simp [Mp.wakes]) fun s hs hsm => ?_
      obtain ⟨mT, hT'⟩ := hT k
      refine ⟨(.ret, s), by simp [mmv], fun _ => ⟨_, _, _, stepG_markAt .acquire (by simp) rfl rfl (by k_ne) rfl wgLib.f_acquire (x_acquire_n lk) (x_acquire_b lk) (x_acquire_x lk) (x_acquire_f lk) (by simp [Act.eval]; rfl), hs, Eff.refl _, rfl, afterM hP (mT + 40) ?_⟩⟩
      walk_nrm
      repeat w_go KW.rely
      u_leave0 Try.func44 KW.rely hF
      exact goes_pad (hT' _ hF) _
    | true =>
      simp only [bz, if_true] at e2
      generalize wgZ 0 true = z at e1 e2 e3 ⊢
      walk_nrm
      repeat w_go KW.rely
      u_leave1 Try.func55 KW.rely hF
      repeat (first | w_go KW.rely | simp only [e1])
      -- STOP ke
      refine at_stopM hF fun k w hk hF => stpWayM hP rfl trivial rfl (by simp [Mp.wakes]) fun s hs hsm => ?_
      refine ⟨(.aq, s), by simp [mmv], fun _ => ⟨_, _, _, stepG_mark0 .enable (by simp) rfl rfl (by k_ne) rfl wgLib.f_enable (x_enable_n lk) (x_enable_b lk) (x_enable_x lk) (x_enable_f lk), hs, Eff.refl _, evM (by simp) (by simp) (by simp) (bk_en (C := C) 0), afterM hP 30 ?_⟩⟩
      walk_nrm
      repeat w_go KW.rely
      m_convG Try.prog wgLib.underlying_tUP wgLib.underlying_tWgP wgLib.room_tWg hF.wg.choose_spec KW.rely hF
      -- STOP aq
      refine at_stopM hF fun k w hk hF => stpWayM hP rfl trivial rfl (by simp [Mp.wakes]) fun s hs hsm => ?_
      obtain ⟨mT, hT'⟩ := hT k
      refine ⟨(.ret, s), by simp [mmv], fun _ => ⟨_, _, _, stepG_markAt .acquire (by simp) rfl rfl (by k_ne) rfl wgLib.f_acquire (x_acquire_n lk) (x_acquire_b lk) (x_acquire_x lk) (x_acquire_f lk) (by simp [Act.eval]; rfl), hs, Eff.refl _, rfl, afterM hP (mT + 40) ?_⟩⟩
      walk_nrm
      repeat w_go KW.rely
      u_leave0 Try.func44 KW.rely hF
      exact goes_pad (hT' _ hF) _
  · have hc16 := hsm.c
    have e1 := wgZ_div s.c s.wv
    have e2 := wg_lo (c := s.c) (by omega) s.wv
    have e3 := wg_hi (c := s.c) (by omega) s.wv
    have e4 : (((s.c : Nat) : Int) == 0) = false := by rw [beq_eq_false_iff_ne]; omega
    have e5 : ((s.c : Int) + 2147483648) % 4294967296 - 2147483648 = (s.c : Int) := by omega
    refine ⟨(.w2 s.c s.wv, s), by simp [mmv, h0], fun _ => ⟨_, _, _, stepG_load_atomic rfl rfl (by k_ne) rfl wgLib.f_loadU64 (x_loadU64_n lk) (x_loadU64_b lk) (x_loadU64_x lk) .u64 (x_loadU64_f lk) rfl hc, hs, Eff.refl _, evM (by simp) (by simp) (by simp) (bk_one (C := C) 0 (stA C.tp.Wg) false (.inr rfl)), afterM hP 80 ?_⟩⟩
    generalize hv : s.wv = v at e1 e2 e3 ⊢
    generalize hcn : s.c = c at e1 e2 e3 e4 e5 hc16 ⊢
    clear hc hs hsm h0 hv hcn
    have hz := fun h : v = false => wgZ_one c hc16
    generalize hzz : wgZ c v = z at e1 e2 e3 ⊢
    generalize hcz : (c : Int) = cz at e1 e4 e5
    walk_nrm
    repeat w_go KW.rely
    u_leave1 Try.func55 KW.rely hF
    repeat (first | w_go KW.rely | simp only [e1, e4])
    u_call Try.func63 nm63 Try.f63 KW.rely hF
    repeat w_go KW.rely
    -- STOP w2
    refine at_stopM hF fun k2 w hk2 hF => stpWayM hP rfl trivial rfl (by simp [Mp.wakes]) fun s hs hsm => ?_
    have hc := hs.wgC
    by_cases hm : s.c = c ∧ s.wv = v
    · cases v with
      | true => exact ⟨(.bad, s), by simp [mmv, hm], fun h => absurd rfl h⟩
      | false =>
        have hz := wgZ_one c hc16
        rw [IntKind.wrap_u64, hzz] at hz
        rw [hm.1, hm.2, hzz] at hc
        have hs' : ShAt C (w.setCell (stA C.tp.Wg) (.int .u64 ((z + 1) % 18446744073709551616))) { s with wv := true } := by
          have := hs.setWg Ge (c := s.c) (v := true) (z := (z + 1) % 18446744073709551616) (by rw [hm.1]; exact hz)
          exact this
        refine ⟨(.wm, { s with wv := true }), by simp [mmv, hm], fun _ => ⟨_, _, _, stepG_cas_hit rfl rfl (by k_ne) rfl wgLib.f_casU64 (x_casU64_n lk) (x_casU64_b lk) (x_casU64_x lk) .u64 (x_casU64_f lk) rfl rfl rfl hc (hs.wgThaw 0), hs', Eff.set _ _ (.inr rfl), evM (by simp) (by simp) (by simp) (bk_rw (C := C) 0 (stA C.tp.Wg) (.inr rfl)), afterM hP 100 ?_⟩⟩
        have hF := hF.eff Ge (Eff.set _ _ (.inr rfl)) hs'
        simp only [bz, Bool.false_eq_true, if_false] at e2
        clear hs' hs hsm hc hm hz hzz ih
        walk_nrm
        repeat w_go KW.rely
        u_leave1 Try.func63 KW.rely hF
        repeat w_go KW.rely
        m_convG Try.prog wgLib.underlying_tUP wgLib.underlying_tPU32 wgLib.room_tU32 hF.ws.choose_spec KW.rely hF
        -- STOP wm
        refine at_stopM hF fun k w hk hF => stpWayM hP rfl trivial rfl (by simp [Mp.wakes]) fun s hs hsm => ?_
        refine ⟨(.w3, s), by simp [mmv], fun _ => ⟨_, _, _, stepG_markAt .write (by simp) rfl rfl (by k_ne) rfl wgLib.f_raceWrite (x_raceWrite_n lk) (x_raceWrite_b lk) (x_raceWrite_x lk) (x_raceWrite_f lk) (by simp [Act.eval]; rfl), hs, Eff.refl _, rfl, afterM hP 60 ?_⟩⟩
        clear hs hsm
        walk_nrm
        repeat w_go KW.rely
        -- STOP w3
        refine at_stopM hF fun k w hk hF => stpM rfl trivial rfl (by simp [Mp.wakes]) fun s hs hsm => ⟨fun h => ?_, fun hne => ?_⟩
        · have h0 : s.ws = 0 := by
            by_cases hc : s.ws = 0
            · exact hc
            · simp [mmv, hc] at h
          rw [hP]
          exact stepG_semacquire_wait rfl rfl rfl wgLib.f_semacquire (x_semacquire_n lk) (x_semacquire_b lk) (x_semacquire_x lk) (x_semacquire_f lk) (by simp [Act.eval]; rfl) (by have := hs.wsC; rw [h0] at this; exact this)
        have h1 : s.ws ≠ 0 := fun hc => hne (by simp [mmv, hc])
        have hw1 : (s.ws : Int) - 1 = ((s.ws - 1 : Nat) : Int) := by omega
        have hs' := hs.setWs Ge hw1
        have hz1 : (s.ws : Int) ≠ 0 := by omega
        refine ⟨(.w4, { s with ws := s.ws - 1 }), by simp [mmv, h1], fun _ => ⟨_, _, _, by rw [hP]; exact stepG_semacquire rfl rfl (by k_ne) rfl wgLib.f_semacquire (x_semacquire_n lk) (x_semacquire_b lk) (x_semacquire_x lk) (x_semacquire_f lk) (by simp [Act.eval]; rfl) hs.wsC hz1 (hs.wgThaw 1), hs', Eff.set _ _ (.inr rfl), evM (by simp) (by simp) (by simp) (bk_sem (C := C) 0 (smA C.tp.Wg) (.inr rfl)), afterM hP 60 ?_⟩⟩
        have hF := hF.eff Ge (Eff.set _ _ (.inr rfl)) hs'
        clear hw1 hs' hz1 hs hsm h1 hne
        walk_nrm
        repeat w_go KW.rely
        u_call Try.func55 nm55 Try.f55 KW.rely hF
        repeat w_go KW.rely
        -- STOP w4
        refine at_stopM hF fun k w hk hF => stpWayM hP rfl trivial rfl (by simp [Mp.wakes]) fun s hs hsm => ?_
        by_cases h0 : s.c = 0 ∧ s.wv = false
        · have hc := hs.wgC
          rw [h0.1, h0.2, show wgZ 0 false = 0 from rfl] at hc
          refine ⟨(.ke, s), by simp [mmv, h0], fun _ => ⟨_, _, _, stepG_load_atomic rfl rfl (by k_ne) rfl wgLib.f_loadU64 (x_loadU64_n lk) (x_loadU64_b lk) (x_loadU64_x lk) .u64 (x_loadU64_f lk) rfl hc, hs, Eff.refl _, evM (by simp) (by simp) (by simp) (bk_one (C := C) 0 (stA C.tp.Wg) false (.inr rfl)), afterM hP 60 ?_⟩⟩
          clear hc hs hsm h0
          walk_nrm
          repeat w_go KW.rely
          u_leave1 Try.func55 KW.rely hF
          repeat w_go KW.rely
          -- STOP ke
          refine at_stopM hF fun k w hk hF => stpWayM hP rfl trivial rfl (by simp [Mp.wakes]) fun s hs hsm => ?_
          refine ⟨(.aq, s), by simp [mmv], fun _ => ⟨_, _, _, stepG_mark0 .enable (by simp) rfl rfl (by k_ne) rfl wgLib.f_enable (x_enable_n lk) (x_enable_b lk) (x_enable_x lk) (x_enable_f lk), hs, Eff.refl _, evM (by simp) (by simp) (by simp) (bk_en (C := C) 0), afterM hP 30 ?_⟩⟩
          walk_nrm
          repeat w_go KW.rely
          m_convG Try.prog wgLib.underlying_tUP wgLib.underlying_tWgP wgLib.room_tWg hF.wg.choose_spec KW.rely hF
          -- STOP aq
          refine at_stopM hF fun k w hk hF => stpWayM hP rfl trivial rfl (by simp [Mp.wakes]) fun s hs hsm => ?_
          obtain ⟨mT, hT'⟩ := hT k
          refine ⟨(.ret, s), by simp [mmv], fun _ => ⟨_, _, _, stepG_markAt .acquire (by simp) rfl rfl (by k_ne) rfl wgLib.f_acquire (x_acquire_n lk) (x_acquire_b lk) (x_acquire_x lk) (x_acquire_f lk) (by simp [Act.eval]; rfl), hs, Eff.refl _, rfl, afterM hP (mT + 40) ?_⟩⟩
          walk_nrm
          repeat w_go KW.rely
          u_leave0 Try.func44 KW.rely hF
          exact goes_pad (hT' _ hF) _
        · exact ⟨(.bad, s), by simp [mmv, h0], fun h => absurd rfl h⟩
    · have hne : wgZ s.c s.wv ≠ z := fun h => hm (wgZ_inj (h.trans hzz.symm))
      obtain ⟨mH, hH⟩ := ih k2 (by omega)
      refine ⟨(.w1, s), by simp [mmv, hm], fun _ => ⟨_, _, _, stepG_cas_miss rfl rfl (by k_ne) rfl wgLib.f_casU64 (x_casU64_n lk) (x_casU64_b lk) (x_casU64_x lk) .u64 (x_casU64_f lk) rfl rfl rfl hc (hs.wgThaw 0) hne, hs, Eff.refl _, evM (by simp) (by simp) (by simp) (bk_one (C := C) 0 (stA C.tp.Wg) false (.inr rfl)), afterM hP (mH + 40) ?_⟩⟩
      clear hs hsm hc hm hne ih hzz
      walk_nrm
      repeat w_nl KW.rely
      u_leave1 Try.func63 KW.rely hF
      repeat w_nl KW.rely
      u_c stepG_inLoop KW.rely hF
      exact goes_pad (hH _ _ _ _ _ _ _ _ _ _ _ _ _ _ _ _ _ _ _ _ _ _ _ _ _ _ _ _ _ _ _ _ _ _ _ _ _ _ _ _ _ _ _ _ _ _ _ _ _ _ _ _ _ _ _ _ _ _ _ _ _ _ _ _ _ _ _ _ _ _ _ _ _ _ _ _ _ _ _ _ _ _ _ _ hF) _
set_option maxRecDepth 100000 in
set_option maxHeartbeats 16000000 in
/-- ████ wg.Wait(), BY THE GIVER. ████ -/
theorem waitGo (hP : C.P = Try.prog) (Ge : Geo C) (hT : ∀ k', ∃ m, ∀ w, KW C W w → GM C N Anch k' .ret m (G (b₀.at (a₀.put ((ops₀[i₀]?).bind (·.dst)) (.tuple #[])) (.inRegion ops₀ rest₀ :: k₀)) cs) w) :
    ∀ k w, KW C W w → GM C N Anch k .w0 30 (G ((base 44).at ⟨#[.pointer (some ⟨C.tp.Wg, 0, Option.none⟩), undef, undef, undef, undef, undef, undef, undef, undef, undef, undef, undef, undef, undef, undef, undef, undef, undef, undef, undef, undef, undef, undef, undef, undef, undef, undef, undef, undef, undef, undef, undef, undef, undef, undef, undef, undef, undef, undef, undef, undef, undef, undef, undef, undef, undef, undef, undef, undef, undef, undef, undef, undef, undef, undef, undef, undef, undef, undef, undef, undef, undef, undef, undef, undef, undef, undef, undef, undef, undef, undef, undef, undef, undef, undef, undef, undef, undef, undef, undef, undef, undef, undef, undef], []⟩ [.code body44]) (b₀.at a₀ (.inRegion ops₀ (i₀ :: rest₀) :: k₀) :: cs)) w := by
  intro k w hF
  simp only [body44, Try.f44, Option.getD_some]
  repeat w_go KW.rely
  -- STOP w0
  refine at_stopM hF fun k w hk hF => stpWayM hP rfl trivial rfl (by simp [Mp.wakes]) fun s hs hsm => ?_
  obtain ⟨mH, hH⟩ := waitHead hP Ge hT k
  refine ⟨(.w1, s), by simp [mmv], fun _ => ⟨_, _, _, stepG_mark0 .disable (by simp) rfl rfl (by k_ne) rfl wgLib.f_disable (x_disable_n lk) (x_disable_b lk) (x_disable_x lk) (x_disable_f lk), hs, Eff.refl _, evM (by simp) (by simp) (by simp) (bk_dis (C := C) 0), afterM hP (mH + 30) ?_⟩⟩
  walk_nrm
  repeat w_bar KW.rely
  u_c stepG_loop KW.rely hF
  exact goes_pad (hH _ _ _ _ _ _ _ _ _ _ _ _ _ _ _ _ _ _ _ _ _ _ _ _ _ _ _ _ _ _ _ _ _ _ _ _ _ _ _ _ _ _ _ _ _ _ _ _ _ _ _ _ _ _ _ _ _ _ _ _ _ _ _ _ _ _ _ _ _ _ _ _ _ _ _ _ _ _ _ _ _ _ _ _ hF) _
end
end Go.Proofs.Ytpkiojchlficcaa.Crew
