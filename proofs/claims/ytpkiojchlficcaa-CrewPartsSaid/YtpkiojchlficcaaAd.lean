/- The walks: the giver: its stops; Add(1): k1, k2, (k3,) k4. -/
import Derived.Test.YtpkiojchlficcaaDn
import Derived.Test.YtpkiojchlficcaaOdd
set_option linter.unusedSimpArgs false
namespace Go.Proofs.Ytpkiojchlficcaa.Crew
open Go Go.Conc Go.ConcN Go.RowKit Go.Conc.Lib Go.ConcR.Gen
open Go.ConcM (OsLater goes_pad goes_le)
open Go.ConcR (KK wgBlock WgAt stA smA rd wr mk DC0)
section
variable {C : Cf} {N : Nat} {Anch : Goroutine → World → Prop}
/-- A silent stretch of the giver, to the stop 'M' at depth k. -/
abbrev GM (C : Cf) (N : Nat) (Anch : Goroutine → World → Prop) (k : Nat) (M : Mp) (m : Nat) (g : Goroutine) (w : World) : Prop := Goes Try.prog true (RX C Option.none) DC0 (Mk C N Anch k M) m g w
theorem at_stopM {W : World} {k m : Nat} {M : Mp} {g : Goroutine} {w : World} (hF : KW C W w) (h : ∀ k' w₁, k = k' + 1 → KW C W w₁ → StpM C N k' Anch (Mk C N Anch k') M g w₁) : GM C N Anch k M m g w := by
  refine Goes.stop (fun w₁ r₁ => ?_)
  rcases k with _ | k
  · trivial
  · exact h k w₁ rfl (hF.rely r₁)
/-- A stop of the giver's own. -/
def Mp.own : Mp → Prop
  | .gs _ => False
  | .go _ => False
  | .ret => False
  | _ => True
theorem stpM {Nx : Mp → Goroutine → World → Prop} {k : Nat} {M : Mp} {g : Goroutine} {w : World} (hr : g.status = .running) (hs : M.own) (ho : g.offers = Option.none) (hm : M.wakes = true → mayWake C.P g = true)
    (h : ∀ s, ShAt C w s → s.Small → (mmv M s = [] → stepG C.P true g w = .go { g with status := .blocked } w #[]) ∧ (mmv M s ≠ [] → ∃ r ∈ mmv M s, r.1 ≠ .bad → ∃ g' w' es, stepG C.P true g w = .go g' w' es ∧ ShAt C w' r.2 ∧ Eff C w w' ∧ EvStopM C M r.1 es ∧ AfterM C Nx r.1 g' w')) : StpM C N k Anch Nx M g w := by
  refine ⟨hr, ?_⟩
  cases M <;> first | exact hs.elim | exact ⟨ho, hm, h⟩
theorem stpWayM {Nx : Mp → Goroutine → World → Prop} {k : Nat} {M : Mp} {g : Goroutine} {w : World} (hP : C.P = Try.prog) (hr : g.status = .running) (hs : M.own) (ho : g.offers = Option.none) (hm : M.wakes = true → mayWake Try.prog g = true)
    (h : ∀ s, ShAt C w s → s.Small → ∃ r ∈ mmv M s, r.1 ≠ .bad → ∃ g' w' es, stepG Try.prog true g w = .go g' w' es ∧ ShAt C w' r.2 ∧ Eff C w w' ∧ EvStopM C M r.1 es ∧ AfterM C Nx r.1 g' w') : StpM C N k Anch Nx M g w :=
  stpM hr hs ho (by rw [hP]; exact hm) fun s a b => by
    obtain ⟨r, h1, h2⟩ := h s a b
    refine ⟨fun e => ?_, fun _ => ⟨r, h1, fun hb => ?_⟩⟩
    · rw [e] at h1; cases h1
    · rw [hP]; exact h2 hb
theorem afterM {Nx : Mp → Goroutine → World → Prop} {M' : Mp} {g' : Goroutine} {w' : World} (hP : C.P = Try.prog) (m : Nat) (h : Goes Try.prog true (RX C Option.none) DC0 (Nx M') m g' w') : AfterM C Nx M' g' w' :=
  ⟨m, by unfold GoesM; rw [hP]; exact goes_mono (fun _ _ _ x => dx_of_dc0 x) (fun _ _ x => x) h⟩
theorem evM {M M' : Mp} {es : Array Event} (h : ∀ j, M ≠ .k3 j) (h1 : M ≠ .wm) (h2 : M ≠ .aq) (b : BookC C M.deaf M'.deaf es) : EvStopM C M M' es := by
  unfold EvStopM
  cases M <;> first | exact absurd rfl (h _) | exact absurd rfl h1 | exact absurd rfl h2 | exact ⟨b.1, b.2.1⟩
end
section
variable {C : Cf} {W : World} {N : Nat} {Anch : Goroutine → World → Prop}
variable {b₀ : Frame} {a₀ : Act} {ops₀ : Array Oper} {i₀ : Nat} {rest₀ : List Nat} {k₀ : List Item} {cs : List Frame}
noncomputable def body38 : Code := Try.f38.body.getD .skip
theorem wg_incZ {c : Nat} (h : c ≤ 17) : IntKind.u64.wrap (wgZ c false + 4294967296) = wgZ (c + 1) false := wg_inc h false
set_option maxRecDepth 100000 in
set_option maxHeartbeats 16000000 in
/-- ████ wg.Add(1), BY THE GIVER, in company. ████ -/
theorem addGo (hP : C.P = Try.prog) (Ge : Geo C) (j : Nat) (hT : ∀ k', ∃ m, ∀ w, KW C W w → GM C N Anch k' (.go j) m (G (b₀.at (a₀.put ((ops₀[i₀]?).bind (·.dst)) (.tuple #[])) (.inRegion ops₀ rest₀ :: k₀)) cs) w) :
    ∀ k w, KW C W w → GM C N Anch k (.k1 j) 30 (G ((base 38).at ⟨#[.pointer (some ⟨C.tp.Wg, 0, Option.none⟩), .int .i64 1, undef, undef, undef, undef, undef, undef, undef, undef, undef, undef, undef, undef, undef, undef, undef, undef, undef, undef, undef, undef, undef, undef, undef, undef, undef, undef, undef, undef, undef, undef, undef, undef, undef, undef, undef, undef, undef, undef, undef, undef, undef, undef, undef, undef, undef, undef, undef, undef, undef, undef, undef, undef, undef, undef, undef, undef, undef, undef, undef, undef, undef, undef, undef, undef, undef, undef, undef, undef, undef, undef, undef, undef, undef, undef, undef, undef, undef, undef, undef, undef, undef, undef, undef, undef, undef, undef, undef, undef, undef, undef, undef, undef, undef, undef, undef, undef, undef, undef, undef, undef, undef, undef, undef, undef, undef, undef, undef, undef, undef, undef, undef, undef, undef, undef, undef], []⟩ [.code body38]) (b₀.at a₀ (.inRegion ops₀ (i₀ :: rest₀) :: k₀) :: cs)) w := by
  intro k w hF
  simp only [body38, Try.f38, Option.getD_some]
  repeat w_go KW.rely
  refine at_stopM hF fun k w hk hF => stpWayM hP rfl trivial rfl (by simp [Mp.wakes]) fun s hs hsm => ?_
  refine ⟨(.k2 j, s), by simp [mmv], fun _ => ⟨_, _, _, stepG_mark0 .disable (by simp) rfl rfl (by k_ne) rfl wgLib.f_disable (x_disable_n lk) (x_disable_b lk) (x_disable_x lk) (x_disable_f lk), hs, Eff.refl _, evM (by simp) (by simp) (by simp) (bk_dis (C := C) 0), afterM hP 90 ?_⟩⟩
  walk_nrm
  repeat w_go KW.rely
  u_defer KW.rely hF
  repeat w_go KW.rely
  u_in KW.rely hF
  rw [stepG_entry_pure (.bool false) rfl rfl (by k_ne) rfl wgLib.f_inBubble (x_inBubble_n lk) (x_inBubble_b lk) (x_inBubble_x lk) (x_inBubble_f lk)]
  simp only [goes_go]
  refine ⟨by u_nil, ?_⟩
  walk_nrm
  repeat w_go KW.rely
  u_call Try.func53 nm53 Try.f53 KW.rely hF
  repeat w_go KW.rely
  m_num
  -- STOP k2
  refine at_stopM hF fun k w hk hF => stpWayM hP rfl trivial rfl (by simp [Mp.wakes]) fun s hs hsm => ?_
  cases hv : s.wv with
  | true => exact ⟨(.bad, s), by simp [mmv, hv], fun h => absurd rfl h⟩
  | false =>
    have hc16 := hsm.c
    have hz := wg_incZ (c := s.c) (by omega)
    have hcell := hs.wgC
    rw [hv] at hcell
    have hs' : ShAt C (w.setCell (stA C.tp.Wg) (.int .u64 (IntKind.u64.wrap (wgZ s.c false + 4294967296)))) { s with c := s.c + 1 } := by
      exact hs.setWg Ge (v := s.wv) (by rw [hv]; exact hz)
    have e1 := wgZ_div (s.c + 1) false
    have e2 := wg_lo (c := s.c + 1) (by omega) false
    have e3 := wg_hi (c := s.c + 1) (by omega) false
    have e5 : (((s.c + 1 : Nat) : Int) + 2147483648) % 4294967296 - 2147483648 = ((s.c + 1 : Nat) : Int) := by omega
    have e4 : decide (((s.c + 1 : Nat) : Int) < 0) = false := by rw [decide_eq_false_iff_not]; omega
    have e6 : decide (0 < ((s.c + 1 : Nat) : Int)) = true := by rw [decide_eq_true_iff]; omega
    have e7 : (((s.c + 1 : Nat) : Int) == 1) = (decide (s.c = 0)) := by
      by_cases h : s.c = 0
      · rw [h]; rfl
      · rw [decide_eq_false h, beq_eq_false_iff_ne]; omega
    simp only [bz, Bool.false_eq_true, if_false] at e2
    refine ⟨(if s.c = 0 then .k3 j else .k4 j, { s with c := s.c + 1 }), by simp [mmv, hv], fun _ => ⟨_, _, _, stepG_add_atomic rfl rfl (by k_ne) rfl wgLib.f_addU64 (x_addU64_n lk) (x_addU64_b lk) (x_addU64_x lk) .u64 (x_addU64_f lk) rfl rfl hcell (hs.wgThaw 0), hs', Eff.set _ _ (.inr rfl), evM (by simp) (by simp) (by simp) (by
      have : (if s.c = 0 then Mp.k3 j else .k4 j).deaf = 1 := by split <;> rfl
      show BookC C 1 _ _
      rw [this]; exact bk_rw (C := C) 0 (stA C.tp.Wg) (.inr rfl)), afterM hP 140 ?_⟩⟩
    have hF := hF.eff Ge (Eff.set _ _ (.inr rfl)) hs'
    simp only [hz] at hF ⊢
    clear hz hs' hcell hs hsm hc16 hv
    generalize wgZ (s.c + 1) false = z at e1 e2 e3 hF ⊢
    generalize ((s.c + 1 : Nat) : Int) = cz at e1 e4 e5 e6 e7
    walk_nrm
    by_cases hc0 : s.c = 0
    · rw [if_pos hc0]
      rw [decide_eq_true hc0] at e7
      clear hc0
      repeat w_go KW.rely
      u_leave1 Try.func53 KW.rely hF
      repeat (first | w_go KW.rely | simp only [e7])
      m_convG Try.prog wgLib.underlying_tUP wgLib.underlying_tPU32 wgLib.room_tU32 hF.ws.choose_spec KW.rely hF
      -- STOP k3
      refine at_stopM hF fun k w hk hF => stpWayM hP rfl trivial rfl (by simp [Mp.wakes]) fun s hs hsm => ?_
      refine ⟨(.k4 j, s), by simp [mmv], fun _ => ⟨_, _, _, stepG_markAt .read (by simp) rfl rfl (by k_ne) rfl wgLib.f_raceRead (x_raceRead_n lk) (x_raceRead_b lk) (x_raceRead_x lk) (x_raceRead_f lk) (by simp [Act.eval]; rfl), hs, Eff.refl _, rfl, afterM hP 60 ?_⟩⟩
      walk_nrm
      repeat w_go KW.rely
      -- STOP k4
      refine at_stopM hF fun k w hk hF => stpWayM hP rfl trivial rfl (by simp [Mp.wakes]) fun s hs hsm => ?_
      obtain ⟨mT, hT'⟩ := hT k
      refine ⟨(.go j, s), by simp [mmv], fun _ => ⟨_, _, _, stepG_unwind_entry (v := .tuple #[]) (evs := #[mk .enable]) rfl wgLib.f_enable (x_enable_n lk) (x_enable_b lk) (x_enable_x lk) (x_enable_f lk) (by simp [Extern.Race.none_]) (by simp [mk]) (by
        intro x hx'
        simp [mk] at hx'
        subst hx'
        exact ⟨rfl, fun g h => by cases h⟩), hs, Eff.refl _, evM (by simp) (by simp) (by simp) (bk_en (C := C) 0), afterM hP (mT + 10) ?_⟩⟩
      u_leave0 Try.func38 KW.rely hF
      exact goes_pad (hT' _ hF) _
    · rw [if_neg hc0]
      rw [decide_eq_false hc0] at e7
      clear hc0
      repeat w_go KW.rely
      u_leave1 Try.func53 KW.rely hF
      repeat (first | w_go KW.rely | simp only [e7])
      -- STOP k4
      refine at_stopM hF fun k w hk hF => stpWayM hP rfl trivial rfl (by simp [Mp.wakes]) fun s hs hsm => ?_
      obtain ⟨mT, hT'⟩ := hT k
      refine ⟨(.go j, s), by simp [mmv], fun _ => ⟨_, _, _, stepG_unwind_entry (v := .tuple #[]) (evs := #[mk .enable]) rfl wgLib.f_enable (x_enable_n lk) (x_enable_b lk) (x_enable_x lk) (x_enable_f lk) (by simp [Extern.Race.none_]) (by simp [mk]) (by
        intro x hx'
        simp [mk] at hx'
        subst hx'
        exact ⟨rfl, fun g h => by cases h⟩), hs, Eff.refl _, evM (by simp) (by simp) (by simp) (bk_en (C := C) 0), afterM hP (mT + 10) ?_⟩⟩
      u_leave0 Try.func38 KW.rely hF
      exact goes_pad (hT' _ hF) _
end
end Go.Proofs.Ytpkiojchlficcaa.Crew
