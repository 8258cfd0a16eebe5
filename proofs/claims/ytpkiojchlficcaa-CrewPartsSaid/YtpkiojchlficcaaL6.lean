/- The walks: lockSlow's loop head, at every depth. -/
import Derived.Test.YtpkiojchlficcaaL5
set_option linter.unusedSimpArgs false
namespace Go.Proofs.Ytpkiojchlficcaa.Crew
open Go Go.Conc Go.ConcN Go.RowKit Go.Conc.Lib Go.ConcR.Gen
open Go.ConcM (OsLater goes_pad goes_le)
open Go.ConcR (KK wgBlock WgAt stA smA rd wr mk DC0)
section
variable [Cap] {C : Cf} {W : World}
variable {b₁ : Frame} {a₁ : Act} {ops₁ : Array Oper} {i₁ : Nat} {rest₁ : List Nat} {k₁ : List Item} {cs₁ : List Frame}

set_option maxRecDepth 100000 in
set_option maxHeartbeats 16000000 in
/-- ████ lockSlow's LOOP HEAD, at every depth. ████ -/
theorem headGo (hP : C.P = Try.prog) (Ge : Geo C) (hT : ∀ k', ∃ m, ∀ w, KW C W w → GD C k' (at_ .o2) m (G (b₁.at (a₁.put ((ops₁[i₁]?).bind (·.dst)) (.tuple #[])) (.inRegion ops₁ rest₁ :: k₁)) cs₁) w) : ∀ (k : Nat) (T : Th) (wst : Int), T.old.n ≤ 16 → T.it ≤ 4 → (Crew.hd T).pc ≠ .bad → PosAt C W b₁ a₁ ops₁ i₁ rest₁ k₁ cs₁ [.code LL80, .inLoop LL80, .inBlock 0, .code REST80] k (Crew.hd T) T wst := by
  intro k
  induction k using Nat.strongRecOn with
  | _ k ih =>
  intro T wst hn hit hb
  obtain ⟨pc, old, aw, sv, it⟩ := T
  simp only at hn hit
  have hd8 := muZ_div old
  by_cases hsp : (old.l && !old.s) = true
  · have e5 : (bits BinOp.and IntKind.i32 (muZ old) 5 == 1) = true := by rw [y_and5_1 (by omega), hsp]
    have eH : Crew.hd { pc := pc, old := old, aw := aw, sv := sv, it := it } = { pc := .sq, old := old, aw := aw, sv := sv, it := it } := by unfold Crew.hd; rw [if_pos hsp]
    rw [eH]
    clear eH hb hsp
    refine ⟨60, fun j1 j7 j8 j9 j10 j11 j12 j13 j14 j15 j16 j17 j18 j19 j20 j21 j22 j23 j24 j25 j26 j27 j28 j29 j30 j31 j32 j33 j34 j35 j36 j37 j38 j39 j40 j41 j42 j43 j44 j45 j46 j47 j48 j49 j50 j51 j52 j53 j54 j55 j56 j57 j58 j59 j60 j61 j62 j63 j64 j65 j66 j67 j68 j69 j70 j71 j72 j73 j74 j75 j76 j77 j78 j79 j80 j81 j82 j83 j84 j85 j86 j87 j88 j89 j90 j91 j92 j93 j94 j95 j96 j97 j98 j99 j100 j101 j102 j103 j104 j105 j106 j107 j108 j109 j110 j111 j112 j113 j114 j115 j116 j117 j118 j119 j120 j121 j122 j123 j124 j125 j126 j127 j128 j129 j130 j131 j132 j133 j134 j135 j136 j137 j138 w hF => ?_⟩
    simp only [LL80, REST80, TAIL80, SPIN80, S1N80, R2N80, C2N80, IT80, body80, s0, s1, Try.f80, Option.getD_some]
    repeat (first | w_go KW.rely | simp only [e5])
    refine at_stop hF fun k' w hk' hF => stpWay hP rfl (by simp) rfl (by simp [Th.wakes]) fun s hs hsm => ?_
    have no : (toC2 { pc := .sq, old := old, aw := aw, sv := sv, it := it }, s) ∈ wmv { pc := .sq, old := old, aw := aw, sv := sv, it := it } s := by simp [wmv]
    have hq : ∀ T : Th, (toC2 T).pc ≠ .bad → (toC2 T).deaf = 1 ∧ (toC2 T).pc ≠ .quit := by
      intro T h
      unfold toC2 at h ⊢
      split
      · rename_i c; rw [if_pos c] at h; simp at h
      · simp [Th.deaf]
    by_cases h4 : it < 4
    · have h4' : (it : Int) < 4 := by omega
      rcases hsp : w.spins with _ | _
      · refine ⟨_, no, fun hb => ?_⟩
        obtain ⟨mt, ht⟩ := tailGo hP Ge hT k' (fun k'' hlt => ih k'' (by omega)) { pc := .sq, old := old, aw := aw, sv := sv, it := it } wst hn hit hb
        have hq' := hq _ hb
        refine ⟨_, _, _, stepG_canSpin_ask rfl rfl (by k_ne) rfl Try.func83 x83_n x83_b x83_x x83_f (k := .i64) (n := (it : Int)) (by simp [Act.eval]) h4', hs.asked, Eff.asked _, evW (by simp) (by rw [hq'.1]; exact bk_nil (C := C) 1), afterT hP hq'.2 (mt + 60) ?_⟩
        have hF := hF.eff Ge (Eff.asked w) hs.asked
        rw [hsp]
        clear ih hq hq' no hb
        walk_nrm
        repeat (first | (exact goes_pad (ht _ _ _ _ _ _ _ _ _ _ _ _ _ _ _ _ _ _ _ _ _ _ _ _ _ _ _ _ _ _ _ _ _ _ _ _ _ _ _ _ _ _ _ _ _ _ _ _ _ _ _ _ _ _ _ _ _ _ _ _ _ _ _ _ _ _ _ _ _ _ _ _ _ _ _ _ _ _ _ _ _ _ _ _ _ _ _ _ _ _ _ _ _ _ _ _ _ _ _ _ _ _ _ _ _ _ _ _ _ _ _ _ _ _ _ _ _ _ _ _ _ _ _ _ _ _ _ _ _ _ _ _ _ _ hF) _) | w_go KW.rely | simp only [e5])
      · clear no
        cases aw with
        | true =>
          obtain ⟨mS, hS⟩ := spinGo hP k' (fun k'' hlt => ih k'' (by omega)) ⟨.sq, old, true, sv, it⟩ wst h4
          refine ⟨({ pc := .r1, old := old, aw := true, sv := sv, it := it }, s), by simp [wmv, h4, *], fun _ => ⟨_, _, _, stepG_canSpin_ask rfl rfl (by k_ne) rfl Try.func83 x83_n x83_b x83_x x83_f (k := .i64) (n := (it : Int)) (by simp [Act.eval]) h4', hs.asked, Eff.asked _, evW (by simp) (bk_nil (C := C) 1), afterT hP (by simp) (mS + 120) ?_⟩⟩
          have hF := hF.eff Ge (Eff.asked w) hs.asked
          rw [hsp]
          clear ih
          walk_nrm
          repeat (first | (exact goes_pad (hS _ _ _ _ _ _ _ _ _ _ _ _ _ _ _ _ _ _ _ _ _ _ _ _ _ _ _ _ _ _ _ _ _ _ _ _ _ _ _ _ _ _ _ _ _ _ _ _ _ _ _ _ _ _ _ _ _ _ _ _ _ _ _ _ _ _ _ _ _ _ _ _ _ _ _ _ _ _ _ _ _ _ _ _ _ _ _ _ _ _ _ _ _ _ _ _ _ _ _ _ _ _ _ _ _ _ _ _ _ _ _ _ _ _ _ _ _ _ _ _ _ _ _ _ _ _ _ _ _ _ _ _ _ _ hF) _) | w_go KW.rely | simp only [e5, hd8])
        | false =>
          cases hw : old.w with
          | true =>
            have e2 : (bits BinOp.and IntKind.i32 (muZ old) 2 == 0) = false := by rw [y_and2e (by omega), hw]; rfl
            obtain ⟨mS, hS⟩ := spinGo hP k' (fun k'' hlt => ih k'' (by omega)) ⟨.sq, old, false, sv, it⟩ wst h4
            refine ⟨({ pc := .r1, old := old, aw := false, sv := sv, it := it }, s), by simp [wmv, h4, *], fun _ => ⟨_, _, _, stepG_canSpin_ask rfl rfl (by k_ne) rfl Try.func83 x83_n x83_b x83_x x83_f (k := .i64) (n := (it : Int)) (by simp [Act.eval]) h4', hs.asked, Eff.asked _, evW (by simp) (bk_nil (C := C) 1), afterT hP (by simp) (mS + 120) ?_⟩⟩
            have hF := hF.eff Ge (Eff.asked w) hs.asked
            rw [hsp]
            clear ih
            walk_nrm
            repeat (first | (exact goes_pad (hS _ _ _ _ _ _ _ _ _ _ _ _ _ _ _ _ _ _ _ _ _ _ _ _ _ _ _ _ _ _ _ _ _ _ _ _ _ _ _ _ _ _ _ _ _ _ _ _ _ _ _ _ _ _ _ _ _ _ _ _ _ _ _ _ _ _ _ _ _ _ _ _ _ _ _ _ _ _ _ _ _ _ _ _ _ _ _ _ _ _ _ _ _ _ _ _ _ _ _ _ _ _ _ _ _ _ _ _ _ _ _ _ _ _ _ _ _ _ _ _ _ _ _ _ _ _ _ _ _ _ _ _ _ _ hF) _) | w_go KW.rely | simp only [e5, e2])
          | false =>
            have e2 : (bits BinOp.and IntKind.i32 (muZ old) 2 == 0) = true := by rw [y_and2e (by omega), hw]; rfl
            by_cases h0 : old.n = 0
            · have e3 : ((old.n : Int) != 0) = false := by rw [h0]; rfl
              obtain ⟨mS, hS⟩ := spinGo hP k' (fun k'' hlt => ih k'' (by omega)) ⟨.sq, old, false, sv, it⟩ wst h4
              refine ⟨({ pc := .r1, old := old, aw := false, sv := sv, it := it }, s), by simp [wmv, h4, *], fun _ => ⟨_, _, _, stepG_canSpin_ask rfl rfl (by k_ne) rfl Try.func83 x83_n x83_b x83_x x83_f (k := .i64) (n := (it : Int)) (by simp [Act.eval]) h4', hs.asked, Eff.asked _, evW (by simp) (bk_nil (C := C) 1), afterT hP (by simp) (mS + 120) ?_⟩⟩
              have hF := hF.eff Ge (Eff.asked w) hs.asked
              rw [hsp]
              clear ih
              walk_nrm
              repeat (first | (exact goes_pad (hS _ _ _ _ _ _ _ _ _ _ _ _ _ _ _ _ _ _ _ _ _ _ _ _ _ _ _ _ _ _ _ _ _ _ _ _ _ _ _ _ _ _ _ _ _ _ _ _ _ _ _ _ _ _ _ _ _ _ _ _ _ _ _ _ _ _ _ _ _ _ _ _ _ _ _ _ _ _ _ _ _ _ _ _ _ _ _ _ _ _ _ _ _ _ _ _ _ _ _ _ _ _ _ _ _ _ _ _ _ _ _ _ _ _ _ _ _ _ _ _ _ _ _ _ _ _ _ _ _ _ _ _ _ _ hF) _) | w_go KW.rely | simp only [e5, e2, hd8, e3])
            have e3 : ((old.n : Int) != 0) = true := by simp; omega
            have e4 : bits BinOp.or IntKind.i32 (muZ old) 2 = muZ { old with w := true } := z_or2 (by omega)
            refine ⟨({ pc := .c1, old := old, aw := false, sv := sv, it := it }, s), by simp [wmv, h4, hw, h0], fun _ => ⟨_, _, _, stepG_canSpin_ask rfl rfl (by k_ne) rfl Try.func83 x83_n x83_b x83_x x83_f (k := .i64) (n := (it : Int)) (by simp [Act.eval]) h4', hs.asked, Eff.asked _, evW (by simp) (bk_nil (C := C) 1), afterT hP (by simp) 120 ?_⟩⟩
            have hF := hF.eff Ge (Eff.asked w) hs.asked
            rw [hsp]
            walk_nrm
            repeat (first | w_go KW.rely | simp only [e5, e2, hd8, e3])
            try simp only [e4]
            -- STOP c1
            refine at_stop hF fun k2 w hk2 hF => stpWay hP rfl (by simp) rfl (by simp [Th.wakes]) fun s hs hsm => ?_
            by_cases hm : s.mu = old
            · have hs' := hs.setMu Ge (m := { old with w := true }) rfl
              obtain ⟨mS, hS⟩ := spinGo hP k2 (fun k'' hlt => ih k'' (by omega)) ⟨.c1, old, true, sv, it⟩ wst h4
              refine ⟨({ pc := .r1, old := old, aw := true, sv := sv, it := it }, { s with mu := { old with w := true } }), by simp [wmv, hm], fun _ => ⟨_, _, _, stepG_cas_hit rfl rfl (by k_ne) rfl Try.func79 x79_n x79_b x79_x .i32 x79_f rfl rfl rfl (hm ▸ hs.muC) (hs.onThaw 1), hs', Eff.set _ _ (.inl rfl), evW (by simp) (bk_rw (C := C) 0 (muA C.tp.On) (.inl rfl)), afterT hP (by simp) (mS + 90) ?_⟩⟩
              have hF := hF.eff Ge (Eff.set _ _ (.inl rfl)) hs'
              clear hs' ih
              walk_nrm
              repeat (first | (exact goes_pad (hS _ _ _ _ _ _ _ _ _ _ _ _ _ _ _ _ _ _ _ _ _ _ _ _ _ _ _ _ _ _ _ _ _ _ _ _ _ _ _ _ _ _ _ _ _ _ _ _ _ _ _ _ _ _ _ _ _ _ _ _ _ _ _ _ _ _ _ _ _ _ _ _ _ _ _ _ _ _ _ _ _ _ _ _ _ _ _ _ _ _ _ _ _ _ _ _ _ _ _ _ _ _ _ _ _ _ _ _ _ _ _ _ _ _ _ _ _ _ _ _ _ _ _ _ _ _ _ _ _ _ _ _ _ _ hF) _) | w_go KW.rely | simp only [e5])
            · obtain ⟨mS, hS⟩ := spinGo hP k2 (fun k'' hlt => ih k'' (by omega)) ⟨.c1, old, false, sv, it⟩ wst h4
              refine ⟨({ pc := .r1, old := old, aw := false, sv := sv, it := it }, s), by simp [wmv, hm], fun _ => ⟨_, _, _, stepG_cas_miss rfl rfl (by k_ne) rfl Try.func79 x79_n x79_b x79_x .i32 x79_f rfl rfl rfl hs.muC (hs.onThaw 1) (fun e => hm (muZ_inj e)), hs, Eff.refl _, evW (by simp) (bk_one (C := C) 0 (muA C.tp.On) false (.inl rfl)), afterT hP (by simp) (mS + 90) ?_⟩⟩
              clear ih
              walk_nrm
              repeat (first | (exact goes_pad (hS _ _ _ _ _ _ _ _ _ _ _ _ _ _ _ _ _ _ _ _ _ _ _ _ _ _ _ _ _ _ _ _ _ _ _ _ _ _ _ _ _ _ _ _ _ _ _ _ _ _ _ _ _ _ _ _ _ _ _ _ _ _ _ _ _ _ _ _ _ _ _ _ _ _ _ _ _ _ _ _ _ _ _ _ _ _ _ _ _ _ _ _ _ _ _ _ _ _ _ _ _ _ _ _ _ _ _ _ _ _ _ _ _ _ _ _ _ _ _ _ _ _ _ _ _ _ _ _ _ _ _ _ _ _ hF) _) | w_go KW.rely | simp only [e5])
    · refine ⟨_, no, fun hb => ?_⟩
      obtain ⟨mt, ht⟩ := tailGo hP Ge hT k' (fun k'' hlt => ih k'' (by omega)) { pc := .sq, old := old, aw := aw, sv := sv, it := it } wst hn hit hb
      have hq' := hq _ hb
      refine ⟨_, _, _, stepG_canSpin_no rfl rfl (by k_ne) rfl Try.func83 x83_n x83_b x83_x x83_f (k := .i64) (n := (it : Int)) (by simp [Act.eval]) (by omega), hs, Eff.refl _, evW (by simp) (by rw [hq'.1]; exact bk_nil (C := C) 1), afterT hP hq'.2 (mt + 60) ?_⟩
      clear ih hq hq' no hb
      walk_nrm
      repeat (first | (exact goes_pad (ht _ _ _ _ _ _ _ _ _ _ _ _ _ _ _ _ _ _ _ _ _ _ _ _ _ _ _ _ _ _ _ _ _ _ _ _ _ _ _ _ _ _ _ _ _ _ _ _ _ _ _ _ _ _ _ _ _ _ _ _ _ _ _ _ _ _ _ _ _ _ _ _ _ _ _ _ _ _ _ _ _ _ _ _ _ _ _ _ _ _ _ _ _ _ _ _ _ _ _ _ _ _ _ _ _ _ _ _ _ _ _ _ _ _ _ _ _ _ _ _ _ _ _ _ _ _ _ _ _ _ _ _ _ _ hF) _) | w_go KW.rely | simp only [e5])
  · have e5 : (bits BinOp.and IntKind.i32 (muZ old) 5 == 1) = false := by rw [y_and5_1 (by omega)]; simpa using hsp
    have eH : Crew.hd { pc := pc, old := old, aw := aw, sv := sv, it := it } = toC2 { pc := pc, old := old, aw := aw, sv := sv, it := it } := by unfold Crew.hd; rw [if_neg hsp]
    rw [eH] at hb ⊢
    obtain ⟨mt, ht⟩ := tailGo hP Ge hT k ih { pc := pc, old := old, aw := aw, sv := sv, it := it } wst hn hit hb
    clear ih eH hb hsp
    refine ⟨mt + 60, fun j1 j7 j8 j9 j10 j11 j12 j13 j14 j15 j16 j17 j18 j19 j20 j21 j22 j23 j24 j25 j26 j27 j28 j29 j30 j31 j32 j33 j34 j35 j36 j37 j38 j39 j40 j41 j42 j43 j44 j45 j46 j47 j48 j49 j50 j51 j52 j53 j54 j55 j56 j57 j58 j59 j60 j61 j62 j63 j64 j65 j66 j67 j68 j69 j70 j71 j72 j73 j74 j75 j76 j77 j78 j79 j80 j81 j82 j83 j84 j85 j86 j87 j88 j89 j90 j91 j92 j93 j94 j95 j96 j97 j98 j99 j100 j101 j102 j103 j104 j105 j106 j107 j108 j109 j110 j111 j112 j113 j114 j115 j116 j117 j118 j119 j120 j121 j122 j123 j124 j125 j126 j127 j128 j129 j130 j131 j132 j133 j134 j135 j136 j137 j138 w hF => ?_⟩
    simp only [LL80, REST80, TAIL80, SPIN80, S1N80, R2N80, C2N80, IT80, body80, s0, s1, Try.f80, Option.getD_some]
    repeat (first | (exact goes_pad (ht _ _ _ _ _ _ _ _ _ _ _ _ _ _ _ _ _ _ _ _ _ _ _ _ _ _ _ _ _ _ _ _ _ _ _ _ _ _ _ _ _ _ _ _ _ _ _ _ _ _ _ _ _ _ _ _ _ _ _ _ _ _ _ _ _ _ _ _ _ _ _ _ _ _ _ _ _ _ _ _ _ _ _ _ _ _ _ _ _ _ _ _ _ _ _ _ _ _ _ _ _ _ _ _ _ _ _ _ _ _ _ _ _ _ _ _ _ _ _ _ _ _ _ _ _ _ _ _ _ _ _ _ _ _ hF) _) | w_go KW.rely | simp only [e5])
end
end Go.Proofs.Ytpkiojchlficcaa.Crew
