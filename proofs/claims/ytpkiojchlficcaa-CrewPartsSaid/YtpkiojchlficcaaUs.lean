/- The walks: unlockSlow: from its loop's head: it leaves, or uc, us | ux. -/
import Derived.Test.YtpkiojchlficcaaGround
import Derived.Test.YtpkiojchlficcaaWord
namespace Go.Proofs.Ytpkiojchlficcaa.Crew
open Go Go.Conc Go.ConcN Go.RowKit Go.Conc.Lib Go.ConcR.Gen
open Go.ConcM (OsLater goes_pad goes_le)
open Go.ConcR (KK wgBlock WgAt stA smA rd wr mk DC0)
def findLoop : Code → Option Code
  | .loop c => some c
  | .seq x y => match findLoop x with | some c => some c | none => findLoop y
  | .cond _ x y => match findLoop x with | some c => some c | none => findLoop y
  | .block _ c => findLoop c
  | _ => none
noncomputable def body82 : Code := Try.f82.body.getD .skip
noncomputable def LL82 : Code := (findLoop body82).getD .skip
section
variable [Cap] {C : Cf} {W : World}
variable {b₀ : Frame} {a₀ : Act} {ops₀ : Array Oper} {i₀ : Nat} {rest₀ : List Nat} {k₀ : List Item} {cs : List Frame}
/-- AT unlockSlow's LOOP HEAD, all other temporaries whatever. -/
def UHead (C : Cf) (W : World) (b₀ : Frame) (a₀ : Act) (ops₀ : Array Oper) (i₀ : Nat) (rest₀ : List Nat) (k₀ : List Item) (cs : List Frame) (k : Nat) (m : Wd) : Prop :=
  ∀ (j1 j2 j3 j5 j6 j7 j8 j9 j10 j11 j12 j13 j14 j15 j16 j17 j18 j19 j20 j21 j22 j23 j24 j25 j26 j27 j28 j29 j30 j31 j32 j33 j34 j35 j36 j37 j38 j39 j40 j41 j42 : Value) (w : World), KW C W w →
    GD C k (uck m) 110 (G ((base 82).at ⟨#[.pointer (some ⟨C.tp.On, 1, Option.none⟩), j1, j2, j3, .int .i32 (muZ m), j5, j6, j7, j8, j9, j10, j11, j12, j13, j14, j15, j16, j17, j18, j19, j20, j21, j22, j23, j24, j25, j26, j27, j28, j29, j30, j31, j32, j33, j34, j35, j36, j37, j38, j39, j40, j41, j42], []⟩ [.code LL82, .inLoop LL82, .inBlock 0]) (b₀.at a₀ (.inRegion ops₀ (i₀ :: rest₀) :: k₀) :: cs)) w

set_option maxRecDepth 100000 in
set_option maxHeartbeats 16000000 in
theorem uhead (hP : C.P = Try.prog) (Ge : Geo C) (hR : ∀ k' w, KW C W w → GD C k' (at_ .ue) 20 (G (b₀.at (a₀.put ((ops₀[i₀]?).bind (·.dst)) (.tuple #[])) (.inRegion ops₀ rest₀ :: k₀)) cs) w) :
    ∀ k m, m.n ≤ 16 → UHead C W b₀ a₀ ops₀ i₀ rest₀ k₀ cs k m := by
  intro k
  induction k using Nat.strongRecOn with
  | _ k ih =>
  intro m hn
  have hd := muZ_div m
  have hR' := hR k
  refine (fun j1 j2 j3 j5 j6 j7 j8 j9 j10 j11 j12 j13 j14 j15 j16 j17 j18 j19 j20 j21 j22 j23 j24 j25 j26 j27 j28 j29 j30 j31 j32 j33 j34 j35 j36 j37 j38 j39 j40 j41 j42 w hF => ?_)
  by_cases h0 : m.n = 0
  · have e1 : ((m.n : Int) == 0) = true := by rw [h0]; rfl
    rw [show uck m = at_ .ue by simp [uck, h0]]
    simp only [LL82, body82, findLoop, Try.f82, Option.getD_some]
    repeat (first | w_go KW.rely | simp only [hd, e1])
    u_leave0 Try.func82 KW.rely hF
    exact goes_le (by omega) (hR' _ hF)
  have e1 : ((m.n : Int) == 0) = false := by simp; omega
  by_cases h7 : m.l = true ∨ m.w = true ∨ m.s = true
  · have e2 : (bits BinOp.and IntKind.i32 (muZ m) 7 != 0) = true := by
      rw [z_and7 (by omega)]
      have := bz_le m.l; have := bz_le m.w; have := bz_le m.s
      rcases h7 with h | h | h <;> rw [h] <;> simp [bz] <;> omega
    rw [show uck m = at_ .ue by simp [uck, h7]]
    simp only [LL82, body82, findLoop, Try.f82, Option.getD_some]
    repeat (first | w_go KW.rely | simp only [hd, e1, e2])
    u_leave0 Try.func82 KW.rely hF
    exact goes_le (by omega) (hR' _ hF)
  have e2 : (bits BinOp.and IntKind.i32 (muZ m) 7 != 0) = false := by
    simp only [not_or, Bool.not_eq_true] at h7
    rw [z_and7 (by omega), h7.1, h7.2.1, h7.2.2]; rfl
  have eU : uck m = { pc := .uc, old := m } := by
    simp only [uck]; rw [if_neg]; simp only [not_or]; simp only [not_or] at h7; exact ⟨h0, h7⟩
  have e3 : bits BinOp.or IntKind.i32 ((muZ m - 8 + 2147483648) % 4294967296 - 2147483648) 2 = muZ { m with n := m.n - 1, w := true } := by
    rw [z_sub8 (by omega) h0, z_or2 (m := { m with n := m.n - 1 }) (by show m.n - 1 ≤ 18; omega)]
  rw [eU]
  simp only [LL82, body82, findLoop, Try.f82, Option.getD_some]
  repeat (first | w_go KW.rely | simp only [hd, e1, e2])
  try simp only [e3]
  -- STOP uc
  refine at_stop hF fun k w hk hF => stpWay hP rfl (by simp) rfl (by simp [Th.wakes]) fun s hs hsm => ?_
  by_cases hm : s.mu = m
  · refine ⟨(at_ .us, { s with mu := { s.mu with n := s.mu.n - 1, w := true } }), by simp [wmv, hm], fun _ => ⟨_, _, _, stepG_cas_hit rfl rfl (by k_ne) rfl Try.func79 x79_n x79_b x79_x .i32 x79_f rfl rfl rfl (hm ▸ hs.muC) (hs.onThaw 1), hs.setMu Ge (by rw [hm]), Eff.set _ _ (.inl rfl), evW (by simp) (bk_rw (C := C) 0 (muA C.tp.On) (.inl rfl)), afterT hP (by simp) 60 ?_⟩⟩
    have hF := hF.eff Ge (Eff.set (muA C.tp.On) (.int .i32 (muZ { m with n := m.n - 1, w := true })) (.inl rfl)) (hs.setMu Ge rfl)
    walk_nrm
    repeat w_go KW.rely
    -- STOP us
    refine at_stop hF fun k w hk hF => stpWay hP rfl (by simp) rfl (fun _ => mayWake_entry rfl rfl Try.func89 x89_b) fun s hs hsm => ?_
    have hw1 : IntKind.u32.wrap ((s.ms : Int) + 1) = ((s.ms + 1 : Nat) : Int) := by have := hsm.ms; rw [IntKind.wrap_u32]; omega
    have hR' := hR k
    refine ⟨(at_ .ue, { s with ms := s.ms + 1 }), by simp [wmv], fun _ => ⟨_, _, _, stepG_semrelease rfl rfl (by k_ne) rfl Try.func89 x89_n x89_b x89_x x89_f (by simp [Act.eval]; rfl) hs.msC (hs.onThaw 2), hs.setMs Ge hw1, Eff.set _ _ (.inl rfl), evW (by simp) (bk_sem (C := C) 0 (msA C.tp.On) (.inl rfl)), afterT hP (by simp) 50 ?_⟩⟩
    have hF := hF.eff Ge (Eff.set (msA C.tp.On) (.int .u32 (IntKind.u32.wrap ((s.ms : Int) + 1))) (.inl rfl)) (hs.setMs Ge hw1)
    clear hw1
    walk_nrm
    repeat w_go KW.rely
    u_leave0 Try.func82 KW.rely hF
    exact goes_le (by omega) (hR' _ hF)
  · refine ⟨(at_ .ux, s), by simp [wmv, hm], fun _ => ⟨_, _, _, stepG_cas_miss rfl rfl (by k_ne) rfl Try.func79 x79_n x79_b x79_x .i32 x79_f rfl rfl rfl hs.muC (hs.onThaw 1) (fun e => hm (muZ_inj e)), hs, Eff.refl _, evW (by simp) (bk_one (C := C) 0 (muA C.tp.On) false (.inl rfl)), afterT hP (by simp) 60 ?_⟩⟩
    walk_nrm
    repeat w_go KW.rely
    -- STOP ux
    refine at_stop hF fun k' w hk' hF => stpWay hP rfl (by simp) rfl (by simp [Th.wakes]) fun s hs hsm => ?_
    have hH := ih k' (by omega) s.mu hsm.n
    refine ⟨(uck s.mu, s), by simp [wmv], fun _ => ⟨_, _, _, stepG_loadQ rfl rfl (by k_ne) rfl rfl hs.muC q82, hs, Eff.refl _, evW (by simp) ?_, afterT hP ?_ 150 ?_⟩⟩
    · have : (uck s.mu).deaf = 1 := by unfold uck; split <;> rfl
      rw [this]; exact bk_nil (C := C) 1
    · unfold uck; split <;> simp
    walk_nrm
    repeat w_nl KW.rely
    u_c stepG_inLoop KW.rely hF
    exact goes_le (by omega) (hH _ _ _ _ _ _ _ _ _ _ _ _ _ _ _ _ _ _ _ _ _ _ _ _ _ _ _ _ _ _ _ _ _ _ _ _ _ _ _ _ _ _ hF)

set_option maxRecDepth 100000 in
set_option maxHeartbeats 16000000 in
/-- ████ unlockSlow, from its entry. ████ -/
theorem slowU (hP : C.P = Try.prog) (Ge : Geo C) (hR : ∀ k' w, KW C W w → GD C k' (at_ .ue) 20 (G (b₀.at (a₀.put ((ops₀[i₀]?).bind (·.dst)) (.tuple #[])) (.inRegion ops₀ rest₀ :: k₀)) cs) w)
    (m : Wd) (hn : m.n ≤ 16) (hl : m.l = false) (k : Nat) : ∀ w, KW C W w → GD C k (if m.s then at_ .us else uck m) 200 (G ((base 82).at ⟨#[.pointer (some ⟨C.tp.On, 1, Option.none⟩), .int .i32 (muZ m), undef, undef, undef, undef, undef, undef, undef, undef, undef, undef, undef, undef, undef, undef, undef, undef, undef, undef, undef, undef, undef, undef, undef, undef, undef, undef, undef, undef, undef, undef, undef, undef, undef, undef, undef, undef, undef, undef, undef, undef, undef], []⟩ [.code body82]) (b₀.at a₀ (.inRegion ops₀ (i₀ :: rest₀) :: k₀) :: cs)) w := by
  have e1 := z_was (m := m) (by omega) hl
  cases hs4 : m.s with
  | true =>
    have e2 : (bits BinOp.and IntKind.i32 (muZ m) 4 == 0) = false := by rw [z_and4 (by omega), hs4]; rfl
    intro w hF
    simp only [body82, Try.f82, Option.getD_some, if_true]
    repeat (first | w_go KW.rely | simp only [e1, e2])
    refine at_stop hF fun k w hk hF => stpWay hP rfl (by simp) rfl (fun _ => mayWake_entry rfl rfl Try.func89 x89_b) fun s hs hsm => ?_
    have hw1 : IntKind.u32.wrap ((s.ms : Int) + 1) = ((s.ms + 1 : Nat) : Int) := by have := hsm.ms; rw [IntKind.wrap_u32]; omega
    have hR' := hR k
    refine ⟨(at_ .ue, { s with ms := s.ms + 1 }), by simp [wmv], fun _ => ⟨_, _, _, stepG_semrelease rfl rfl (by k_ne) rfl Try.func89 x89_n x89_b x89_x x89_f (by simp [Act.eval]; rfl) hs.msC (hs.onThaw 2), hs.setMs Ge hw1, Eff.set _ _ (.inl rfl), evW (by simp) (bk_sem (C := C) 0 (msA C.tp.On) (.inl rfl)), afterT hP (by simp) 50 ?_⟩⟩
    have hF := hF.eff Ge (Eff.set (msA C.tp.On) (.int .u32 (IntKind.u32.wrap ((s.ms : Int) + 1))) (.inl rfl)) (hs.setMs Ge hw1)
    clear hw1
    walk_nrm
    repeat w_go KW.rely
    u_leave0 Try.func82 KW.rely hF
    exact goes_le (by omega) (hR' _ hF)
  | false =>
    have e2 : (bits BinOp.and IntKind.i32 (muZ m) 4 == 0) = true := by rw [z_and4 (by omega), hs4]; rfl
    have hH := uhead hP Ge hR k m hn
    intro w hF
    simp only [body82, Try.f82, Option.getD_some, Bool.false_eq_true, if_false]
    repeat (first | w_bar KW.rely | simp only [e1, e2])
    u_c stepG_loop KW.rely hF
    exact goes_le (by omega) (hH _ _ _ _ _ _ _ _ _ _ _ _ _ _ _ _ _ _ _ _ _ _ _ _ _ _ _ _ _ _ _ _ _ _ _ _ _ _ _ _ _ _ hF)
end
end Go.Proofs.Ytpkiojchlficcaa.Crew
