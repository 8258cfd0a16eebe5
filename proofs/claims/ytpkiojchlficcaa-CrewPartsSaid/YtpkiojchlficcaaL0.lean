/- The walks: lockSlow: its places, what is said of each; its end: le, la. -/
import Derived.Test.YtpkiojchlficcaaGround
import Derived.Test.YtpkiojchlficcaaWord
set_option linter.unusedSimpArgs false
namespace Go.Proofs.Ytpkiojchlficcaa.Crew
open Go Go.Conc Go.ConcN Go.RowKit Go.Conc.Lib Go.ConcR.Gen
open Go.ConcM (OsLater goes_pad goes_le)
open Go.ConcR (KK wgBlock WgAt stA smA rd wr mk DC0)
def s0 : Code → Code
  | .seq a _ => a
  | .cond _ a _ => a
  | .block _ c => c
  | .loop c => c
  | c => c
def s1 : Code → Code
  | .seq _ b => b
  | .cond _ _ b => b
  | c => c
noncomputable def body80 : Code := Try.f80.body.getD .skip
noncomputable def LL80 : Code := (s0 (s0 (s0 (s1 (s1 (s1 (s1 (s1 body80))))))))
noncomputable def REST80 : Code := (s1 (s1 (s1 (s1 (s1 (s1 body80))))))
noncomputable def TAIL80 : Code := (s1 (s0 (s0 (s0 (s0 (s1 (s1 (s1 (s1 (s1 body80))))))))))
noncomputable def SPIN80 : Code := (s1 (s0 (s1 (s0 (s0 (s0 (s0 (s0 (s1 (s1 (s1 (s1 (s1 body80)))))))))))))
noncomputable def C2N80 : Code := (s1 (s1 (s1 (s1 (s1 (s1 (s0 (s0 (s0 (s0 (s1 (s1 (s1 (s1 (s1 body80)))))))))))))))
noncomputable def S1N80 : Code := (s1 (s1 (s1 (s0 (s1 (s1 (s1 (s1 (s1 (s1 (s1 (s0 (s0 (s0 (s0 (s1 (s1 (s1 (s1 (s1 body80))))))))))))))))))))
noncomputable def R2N80 : Code := (s1 (s1 (s1 (s1 (s1 (s0 (s1 (s1 (s1 (s1 (s1 (s1 (s1 (s0 (s0 (s0 (s0 (s1 (s1 (s1 (s1 (s1 body80))))))))))))))))))))))
noncomputable def IT80 (c : Code) : List Item := [.code c, .inBlock 1, .inLoop LL80, .inBlock 0, .code REST80]
theorem hd_deaf (T : Th) (h : (hd T).pc ≠ .bad) : (hd T).deaf = 1 ∧ (hd T).pc ≠ .quit := by
  unfold hd at h ⊢
  split
  · simp [Th.deaf]
  · rename_i c
    rw [if_neg c] at h
    unfold toC2 at h ⊢
    split
    · rename_i c2; rw [if_pos c2] at h; simp at h
    · simp [Th.deaf]
section
variable [Cap]
/-- AT A PLACE OF lockSlow's, its locals as 'T' says (waitStartTime: 'wst'), all other temporaries whatever: it goes on to the stop 'T₁', at depth k. -/
def PosAt (C : Cf) (W : World) (b₁ : Frame) (a₁ : Act) (ops₁ : Array Oper) (i₁ : Nat) (rest₁ : List Nat) (k₁ : List Item) (cs₁ : List Frame) (its : List Item) (k : Nat) (T₁ T : Th) (wst : Int) : Prop :=
  ∃ m, ∀ (j1 j7 j8 j9 j10 j11 j12 j13 j14 j15 j16 j17 j18 j19 j20 j21 j22 j23 j24 j25 j26 j27 j28 j29 j30 j31 j32 j33 j34 j35 j36 j37 j38 j39 j40 j41 j42 j43 j44 j45 j46 j47 j48 j49 j50 j51 j52 j53 j54 j55 j56 j57 j58 j59 j60 j61 j62 j63 j64 j65 j66 j67 j68 j69 j70 j71 j72 j73 j74 j75 j76 j77 j78 j79 j80 j81 j82 j83 j84 j85 j86 j87 j88 j89 j90 j91 j92 j93 j94 j95 j96 j97 j98 j99 j100 j101 j102 j103 j104 j105 j106 j107 j108 j109 j110 j111 j112 j113 j114 j115 j116 j117 j118 j119 j120 j121 j122 j123 j124 j125 j126 j127 j128 j129 j130 j131 j132 j133 j134 j135 j136 j137 j138 : Value) (w : World), KW C W w →
    GD C k T₁ m (G ((base 80).at ⟨#[.pointer (some ⟨C.tp.On, 1, Option.none⟩), j1, .int .i64 wst, .bool T.sv, .bool T.aw, .int .i64 (T.it : Int), .int .i32 (muZ T.old), j7, j8, j9, j10, j11, j12, j13, j14, j15, j16, j17, j18, j19, j20, j21, j22, j23, j24, j25, j26, j27, j28, j29, j30, j31, j32, j33, j34, j35, j36, j37, j38, j39, j40, j41, j42, j43, j44, j45, j46, j47, j48, j49, j50, j51, j52, j53, j54, j55, j56, j57, j58, j59, j60, j61, j62, j63, j64, j65, j66, j67, j68, j69, j70, j71, j72, j73, j74, j75, j76, j77, j78, j79, j80, j81, j82, j83, j84, j85, j86, j87, j88, j89, j90, j91, j92, j93, j94, j95, j96, j97, j98, j99, j100, j101, j102, j103, j104, j105, j106, j107, j108, j109, j110, j111, j112, j113, j114, j115, j116, j117, j118, j119, j120, j121, j122, j123, j124, j125, j126, j127, j128, j129, j130, j131, j132, j133, j134, j135, j136, j137, j138], []⟩ its) (b₁.at a₁ (.inRegion ops₁ (i₁ :: rest₁) :: k₁) :: cs₁)) w
/-- .. its 'new' reckoned. -/
def PosN (C : Cf) (W : World) (b₁ : Frame) (a₁ : Act) (ops₁ : Array Oper) (i₁ : Nat) (rest₁ : List Nat) (k₁ : List Item) (cs₁ : List Frame) (its : List Item) (k : Nat) (T₁ T : Th) (wst : Int) (nw : Wd) : Prop :=
  ∃ m, ∀ (j1 j8 j9 j10 j11 j12 j13 j14 j15 j16 j17 j18 j19 j20 j21 j22 j23 j24 j25 j26 j27 j28 j29 j30 j31 j32 j33 j34 j35 j36 j37 j38 j39 j40 j41 j42 j43 j44 j45 j46 j47 j48 j49 j50 j51 j52 j53 j54 j55 j56 j57 j58 j59 j60 j61 j62 j63 j64 j65 j66 j67 j68 j69 j70 j71 j72 j73 j74 j75 j76 j77 j78 j79 j80 j81 j82 j83 j84 j85 j86 j87 j88 j89 j90 j91 j92 j93 j94 j95 j96 j97 j98 j99 j100 j101 j102 j103 j104 j105 j106 j107 j108 j109 j110 j111 j112 j113 j114 j115 j116 j117 j118 j119 j120 j121 j122 j123 j124 j125 j126 j127 j128 j129 j130 j131 j132 j133 j134 j135 j136 j137 j138 : Value) (w : World), KW C W w →
    GD C k T₁ m (G ((base 80).at ⟨#[.pointer (some ⟨C.tp.On, 1, Option.none⟩), j1, .int .i64 wst, .bool T.sv, .bool T.aw, .int .i64 (T.it : Int), .int .i32 (muZ T.old), .int .i32 (muZ nw), j8, j9, j10, j11, j12, j13, j14, j15, j16, j17, j18, j19, j20, j21, j22, j23, j24, j25, j26, j27, j28, j29, j30, j31, j32, j33, j34, j35, j36, j37, j38, j39, j40, j41, j42, j43, j44, j45, j46, j47, j48, j49, j50, j51, j52, j53, j54, j55, j56, j57, j58, j59, j60, j61, j62, j63, j64, j65, j66, j67, j68, j69, j70, j71, j72, j73, j74, j75, j76, j77, j78, j79, j80, j81, j82, j83, j84, j85, j86, j87, j88, j89, j90, j91, j92, j93, j94, j95, j96, j97, j98, j99, j100, j101, j102, j103, j104, j105, j106, j107, j108, j109, j110, j111, j112, j113, j114, j115, j116, j117, j118, j119, j120, j121, j122, j123, j124, j125, j126, j127, j128, j129, j130, j131, j132, j133, j134, j135, j136, j137, j138], []⟩ its) (b₁.at a₁ (.inRegion ops₁ (i₁ :: rest₁) :: k₁) :: cs₁)) w
/-- .. its locals whatever. -/
def PosE (C : Cf) (W : World) (b₁ : Frame) (a₁ : Act) (ops₁ : Array Oper) (i₁ : Nat) (rest₁ : List Nat) (k₁ : List Item) (cs₁ : List Frame) (its : List Item) (k : Nat) (T₁ : Th) : Prop :=
  ∃ m, ∀ (j1 j2 j3 j4 j5 j6 j7 j8 j9 j10 j11 j12 j13 j14 j15 j16 j17 j18 j19 j20 j21 j22 j23 j24 j25 j26 j27 j28 j29 j30 j31 j32 j33 j34 j35 j36 j37 j38 j39 j40 j41 j42 j43 j44 j45 j46 j47 j48 j49 j50 j51 j52 j53 j54 j55 j56 j57 j58 j59 j60 j61 j62 j63 j64 j65 j66 j67 j68 j69 j70 j71 j72 j73 j74 j75 j76 j77 j78 j79 j80 j81 j82 j83 j84 j85 j86 j87 j88 j89 j90 j91 j92 j93 j94 j95 j96 j97 j98 j99 j100 j101 j102 j103 j104 j105 j106 j107 j108 j109 j110 j111 j112 j113 j114 j115 j116 j117 j118 j119 j120 j121 j122 j123 j124 j125 j126 j127 j128 j129 j130 j131 j132 j133 j134 j135 j136 j137 j138 : Value) (w : World), KW C W w →
    GD C k T₁ m (G ((base 80).at ⟨#[.pointer (some ⟨C.tp.On, 1, Option.none⟩), j1, j2, j3, j4, j5, j6, j7, j8, j9, j10, j11, j12, j13, j14, j15, j16, j17, j18, j19, j20, j21, j22, j23, j24, j25, j26, j27, j28, j29, j30, j31, j32, j33, j34, j35, j36, j37, j38, j39, j40, j41, j42, j43, j44, j45, j46, j47, j48, j49, j50, j51, j52, j53, j54, j55, j56, j57, j58, j59, j60, j61, j62, j63, j64, j65, j66, j67, j68, j69, j70, j71, j72, j73, j74, j75, j76, j77, j78, j79, j80, j81, j82, j83, j84, j85, j86, j87, j88, j89, j90, j91, j92, j93, j94, j95, j96, j97, j98, j99, j100, j101, j102, j103, j104, j105, j106, j107, j108, j109, j110, j111, j112, j113, j114, j115, j116, j117, j118, j119, j120, j121, j122, j123, j124, j125, j126, j127, j128, j129, j130, j131, j132, j133, j134, j135, j136, j137, j138], []⟩ its) (b₁.at a₁ (.inRegion ops₁ (i₁ :: rest₁) :: k₁) :: cs₁)) w
end
section
variable [Cap] {C : Cf} {W : World}
variable {b₁ : Frame} {a₁ : Act} {ops₁ : Array Oper} {i₁ : Nat} {rest₁ : List Nat} {k₁ : List Item} {cs₁ : List Frame}

set_option maxRecDepth 100000 in
set_option maxHeartbeats 16000000 in
/-- lockSlow's end: le, la. -/
theorem leGo (hP : C.P = Try.prog) (hT : ∀ k', ∃ m, ∀ w, KW C W w → GD C k' (at_ .o2) m (G (b₁.at (a₁.put ((ops₁[i₁]?).bind (·.dst)) (.tuple #[])) (.inRegion ops₁ rest₁ :: k₁)) cs₁) w) (k : Nat) : PosE C W b₁ a₁ ops₁ i₁ rest₁ k₁ cs₁ [.code REST80] k (at_ .le) := by
  refine ⟨30, fun j1 j2 j3 j4 j5 j6 j7 j8 j9 j10 j11 j12 j13 j14 j15 j16 j17 j18 j19 j20 j21 j22 j23 j24 j25 j26 j27 j28 j29 j30 j31 j32 j33 j34 j35 j36 j37 j38 j39 j40 j41 j42 j43 j44 j45 j46 j47 j48 j49 j50 j51 j52 j53 j54 j55 j56 j57 j58 j59 j60 j61 j62 j63 j64 j65 j66 j67 j68 j69 j70 j71 j72 j73 j74 j75 j76 j77 j78 j79 j80 j81 j82 j83 j84 j85 j86 j87 j88 j89 j90 j91 j92 j93 j94 j95 j96 j97 j98 j99 j100 j101 j102 j103 j104 j105 j106 j107 j108 j109 j110 j111 j112 j113 j114 j115 j116 j117 j118 j119 j120 j121 j122 j123 j124 j125 j126 j127 j128 j129 j130 j131 j132 j133 j134 j135 j136 j137 j138 w hF => ?_⟩
  simp only [LL80, REST80, TAIL80, SPIN80, S1N80, R2N80, C2N80, IT80, body80, s0, s1, Try.f80, Option.getD_some]
  repeat w_go KW.rely
  refine at_stop hF fun k w hk hF => stpWay hP rfl (by simp) rfl (by simp [Th.wakes]) fun s hs _ => ⟨(at_ .la, s), by simp [wmv], fun _ => ⟨_, _, _, stepG_mark0 .enable (by simp) rfl rfl (by k_ne) rfl wgLib.f_enable (x_enable_n lk) (x_enable_b lk) (x_enable_x lk) (x_enable_f lk), hs, Eff.refl _, evW (by simp) (bk_en (C := C) 0), afterT hP (by simp) 30 ?_⟩⟩
  walk_nrm
  repeat w_go KW.rely
  m_convG Try.prog wgLib.underlying_tUP u110 z65 hF.mu.choose_spec KW.rely hF
  refine at_stop hF fun k w hk hF => stpWay hP rfl (by simp) rfl (by simp [Th.wakes]) fun s hs _ => ?_
  obtain ⟨mT, hT'⟩ := hT k
  refine ⟨(at_ .o2, s), by simp [wmv], fun _ => ⟨_, _, _, stepG_markAt .acquire (by simp) rfl rfl (by k_ne) rfl wgLib.f_acquire (x_acquire_n lk) (x_acquire_b lk) (x_acquire_x lk) (x_acquire_f lk) (by simp [Act.eval]; rfl), hs, Eff.refl _, evW (by simp) (bk_acq (C := C) 0), afterT hP (by simp) (mT + 20) ?_⟩⟩
  walk_nrm
  repeat w_go KW.rely
  u_leave0 Try.func80 KW.rely hF
  exact goes_pad (hT' _ hF) _

set_option maxRecDepth 100000 in
set_option maxHeartbeats 16000000 in
/-- Behind the wait: r2: the lock is handed over: a1; or once more to the loop's head. -/
theorem r2Go (hP : C.P = Try.prog) (Ge : Geo C) (hT : ∀ k', ∃ m, ∀ w, KW C W w → GD C k' (at_ .o2) m (G (b₁.at (a₁.put ((ops₁[i₁]?).bind (·.dst)) (.tuple #[])) (.inRegion ops₁ rest₁ :: k₁)) cs₁) w) (k : Nat) (ih : ∀ k', k' < k → ∀ (T : Th) (wst : Int), T.old.n ≤ 16 → T.it ≤ 4 → (hd T).pc ≠ .bad → PosAt C W b₁ a₁ ops₁ i₁ rest₁ k₁ cs₁ [.code LL80, .inLoop LL80, .inBlock 0, .code REST80] k' (hd T) T wst) (T : Th) (wst : Int) : PosAt C W b₁ a₁ ops₁ i₁ rest₁ k₁ cs₁ (IT80 R2N80) k { T with pc := .r2 } T wst := by
  obtain ⟨pc, old, aw, sv, it⟩ := T
  refine ⟨30, fun j1 j7 j8 j9 j10 j11 j12 j13 j14 j15 j16 j17 j18 j19 j20 j21 j22 j23 j24 j25 j26 j27 j28 j29 j30 j31 j32 j33 j34 j35 j36 j37 j38 j39 j40 j41 j42 j43 j44 j45 j46 j47 j48 j49 j50 j51 j52 j53 j54 j55 j56 j57 j58 j59 j60 j61 j62 j63 j64 j65 j66 j67 j68 j69 j70 j71 j72 j73 j74 j75 j76 j77 j78 j79 j80 j81 j82 j83 j84 j85 j86 j87 j88 j89 j90 j91 j92 j93 j94 j95 j96 j97 j98 j99 j100 j101 j102 j103 j104 j105 j106 j107 j108 j109 j110 j111 j112 j113 j114 j115 j116 j117 j118 j119 j120 j121 j122 j123 j124 j125 j126 j127 j128 j129 j130 j131 j132 j133 j134 j135 j136 j137 j138 w hF => ?_⟩
  simp only [LL80, REST80, TAIL80, SPIN80, S1N80, R2N80, C2N80, IT80, body80, s0, s1, Try.f80, Option.getD_some]
  repeat w_go KW.rely
  refine at_stop hF fun k' w hk hF => stpWay hP rfl (by simp) rfl (by simp [Th.wakes]) fun s hs hsm => ?_
  have hsn := hsm.n
  cases hst : s.mu.s with
  | true =>
    by_cases hbad : s.mu.l = true ∨ s.mu.w = true ∨ s.mu.n = 0
    · exact ⟨(at_ .bad, s), by simp [wmv, hst, hbad], fun h => absurd rfl h⟩
    refine ⟨({ pc := .a1, old := s.mu, aw := aw, sv := sv, it := it }, s), by simp [wmv, hst, hbad], fun _ => ⟨_, _, _, stepG_loadQ rfl rfl (by k_ne) rfl rfl hs.muC q80, hs, Eff.refl _, evW (by simp) (bk_nil (C := C) 1), ?_⟩⟩
    simp only [not_or, Bool.not_eq_true] at hbad
    have e1 : (bits BinOp.and IntKind.i32 (muZ s.mu) 4 != 0) = true := by rw [y_and4n (by omega), hst]
    have e2 : (bits BinOp.and IntKind.i32 (muZ s.mu) 3 != 0) = false := by rw [y_and3n (by omega), hbad.1, hbad.2.1]; rfl
    have hd := muZ_div s.mu
    have e3 : ((s.mu.n : Int) == 0) = false := by simp; omega
    generalize hm : s.mu = m at *
    have hE := leGo hP hT
    cases sv with
    | false =>
      refine afterT hP (by simp) 120 ?_
      walk_nrm
      repeat (first | w_go KW.rely | simp only [e1, e2, e3, hd])
      refine at_stop hF fun k w hk hF => stpWay hP rfl (by simp) rfl (by simp [Th.wakes]) fun s hs hsm => ?_
      by_cases hbad' : s.mu.l = true ∨ s.mu.n = 0 ∨ s.mu.s = false
      · exact ⟨(at_ .bad, s), by simp [wmv, hbad'], fun h => absurd rfl h⟩
      have hbad2 := hbad'
      simp only [not_or, Bool.not_eq_true, Bool.not_eq_false] at hbad2
      have hz := z_take (m := s.mu) (by have := hsm.n; omega) hbad2.1 hbad2.2.2 hbad2.2.1 false
      simp only [Bool.false_eq_true, ↓reduceIte, if_true, if_false] at hz
      have hs' := hs.setMu Ge hz
      obtain ⟨mE, hE'⟩ := hE k
      refine ⟨(at_ .le, { s with mu := { l := true, w := s.mu.w, s := false, n := s.mu.n - 1 } }), by simp [wmv, hbad', *], fun _ => ⟨_, _, _, stepG_add_atomic rfl rfl (by k_ne) rfl Try.func81 x81_n x81_b x81_x .i32 x81_f rfl rfl hs.muC (hs.onThaw 1), hs', Eff.set _ _ (.inl rfl), evW (by simp) (bk_rw (C := C) 0 (muA C.tp.On) (.inl rfl)), afterT hP (by simp) (mE + 60) ?_⟩⟩
      have hF := hF.eff Ge (Eff.set _ _ (.inl rfl)) hs'
      clear hz hs'
      walk_nrm
      repeat w_but "code.exit" KW.rely
      u_exit KW.rely hF
      exact goes_pad (hE' _ _ _ _ _ _ _ _ _ _ _ _ _ _ _ _ _ _ _ _ _ _ _ _ _ _ _ _ _ _ _ _ _ _ _ _ _ _ _ _ _ _ _ _ _ _ _ _ _ _ _ _ _ _ _ _ _ _ _ _ _ _ _ _ _ _ _ _ _ _ _ _ _ _ _ _ _ _ _ _ _ _ _ _ _ _ _ _ _ _ _ _ _ _ _ _ _ _ _ _ _ _ _ _ _ _ _ _ _ _ _ _ _ _ _ _ _ _ _ _ _ _ _ _ _ _ _ _ _ _ _ _ _ _ _ _ _ _ _ hF) _
    | true =>
      by_cases h1 : m.n = 1
      · have e4 : ((m.n : Int) == 1) = true := by rw [h1]; rfl
        refine afterT hP (by simp) 120 ?_
        walk_nrm
        repeat (first | w_go KW.rely | simp only [e1, e2, e3, e4, hd])
        refine at_stop hF fun k w hk hF => stpWay hP rfl (by simp) rfl (by simp [Th.wakes]) fun s hs hsm => ?_
        by_cases hbad' : s.mu.l = true ∨ s.mu.n = 0 ∨ s.mu.s = false
        · exact ⟨(at_ .bad, s), by simp [wmv, hbad'], fun h => absurd rfl h⟩
        have hbad2 := hbad'
        simp only [not_or, Bool.not_eq_true, Bool.not_eq_false] at hbad2
        have hz := z_take (m := s.mu) (by have := hsm.n; omega) hbad2.1 hbad2.2.2 hbad2.2.1 false
        simp only [Bool.false_eq_true, ↓reduceIte, if_true, if_false] at hz
        have hs' := hs.setMu Ge hz
        obtain ⟨mE, hE'⟩ := hE k
        refine ⟨(at_ .le, { s with mu := { l := true, w := s.mu.w, s := false, n := s.mu.n - 1 } }), by simp [wmv, hbad', *], fun _ => ⟨_, _, _, stepG_add_atomic rfl rfl (by k_ne) rfl Try.func81 x81_n x81_b x81_x .i32 x81_f rfl rfl hs.muC (hs.onThaw 1), hs', Eff.set _ _ (.inl rfl), evW (by simp) (bk_rw (C := C) 0 (muA C.tp.On) (.inl rfl)), afterT hP (by simp) (mE + 60) ?_⟩⟩
        have hF := hF.eff Ge (Eff.set _ _ (.inl rfl)) hs'
        clear hz hs'
        walk_nrm
        repeat w_but "code.exit" KW.rely
        u_exit KW.rely hF
        exact goes_pad (hE' _ _ _ _ _ _ _ _ _ _ _ _ _ _ _ _ _ _ _ _ _ _ _ _ _ _ _ _ _ _ _ _ _ _ _ _ _ _ _ _ _ _ _ _ _ _ _ _ _ _ _ _ _ _ _ _ _ _ _ _ _ _ _ _ _ _ _ _ _ _ _ _ _ _ _ _ _ _ _ _ _ _ _ _ _ _ _ _ _ _ _ _ _ _ _ _ _ _ _ _ _ _ _ _ _ _ _ _ _ _ _ _ _ _ _ _ _ _ _ _ _ _ _ _ _ _ _ _ _ _ _ _ _ _ _ _ _ _ _ hF) _
      · have e4 : ((m.n : Int) == 1) = false := by simp; omega
        have e5 : (m.n != 1) = true := by simpa using h1
        refine afterT hP (by simp) 120 ?_
        walk_nrm
        repeat (first | w_go KW.rely | simp only [e1, e2, e3, e4, hd])
        refine at_stop hF fun k w hk hF => stpWay hP rfl (by simp) rfl (by simp [Th.wakes]) fun s hs hsm => ?_
        by_cases hbad' : s.mu.l = true ∨ s.mu.n = 0 ∨ s.mu.s = false
        · exact ⟨(at_ .bad, s), by simp [wmv, hbad'], fun h => absurd rfl h⟩
        have hbad2 := hbad'
        simp only [not_or, Bool.not_eq_true, Bool.not_eq_false] at hbad2
        have hz := z_take (m := s.mu) (by have := hsm.n; omega) hbad2.1 hbad2.2.2 hbad2.2.1 true
        simp only [Bool.false_eq_true, ↓reduceIte, if_true, if_false] at hz
        have hs' := hs.setMu Ge hz
        obtain ⟨mE, hE'⟩ := hE k
        refine ⟨(at_ .le, { s with mu := { l := true, w := s.mu.w, s := true, n := s.mu.n - 1 } }), by simp [wmv, hbad', *], fun _ => ⟨_, _, _, stepG_add_atomic rfl rfl (by k_ne) rfl Try.func81 x81_n x81_b x81_x .i32 x81_f rfl rfl hs.muC (hs.onThaw 1), hs', Eff.set _ _ (.inl rfl), evW (by simp) (bk_rw (C := C) 0 (muA C.tp.On) (.inl rfl)), afterT hP (by simp) (mE + 60) ?_⟩⟩
        have hF := hF.eff Ge (Eff.set _ _ (.inl rfl)) hs'
        clear hz hs'
        walk_nrm
        repeat w_but "code.exit" KW.rely
        u_exit KW.rely hF
        exact goes_pad (hE' _ _ _ _ _ _ _ _ _ _ _ _ _ _ _ _ _ _ _ _ _ _ _ _ _ _ _ _ _ _ _ _ _ _ _ _ _ _ _ _ _ _ _ _ _ _ _ _ _ _ _ _ _ _ _ _ _ _ _ _ _ _ _ _ _ _ _ _ _ _ _ _ _ _ _ _ _ _ _ _ _ _ _ _ _ _ _ _ _ _ _ _ _ _ _ _ _ _ _ _ _ _ _ _ _ _ _ _ _ _ _ _ _ _ _ _ _ _ _ _ _ _ _ _ _ _ _ _ _ _ _ _ _ _ _ _ _ _ _ hF) _
  | false =>
    have e1 : (bits BinOp.and IntKind.i32 (muZ s.mu) 4 != 0) = false := by rw [y_and4n (by omega), hst]
    refine ⟨(hd { pc := .r2, old := s.mu, aw := true, sv := sv, it := 0 }, s), by simp [wmv, hst], fun hb => ?_⟩
    obtain ⟨mH, hH⟩ := ih k' (by omega) { pc := .r2, old := s.mu, aw := true, sv := sv, it := 0 } wst hsn (by simp) hb
    have hq : (hd { pc := .r2, old := s.mu, aw := true, sv := sv, it := 0 }).deaf = 1 ∧ (hd { pc := .r2, old := s.mu, aw := true, sv := sv, it := 0 }).pc ≠ .quit := hd_deaf _ hb
    refine ⟨_, _, _, stepG_loadQ rfl rfl (by k_ne) rfl rfl hs.muC q80, hs, Eff.refl _, evW (by simp) (by rw [hq.1]; exact bk_nil (C := C) 1), afterT hP hq.2 (mH + 60) ?_⟩
    walk_nrm
    repeat (first | w_nl KW.rely | simp only [e1])
    u_c stepG_inLoop KW.rely hF
    exact goes_pad (hH _ _ _ _ _ _ _ _ _ _ _ _ _ _ _ _ _ _ _ _ _ _ _ _ _ _ _ _ _ _ _ _ _ _ _ _ _ _ _ _ _ _ _ _ _ _ _ _ _ _ _ _ _ _ _ _ _ _ _ _ _ _ _ _ _ _ _ _ _ _ _ _ _ _ _ _ _ _ _ _ _ _ _ _ _ _ _ _ _ _ _ _ _ _ _ _ _ _ _ _ _ _ _ _ _ _ _ _ _ _ _ _ _ _ _ _ _ _ _ _ _ _ _ _ _ _ _ _ _ _ _ _ _ _ hF) _
end
end Go.Proofs.Ytpkiojchlficcaa.Crew
