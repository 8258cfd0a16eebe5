/- The walks: the giver: give's loop; hands' loop: Add and go, N times; give; close; Wait: from the loop's head to the caller. -/
import Derived.Test.YtpkiojchlficcaaWt
import Derived.Test.YtpkiojchlficcaaWk
set_option linter.unusedSimpArgs false
namespace Go.Proofs.Ytpkiojchlficcaa.Crew
open Go Go.Conc Go.ConcN Go.RowKit Go.Conc.Lib Go.ConcR.Gen
open Go.ConcM (OsLater goes_pad goes_le)
open Go.ConcR (KK wgBlock WgAt stA smA rd wr mk DC0)
/-- What is no rewrite rule. -/
def Hide (p : Prop) : Prop := p
theorem hide {p : Prop} (h : p) : Hide p := h
noncomputable def body43 : Code := Try.f43.body.getD .skip
noncomputable def LL43 : Code := (findLoop39 body43).getD .skip
noncomputable def body28 : Code := Try.f28.body.getD .skip
noncomputable def LL28 : Code := (s0' (s0' (s1' (s0' (s1' (s1' (s1' (s1' (s1' body28)))))))))
noncomputable def REST28 : Code := (s1' (s1' (s1' (s1' (s1' (s1' body28))))))
theorem loud28 : (Try.prog.funcs[(base 28).fn]?).any (·.norace) = false := by kernel_rfl
theorem sel1_0 (Pl St : Nat) (x : Value) : commResult #[scase Pl x zI, rcase St zU] .select 0 undef false = .tuple #[.int .i64 0, .bool false, zU] := by
  simp [commResult, rcase, scase, goInt, List.zipIdx]
theorem sel1_1 (Pl St : Nat) (x v : Value) (ok : Bool) : commResult #[scase Pl x zI, rcase St zU] .select 1 v ok = .tuple #[.int .i64 1, .bool ok, v] := by
  simp [commResult, rcase, scase, goInt, List.zipIdx]
section
variable {P : Program} {main : Bool} {R : World → World → Prop} {D D' : World → World → Array Event → Prop} {Stop T : Goroutine → World → Prop}
/-- A stretch to where T holds, and on from there. -/
theorem goes_then (hR : ∀ w, R w w) (hD : ∀ w w' es, D' w w' es → D w w' es) {M : Nat} (hT : ∀ g w, T g w → Goes P main R D Stop M g w) : ∀ {m : Nat} {g : Goroutine} {w : World}, Goes P main R D' T m g w → Goes P main R D Stop (m + M) g w
  | 0, g, w, h => by
    rw [Nat.zero_add]
    exact hT g w (h w (hR w))
  | n + 1, g, w, h => by
    rcases h with h | ⟨hs, h⟩
    · exact goes_le (by omega) (hT g w (h w (hR w)))
    · rw [show n + 1 + M = (n + M) + 1 by omega]
      refine .inr ⟨hs, fun w₁ r => ?_⟩
      have := h w₁ r
      revert this
      cases stepG P main g w₁ <;> simp only [GStep.goes, imp_self]
      exact fun ⟨d, x⟩ => ⟨hD _ _ _ d, goes_then hR hD hT x⟩
end
section
variable {C : Cf} {W : World} {N : Nat} {Anch : Goroutine → World → Prop}
/-- A stretch of the giver that may read, to the stop 'M' at depth k. -/
abbrev GX (C : Cf) (N : Nat) (Anch : Goroutine → World → Prop) (k : Nat) (M : Mp) (m : Nat) (g : Goroutine) (w : World) : Prop := Goes Try.prog true (RX C Option.none) (DX C Option.none false) (Mk C N Anch k M) m g w
theorem gx_of_gm {k m : Nat} {M : Mp} {g : Goroutine} {w : World} (h : GM C N Anch k M m g w) : GX C N Anch k M m g w := goes_mono (fun _ _ _ x => dx_of_dc0 x) (fun _ _ x => x) h
theorem afterX {k m : Nat} {M' : Mp} {g' : Goroutine} {w' : World} (hP : C.P = Try.prog) (h : GX C N Anch k M' m g' w') : AfterM C (Mk C N Anch k) M' g' w' :=
  ⟨m, by unfold GoesM; rw [hP]; exact h⟩
end
section
variable {C : Cf} {W : World} {N : Nat} {Anch : Goroutine → World → Prop}
variable {b₀ : Frame} {a₀ : Act} {ops₀ : Array Oper} {i₀ : Nat} {rest₀ : List Nat} {k₀ : List Item} {cs : List Frame}
/-- AT give's LOOP HEAD: zi places of zn given. -/
def IsGive (C : Cf) (b₀ : Frame) (a₀ : Act) (ops₀ : Array Oper) (i₀ : Nat) (rest₀ : List Nat) (k₀ : List Item) (cs : List Frame) (zn zi : Int) (g : Goroutine) : Prop :=
  ∃ j3 j4 j5 j6 j9 j10 j11 j12 j13 j14 j15 j16 j17 j18 : Value, g = G ((base 43).at ⟨#[.int .i64 zn, .chan (some C.tp.Pl), .chan (some C.tp.St), j3, j4, j5, j6, .int .i64 zn, .int .i64 zi, j9, j10, j11, j12, j13, j14, j15, j16, j17, j18], []⟩ [.code LL43, .inLoop LL43, .inBlock 0]) (b₀.at a₀ (.inRegion ops₀ (i₀ :: rest₀) :: k₀) :: cs)
set_option maxRecDepth 100000 in
set_option maxHeartbeats 16000000 in
theorem giveHead (hP : C.P = Try.prog) (hn : C.n < 4611686018427387904) {mT : Nat} (hT : ∀ k' w, KW C W w → GX C N Anch k' .cp mT (G (b₀.at (a₀.put ((ops₀[i₀]?).bind (·.dst)) (.tuple #[])) (.inRegion ops₀ rest₀ :: k₀)) cs) w) : ∀ k i, i ≤ C.n → ∀ (g : Goroutine) (w : World), IsGive C b₀ a₀ ops₀ i₀ rest₀ k₀ cs (C.n : Int) (i : Int) g ∧ KW C W w → GX C N Anch k (give C.n i) (60 + mT) g w := by
  intro k
  induction k using Nat.strongRecOn with
  | _ k ih =>
  intro i hi
  rcases Nat.lt_or_ge i C.n with hlt | hge
  · refine fun g w hgw => gx_of_gm ?_
    refine goes_le (show 60 ≤ 60 + mT by omega) ?_
    obtain ⟨⟨j3, j4, j5, j6, j9, j10, j11, j12, j13, j14, j15, j16, j17, j18, rfl⟩, hF⟩ := hgw
    rw [show give C.n i = .gs i from if_pos hlt]
    obtain ⟨zi, hzi⟩ : ∃ z : Int, Hide (z = (i : Int)) := ⟨_, hide rfl⟩
    obtain ⟨zn, hzn⟩ : ∃ z : Int, Hide (z = (C.n : Int)) := ⟨_, hide rfl⟩
    rw [← show zi = (i : Int) from hzi, ← show zn = (C.n : Int) from hzn]
    have e1 : decide (zi < zn) = true := by rw [decide_eq_true_iff]; have h1 : zi = (i : Int) := hzi; have h2 : zn = (C.n : Int) := hzn; omega
    have e2 : IntKind.i64.wrap (zi + 1) = ((i + 1 : Nat) : Int) := by rw [IntKind.wrap_i64]; have h1 : zi = (i : Int) := hzi; omega
    simp only [LL43, body43, findLoop39, Try.f43, Option.getD_some]
    repeat w_go KW.rely
    -- STOP gs
    refine Goes.stop (fun w r₁ => ?_)
    have hF := hF.rely r₁
    clear r₁
    rcases k with _ | k
    · trivial
    refine ⟨rfl, _, by rw [hP, stepG_comm (cases := #[scase C.tp.Pl (.int .i64 (i : Int)) zI, rcase C.tp.St zU]) (blocking := true) (shape := .select) (w' := w) rfl rfl (by k_ne) (by simp [go_sem, execOp, rcase, scase, Act.eval, zI, zU, show zi = (i : Int) from hzi]), listed_none (by simp [go_sem, execOp, Act.eval])], rfl, rfl, rfl, fun w₁ r₁ => ?_, fun w₁ r₁ => ?_⟩
    · have hF := hF.rely r₁
      clear r₁
      have hI := ih k (by omega) (i + 1) (by omega)
      rw [fin_at, sel1_0]
      refine afterX hP (m := 60 + (60 + mT)) ?_
      obtain ⟨zi', hz⟩ : ∃ z : Int, Hide (((i + 1 : Nat) : Int) = z) := ⟨_, hide rfl⟩
      replace e2 : IntKind.i64.wrap (zi + 1) = zi' := e2.trans hz
      refine goes_then (M := 60 + mT) (T := fun g w => IsGive C b₀ a₀ ops₀ i₀ rest₀ k₀ cs zn zi' g ∧ KW C W w) (D := DX C Option.none false) (D' := DC0) (fun w => RX.refl _ w) (fun _ _ _ x => dx_of_dc0 x) ?_ ?_
      · rw [← show ((i + 1 : Nat) : Int) = zi' from hz, show zn = (C.n : Int) from hzn]
        exact hI
      · clear ih hT hI
        walk_nrm
        repeat w_nl KW.rely
        u_c stepG_inLoop KW.rely hF
        exact Goes.stop (fun w₁ r₁ => ⟨⟨_, _, _, _, _, _, _, _, _, _, _, _, _, _, rfl⟩, hF.rely r₁⟩)
    · have hF := hF.rely r₁
      clear r₁
      have hT' := hT k
      rw [fin_at, sel1_1]
      refine afterX hP (m := 60 + mT) ?_
      refine goes_then (M := mT) (T := fun g w => g = (G (b₀.at (a₀.put ((ops₀[i₀]?).bind (·.dst)) (.tuple #[])) (.inRegion ops₀ rest₀ :: k₀)) cs) ∧ KW C W w) (D := DX C Option.none false) (D' := DC0) (fun w => RX.refl _ w) (fun _ _ _ x => dx_of_dc0 x) ?_ ?_
      · rintro g w ⟨rfl, hF⟩; exact hT' w hF
      clear ih hT hT'
      walk_nrm
      repeat w_go KW.rely
      u_leave0 Try.func43 KW.rely hF
      exact Goes.stop (fun w₁ r₁ => ⟨rfl, hF.rely r₁⟩)
  · have hT' := hT k
    refine fun g w hgw => ?_
    rw [show give C.n i = .cp from if_neg (by omega)]
    obtain rfl : i = C.n := by omega
    refine goes_then (M := mT) (T := fun g w => g = (G (b₀.at (a₀.put ((ops₀[i₀]?).bind (·.dst)) (.tuple #[])) (.inRegion ops₀ rest₀ :: k₀)) cs) ∧ KW C W w) (D := DX C Option.none false) (D' := DC0) (fun w => RX.refl _ w) (fun _ _ _ x => dx_of_dc0 x) ?_ ?_
    · rintro g w ⟨rfl, hF⟩; exact hT' w hF
    obtain ⟨⟨j3, j4, j5, j6, j9, j10, j11, j12, j13, j14, j15, j16, j17, j18, rfl⟩, hF⟩ := hgw
    clear ih hT hT'
    have e1 : decide ((C.n : Int) < (C.n : Int)) = false := by simp
    generalize (C.n : Int) = zn at e1 ⊢
    simp only [LL43, body43, findLoop39, Try.f43, Option.getD_some]
    repeat w_go KW.rely
    u_leave0 Try.func43 KW.rely hF
    exact Goes.stop (fun w₁ r₁ => ⟨rfl, hF.rely r₁⟩)
end
section
variable {C : Cf} {W : World} {N : Nat} {Dv Pv Sv : Nat}
variable {b₀ : Frame} {a₀ : Act} {ops₀ : Array Oper} {i₀ : Nat} {rest₀ : List Nat} {k₀ : List Item} {cs : List Frame}
/-- The giver has come back from hands. -/
def Back (b₀ : Frame) (a₀ : Act) (ops₀ : Array Oper) (i₀ : Nat) (rest₀ : List Nat) (k₀ : List Item) (cs : List Frame) (g : Goroutine) (_ : World) : Prop := g = (G (b₀.at (a₀.put ((ops₀[i₀]?).bind (·.dst)) (.tuple #[])) (.inRegion ops₀ rest₀ :: k₀)) cs)
/-- BEHIND hands' LOOP. -/
def IsRest (C : Cf) (Dv Pv Sv : Nat) (b₀ : Frame) (a₀ : Act) (ops₀ : Array Oper) (i₀ : Nat) (rest₀ : List Nat) (k₀ : List Item) (cs : List Frame) (g : Goroutine) : Prop :=
  ∃ j1 j2 j3 j4 j10 j11 j12 j13 j14 j15 j16 j17 j18 j19 j20 j21 j22 j23 j24 j25 j26 j27 : Value, g = G ((base 28).at ⟨#[.int .i64 (C.n : Int), j1, j2, j3, j4, .pointer (some ⟨Dv, 0, Option.none⟩), .pointer (some ⟨Pv, 0, Option.none⟩), .pointer (some ⟨Sv, 0, Option.none⟩), .pointer (some ⟨C.tp.On, 0, Option.none⟩), .pointer (some ⟨C.tp.Wg, 0, Option.none⟩), j10, j11, j12, j13, j14, j15, j16, j17, j18, j19, j20, j21, j22, j23, j24, j25, j26, j27], []⟩ [.code REST28]) (b₀.at a₀ (.inRegion ops₀ (i₀ :: rest₀) :: k₀) :: cs)
/-- AT hands' LOOP HEAD: zj workers of zN started. -/
def IsHands (C : Cf) (Dv Pv Sv : Nat) (b₀ : Frame) (a₀ : Act) (ops₀ : Array Oper) (i₀ : Nat) (rest₀ : List Nat) (k₀ : List Item) (cs : List Frame) (zN zj : Int) (g : Goroutine) : Prop :=
  ∃ dv j3 j4 j10 j11 j12 j13 j14 j15 j18 j19 j20 j21 j22 j23 j24 j25 j26 j27 : Value, g = G ((base 28).at ⟨#[.int .i64 (C.n : Int), .int .i64 zN, dv, j3, j4, .pointer (some ⟨Dv, 0, Option.none⟩), .pointer (some ⟨Pv, 0, Option.none⟩), .pointer (some ⟨Sv, 0, Option.none⟩), .pointer (some ⟨C.tp.On, 0, Option.none⟩), .pointer (some ⟨C.tp.Wg, 0, Option.none⟩), j10, j11, j12, j13, j14, j15, .int .i64 zN, .int .i64 zj, j18, j19, j20, j21, j22, j23, j24, j25, j26, j27], []⟩ [.code LL28, .inLoop LL28, .inBlock 0, .code REST28]) (b₀.at a₀ (.inRegion ops₀ (i₀ :: rest₀) :: k₀) :: cs)
set_option maxRecDepth 100000 in
set_option maxHeartbeats 16000000 in
theorem restGo (hP : C.P = Try.prog) (Ge : Geo C) (hn : C.n < 4611686018427387904) (hPv : Var C W Pv (.chan (some C.tp.Pl))) (hSv : Var C W Sv (.chan (some C.tp.St))) :
    ∀ k g w, IsRest C Dv Pv Sv b₀ a₀ ops₀ i₀ rest₀ k₀ cs g ∧ KW C W w → GX C N (Back b₀ a₀ ops₀ i₀ rest₀ k₀ cs) k (give C.n 0) 300 g w := by
  rintro k g w ⟨⟨j1, j2, j3, j4, j10, j11, j12, j13, j14, j15, j16, j17, j18, j19, j20, j21, j22, j23, j24, j25, j26, j27, rfl⟩, hF⟩
  refine goes_le (show 20 + 260 + 1 ≤ 300 by omega) (goes_odd (D' := DC0) (fun w => RX.refl _ w) (fun _ _ _ x => dx_of_dc0 x) ?_)
  simp only [LL28, REST28, body28, s0', s1', Try.f28, Option.getD_some]
  repeat w_go KW.rely
  refine Goes.stop (fun w₁ r₁ => ?_)
  have hF := hF.rely r₁
  clear r₁
  refine ⟨rfl, _, _, _, stepG_loadChan 56 (.inl rfl) rfl rfl (by k_ne) rfl rfl (hPv.cell hF) loud28, hPv.dx, ?_⟩
  refine goes_le (show 20 + 220 + 1 ≤ 260 by omega) (goes_odd (D' := DC0) (fun w => RX.refl _ w) (fun _ _ _ x => dx_of_dc0 x) ?_)
  walk_nrm
  repeat w_go KW.rely
  refine Goes.stop (fun w₁ r₁ => ?_)
  have hF := hF.rely r₁
  clear r₁
  refine ⟨rfl, _, _, _, stepG_loadChan 57 (.inr rfl) rfl rfl (by k_ne) rfl rfl (hSv.cell hF) loud28, hSv.dx, ?_⟩
  obtain ⟨An, hAn⟩ : ∃ An, An = (Back b₀ a₀ ops₀ i₀ rest₀ k₀ cs) := ⟨_, rfl⟩
  rw [← hAn]
  refine goes_le (show 60 + (60 + 60) ≤ 220 by omega) ?_
  refine goes_then (M := 60 + 60) (T := fun g w => ∃ (b₀ : Frame) (a₀ : Act) (ops₀ : Array Oper) (i₀ : Nat) (rest₀ : List Nat) (k₀ : List Item) (cs : List Frame), IsGive C b₀ a₀ ops₀ i₀ rest₀ k₀ cs (C.n : Int) 0 g ∧ (∀ k' w, KW C W w → GX C N An k' .cp 60 (G (b₀.at (a₀.put ((ops₀[i₀]?).bind (·.dst)) (.tuple #[])) (.inRegion ops₀ rest₀ :: k₀)) cs) w) ∧ KW C W w) (D := DX C Option.none false) (D' := DC0) (fun w => RX.refl _ w) (fun _ _ _ x => dx_of_dc0 x) ?_ ?_
  · rintro g w ⟨b, a, ops, i, rest, kk, cs, h1, h2, hF⟩
    exact giveHead hP hn h2 k 0 (Nat.zero_le _) g w ⟨h1, hF⟩
  walk_nrm
  repeat w_go KW.rely
  u_call Try.func43 nm43 Try.f43 KW.rely hF
  repeat w_bar KW.rely
  u_c stepG_loop KW.rely hF
  refine Goes.stop (fun w₁ r₁ => ⟨_, _, _, _, _, _, _, ⟨_, _, _, _, _, _, _, _, _, _, _, _, _, _, rfl⟩, fun k' w hF => ?_, hF.rely r₁⟩)
  clear r₁
  refine goes_le (show 20 + 20 + 1 ≤ 60 by omega) (goes_odd (D' := DC0) (fun w => RX.refl _ w) (fun _ _ _ x => dx_of_dc0 x) ?_)
  walk_nrm
  repeat w_go KW.rely
  refine Goes.stop (fun w₁ r₁ => ?_)
  have hF := hF.rely r₁
  clear r₁
  refine ⟨rfl, _, _, _, stepG_loadChan 56 (.inl rfl) rfl rfl (by k_ne) rfl rfl (hPv.cell hF) loud28, hPv.dx, ?_⟩
  refine goes_mono (D := DC0) (fun _ _ _ x => dx_of_dc0 x) (fun _ _ x => x) ?_
  walk_nrm
  repeat w_go KW.rely
  -- STOP cp
  refine at_stopM hF fun k w hk hF => stpWayM hP rfl trivial rfl (fun _ => mayWake_close rfl rfl) fun s hs hsm => ?_
  cases hpl : s.pl with
  | true => exact ⟨(.bad, s), by simp [mmv, hpl], fun h => absurd rfl h⟩
  | false =>
    obtain ⟨kk, hk⟩ := hs.pl
    have hs' := hs.shutPl Ge hk
    rw [hpl] at hk
    refine ⟨(.w0, { s with pl := true }), by simp [mmv, hpl], fun _ => ⟨_, _, _, stepG_close rfl rfl (by k_ne) rfl rfl hk loud28, hs', Eff.setChan _ _ _ _ _ _ _ (.inl rfl), ⟨sy_close (.inl rfl), rfl⟩, afterM hP 60 ?_⟩⟩
    have hF := hF.eff Ge (Eff.setChan _ _ _ _ _ _ _ (.inl rfl)) hs'
    clear hs' hk hs hsm hpl
    walk_nrm
    repeat w_go KW.rely
    u_call Try.func44 nm44 Try.f44 KW.rely hF
    refine goes_le (by omega) (waitGo hP Ge (fun k' => ⟨30, fun w hF => ?_⟩) k _ hF)
    walk_nrm
    repeat w_go KW.rely
    u_leave0 Try.func28 KW.rely hF
    subst hAn
    exact at_stopM hF fun k w hk hF => ⟨rfl, rfl⟩
end
section
variable {C : Cf} {W : World} {N : Nat} {Dv Pv Sv : Nat} {fd : FuncId} {cap : Array Value}
variable {b₀ : Frame} {a₀ : Act} {ops₀ : Array Oper} {i₀ : Nat} {rest₀ : List Nat} {k₀ : List Item} {cs : List Frame}
set_option maxRecDepth 100000 in
set_option maxHeartbeats 16000000 in
/-- ████ hands' LOOP, to the caller: at every depth. ████ -/
theorem handsGo (hP : C.P = Try.prog) (Ge : Geo C) (hn : C.n < 4611686018427387904) (hN : N ≤ 16) (hPv : Var C W Pv (.chan (some C.tp.Pl))) (hSv : Var C W Sv (.chan (some C.tp.St))) (hDv : Var C W Dv (.func (.func fd) #[] cap)) (hDo : Does C W (.func (.func fd) #[] cap)) :
    ∀ r j, j < N → N - j = r → ∀ k g w, IsHands C Dv Pv Sv b₀ a₀ ops₀ i₀ rest₀ k₀ cs (N : Int) (j : Int) g ∧ KW C W w → GM C N (Back b₀ a₀ ops₀ i₀ rest₀ k₀ cs) k (.k1 j) 60 g w := by
  intro r
  induction r with
  | zero => intro j hj hr; omega
  | succ r ih =>
  rintro j hj hr k g w ⟨⟨dv, j3, j4, j10, j11, j12, j13, j14, j15, j18, j19, j20, j21, j22, j23, j24, j25, j26, j27, rfl⟩, hF⟩
  obtain ⟨An, hAn⟩ : ∃ An, Hide (An = (Back b₀ a₀ ops₀ i₀ rest₀ k₀ cs)) := ⟨_, hide rfl⟩
  rw [← show An = _ from hAn]
  obtain ⟨zj, hzj⟩ : ∃ z : Int, Hide (z = (j : Int)) := ⟨_, hide rfl⟩
  obtain ⟨zN, hzN⟩ : ∃ z : Int, Hide (z = (N : Int)) := ⟨_, hide rfl⟩
  have h1 : zj = (j : Int) := hzj
  have h2 : zN = (N : Int) := hzN
  have e1 : decide (zj < zN) = true := by rw [decide_eq_true_iff]; omega
  have e2 : IntKind.i64.wrap (zj + 1) = ((j + 1 : Nat) : Int) := by rw [IntKind.wrap_i64]; omega
  rw [← h1, ← h2]
  clear h1 h2
  simp only [LL28, REST28, body28, s0', s1', Try.f28, Option.getD_some]
  repeat w_go KW.rely
  u_call Try.func38 nm38 Try.f38 KW.rely hF
  refine goes_le (by omega) (addGo hP Ge j (fun k' => ⟨60, fun w hF => ?_⟩) k _ hF)
  walk_nrm
  repeat w_go KW.rely
  -- STOP go
  refine at_stopM hF fun k w hk hF => ⟨rfl, ?_⟩
  refine ⟨_, _, by rw [hP, stepG_spawn (d := call39 C Pv Dv Sv) (w' := w) (f := .func 39) (c := #[.pointer (some ⟨C.tp.Wg, 0, Option.none⟩), .pointer (some ⟨Pv, 0, Option.none⟩), .pointer (some ⟨Dv, 0, Option.none⟩), .pointer (some ⟨C.tp.On, 0, Option.none⟩), .pointer (some ⟨Sv, 0, Option.none⟩)]) rfl rfl (by k_ne) (by simp [go_sem, execOp, call39, Deferred.ofValue, Act.eval]) rfl, listed_none (by simp [go_sem, execOp, Act.eval, Deferred.ofValue])], rfl, ?_, bornGo hP Ge hPv hSv hDv hDo k w hF⟩
  rcases Nat.lt_or_ge (j + 1) N with hlt | hge
  · rw [if_pos hlt]
    have hI := ih (j + 1) hlt (by omega) k
    refine afterX hP (m := 60 + 60) ?_
    rw [show An = _ from hAn]
    obtain ⟨zj', hz⟩ : ∃ z : Int, Hide (((j + 1 : Nat) : Int) = z) := ⟨_, hide rfl⟩
    replace e2 : IntKind.i64.wrap (zj + 1) = zj' := e2.trans hz
    refine goes_then (M := 60) (T := fun g w => IsHands C Dv Pv Sv b₀ a₀ ops₀ i₀ rest₀ k₀ cs zN zj' g ∧ KW C W w) (D := DX C Option.none false) (D' := DC0) (fun w => RX.refl _ w) (fun _ _ _ x => dx_of_dc0 x) ?_ ?_
    · rw [← show ((j + 1 : Nat) : Int) = zj' from hz, show zN = (N : Int) from hzN]
      exact fun g w h => gx_of_gm (hI g w h)
    · clear ih hI
      walk_nrm
      repeat w_nl KW.rely
      u_c stepG_inLoop KW.rely hF
      exact Goes.stop (fun w₁ r₁ => ⟨⟨_, _, _, _, _, _, _, _, _, _, _, _, _, _, _, _, _, _, _, rfl⟩, hF.rely r₁⟩)
  · rw [if_neg (by omega)]
    have hI := restGo (b₀ := b₀) (a₀ := a₀) (ops₀ := ops₀) (i₀ := i₀) (rest₀ := rest₀) (k₀ := k₀) (cs := cs) (N := N) (Dv := Dv) hP Ge hn hPv hSv k
    refine afterX hP (m := 60 + 300) ?_
    rw [show An = _ from hAn]
    obtain ⟨zj', hz⟩ : ∃ z : Int, Hide (((j + 1 : Nat) : Int) = z) := ⟨_, hide rfl⟩
    replace e2 : IntKind.i64.wrap (zj + 1) = zj' := e2.trans hz
    have e3 : decide (zj' < zN) = false := by
      have h1 : ((j + 1 : Nat) : Int) = zj' := hz
      have h2 : zN = (N : Int) := hzN
      rw [decide_eq_false_iff_not]; omega
    refine goes_then (M := 300) (T := fun g w => IsRest C Dv Pv Sv b₀ a₀ ops₀ i₀ rest₀ k₀ cs g ∧ KW C W w) (D := DX C Option.none false) (D' := DC0) (fun w => RX.refl _ w) (fun _ _ _ x => dx_of_dc0 x) ?_ ?_
    · exact hI
    · clear ih hI
      walk_nrm
      repeat w_nl KW.rely
      u_c stepG_inLoop KW.rely hF
      repeat w_but "code.exit" KW.rely
      w_go KW.rely
      exact Goes.stop (fun w₁ r₁ => ⟨⟨_, _, _, _, _, _, _, _, _, _, _, _, _, _, _, _, _, _, _, _, _, _, rfl⟩, hF.rely r₁⟩)
end
end Go.Proofs.Ytpkiojchlficcaa.Crew
