/- The walks: a worker of the crew, whole: its loop, its birth. -/
import Derived.Test.YtpkiojchlficcaaWm
namespace Go.Proofs.Ytpkiojchlficcaa.Crew
open Go Go.Conc Go.ConcN Go.RowKit Go.Conc.Lib Go.ConcR.Gen
open Go.ConcM (OsLater goes_pad goes_le)
open Go.ConcR (KK wgBlock WgAt stA smA rd wr mk DC0)
section
variable {C : Cf} {W : World} {c : Frame} {cs : List Frame} {qt : Nat}
/-- The deferred Done, at a plain depth. -/
theorem doneAt (hP : C.P = Try.prog) (Ge : Geo C) (hcm : c.mode = .returning) (hT : QuitsD Try.prog qt 0 (G c cs)) (k : Nat) (w : World) (hF : KW C W w) :
    Goes Try.prog false (RX C Option.none) DC0 (Wk C k (at_ .wr)) 60 (G ((baseD 40).at ⟨#[.pointer (some ⟨C.tp.Wg, 0, Option.none⟩), undef, undef, undef], []⟩ [.code body40]) (c :: cs)) w := by
  have := @doneGo ⟨k⟩ C W c cs qt hP Ge hcm hT k w hF
  unfold GD WK at this
  rw [show min k (@Cap.K ⟨k⟩) = k from Nat.min_self k] at this
  exact this
end
section
variable {C : Cf} {W : World} {Pv Dv Sv : Nat} {fd : FuncId} {cap : Array Value}
set_option maxRecDepth 100000 in
set_option maxHeartbeats 16000000 in
/-- ████ A WORKER, at its loop's head, at every depth. ████ -/
theorem workGo (hP : C.P = Try.prog) (Ge : Geo C) (hPv : Var C W Pv (.chan (some C.tp.Pl))) (hSv : Var C W Sv (.chan (some C.tp.St))) (hDv : Var C W Dv (.func (.func fd) #[] cap)) (hDo : Does C W (.func (.func fd) #[] cap)) :
    ∀ k, WHead C W Pv Dv Sv k := by
  intro k
  induction k using Nat.strongRecOn with
  | _ k ih =>
  refine ⟨20, 60, fun j5 j6 j7 j8 j9 j10 j11 j12 j13 j14 j15 j16 j17 j18 j19 j20 j21 j22 w hF => ?_⟩
  simp only [LL39, body39, findLoop39, Try.f39, Option.getD_some]
  repeat w_go KW.rely
  -- ODD: the variable that holds the places
  refine Goes.stop (fun w₁ r₁ => ?_)
  have hF := hF.rely r₁
  clear r₁
  refine ⟨rfl, _, _, _, stepG_loadChan 56 (.inl rfl) rfl rfl (by k_ne) rfl rfl (hPv.cell hF) loud39, hPv.dx, ?_⟩
  refine goes_le (show 10 + 20 + 1 ≤ 60 by omega) (goes_odd (D' := DC0) (fun w => RX.refl _ w) (fun _ _ _ x => dx_of_dc0 x) ?_)
  walk_nrm
  repeat w_go KW.rely
  -- ODD: the variable that holds the word to stop
  refine Goes.stop (fun w₁ r₁ => ?_)
  have hF := hF.rely r₁
  clear r₁
  refine ⟨rfl, _, _, _, stepG_loadChan 57 (.inr rfl) rfl rfl (by k_ne) rfl rfl (hSv.cell hF) loud39, hSv.dx, ?_⟩
  refine goes_mono (D := DC0) (fun _ _ _ x => dx_of_dc0 x) (fun _ _ x => x) ?_
  walk_nrm
  repeat w_go KW.rely
  -- STOP sel
  refine Goes.stop (fun w r₁ => ?_)
  have hF := hF.rely r₁
  clear r₁
  rcases k with _ | k
  · trivial
  refine ⟨rfl, fun _ => ?_, fun h => absurd rfl h⟩
  refine ⟨_, by rw [hP, stepG_comm (cases := #[rcase C.tp.Pl zI, rcase C.tp.St zU]) (blocking := true) (shape := .select) (w' := w) rfl rfl (by k_ne) (by simp [go_sem, execOp, rcase, Act.eval, zI, zU]), listed_none (by simp [go_sem, execOp, Act.eval])], rfl, rfl, rfl, fun i hi w₁ r₁ => ?_, fun w₁ r₁ => ?_, fun w₁ r₁ => ?_⟩
  · have hF := hF.rely r₁
    obtain ⟨m, M, hG⟩ := placeGo (k := k) hP Ge hSv hDv hDo hi (fun k' hk' => ih k' (by omega)) (.bool true) (.chan (some C.tp.Pl)) (.chan (some C.tp.St)) (.tuple #[.int .i64 0, .bool true, .int .i64 (i : Int), zU]) (.int .i64 0) (.bool true) (.bool false) (.int .i64 (i : Int)) (.bool true) (.bool true) (.bool false) j17 j18 j19 j20 j21 j22
    rw [fin_at, sel2_0]
    unfold GoesW
    rw [hP]
    refine ⟨(m + 60) + M + 1, goes_odd (D' := DC0) (fun w => RX.refl _ w) (fun _ _ _ x => dx_of_dc0 x) ?_⟩
    clear ih r₁
    walk_nrm
    repeat (first | (exact goes_pad (hG _ hF) _) | w_go KW.rely)
  · have hF := hF.rely r₁
    rw [fin_at, sel2_0]
    refine afterT hP (by simp) 160 ?_
    clear ih r₁
    walk_nrm
    repeat w_go KW.rely
    u_in KW.rely hF
    rw [stepG_unwind_enter rfl Try.func40 nm40 rfl]
    simp only [goes_go]
    refine ⟨by u_nil, ?_⟩
    walk_nrmf Try.f40
    exact goes_le (by omega) (doneAt hP Ge rfl (quitsTail _ _) k _ hF)
  · have hF := hF.rely r₁
    rw [fin_at, sel2_1]
    refine afterT hP (by simp) 160 ?_
    clear ih r₁
    walk_nrm
    repeat w_go KW.rely
    u_in KW.rely hF
    rw [stepG_unwind_enter rfl Try.func40 nm40 rfl]
    simp only [goes_go]
    refine ⟨by u_nil, ?_⟩
    walk_nrmf Try.f40
    exact goes_le (by omega) (doneAt hP Ge rfl (quitsTail _ _) k _ hF)

/-- What the go statement starts. -/
def call39 (C : Cf) (Pv Dv Sv : Nat) : Deferred := { target := .fn (.func 39) #[.pointer (some ⟨C.tp.Wg, 0, Option.none⟩), .pointer (some ⟨Pv, 0, Option.none⟩), .pointer (some ⟨Dv, 0, Option.none⟩), .pointer (some ⟨C.tp.On, 0, Option.none⟩), .pointer (some ⟨Sv, 0, Option.none⟩)], args := #[] }
theorem born_step (main : Bool) (w : World) : stepG Try.prog main (born Try.prog (call39 C Pv Dv Sv)) w =
    .go (G ((baseD 39).at ⟨#[.pointer (some ⟨C.tp.Wg, 0, Option.none⟩), .pointer (some ⟨Pv, 0, Option.none⟩), .pointer (some ⟨Dv, 0, Option.none⟩), .pointer (some ⟨C.tp.On, 0, Option.none⟩), .pointer (some ⟨Sv, 0, Option.none⟩), undef, undef, undef, undef, undef, undef, undef, undef, undef, undef, undef, undef, undef, undef, undef, undef, undef, undef], []⟩ [.code body39]) [bot]) w #[] := by
  simp [born, call39, stepG, unwind, callDeferred, invoke, callFunc, Try.func39, Try.f39, seen, GStep.after, G, Frame.enter, Frame.at, baseD, bot, body39]
set_option maxRecDepth 100000 in
set_option maxHeartbeats 16000000 in
/-- ████ A WORKER's WHOLE SCRIPT. ████ -/
theorem bornGo (hP : C.P = Try.prog) (Ge : Geo C) (hPv : Var C W Pv (.chan (some C.tp.Pl))) (hSv : Var C W Sv (.chan (some C.tp.St))) (hDv : Var C W Dv (.func (.func fd) #[] cap)) (hDo : Does C W (.func (.func fd) #[] cap)) (k : Nat) (w : World) (hF : KW C W w) :
    ∃ m, GoesW C Option.none false (Wk C k (at_ .sel)) m (born Try.prog (call39 C Pv Dv Sv)) w := by
  obtain ⟨m, M, hI⟩ := workGo hP Ge hPv hSv hDv hDo k
  unfold GoesW
  rw [hP]
  refine ⟨(m + 20) + M + 1, goes_odd (D' := DC0) (fun w => RX.refl _ w) (fun _ _ _ x => dx_of_dc0 x) ?_⟩
  refine Goes.step rfl fun w₁ h₁ => ?_
  have hF := hF.rely h₁
  clear h₁
  rw [born_step]
  refine ⟨by u_nil, ?_⟩
  simp only [body39, Try.f39, Option.getD_some]
  repeat w_go KW.rely
  u_defer KW.rely hF
  repeat w_but "code.loop" KW.rely
  u_c stepG_loop KW.rely hF
  exact goes_pad (hI _ _ _ _ _ _ _ _ _ _ _ _ _ _ _ _ _ _ _ hF) _
end
end Go.Proofs.Ytpkiojchlficcaa.Crew
