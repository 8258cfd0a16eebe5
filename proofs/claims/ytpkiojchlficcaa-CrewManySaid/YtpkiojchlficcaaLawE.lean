/- The law CrewMany, walked: it returns true. -/
import Derived.Test.YtpkiojchlficcaaLa
import Derived.Test.YtpkiojchlficcaaFo
import Derived.Test.YtpkiojchlficcaaRg
set_option linter.unusedSimpArgs false
namespace Go.Proofs.Ytpkiojchlficcaa.Crew
open Go Go.Conc Go.ConcN Go.RowKit Go.Conc.Lib Go.ConcR.Gen
open Go.ConcM (OsLater goes_pad goes_le)
open Go.ConcR (KK wgBlock WgAt stA smA rd wr mk DC0)
theorem ev_equalIn_bool {P : Program} {w : World} (d : Nat) (t : TypeId) (a b : Bool) (h : P.underlying t = some .bool) (es : Array Event) : (Op.equalIn (d + 1) t (.bool a) (.bool b)).events P w es = es := by
  simp [Op.equalIn, run_underlying h]
theorem ev_eql_bool {P : Program} {w : World} (t : TypeId) (a b : Bool) (h : P.underlying t = some .bool) (es : Array Event) : (binOp .eql t (.bool a) (.bool b)).events P w es = es := by
  have e : (Op.equal t (.bool a) (.bool b)).events P w es = es := ev_equalIn_bool 9999 t a b h es
  simp only [binOp]
  simp [e]
noncomputable def body7 : Code := Try.f7.body.getD .skip
set_option maxRecDepth 100000 in
set_option maxHeartbeats 16000000 in
/-- ████ THE LAW. ████ -/
theorem law7 {w : World} {n c : Nat} {f : Nat → Int} {a : Option Addr} {wa wb kd : Int} (hn : n < 17592186044416) (hI : Ints (fun _ => False) w a n f) :
    Gets (G ((base 7).at ⟨#[.slice a n c, .int .i64 wa, .int .i64 wb, .int .u8 kd, undef, undef, undef, undef, undef, undef, undef, undef, undef, undef, undef, undef, undef, undef, undef, undef, undef, undef, undef, undef, undef, undef, undef, undef, undef, undef, undef, undef, undef, undef, undef, undef, undef, undef, undef, undef, undef, undef, undef, undef, undef, undef, undef, undef, undef, undef, undef, undef, undef, undef, undef, undef, undef, undef, undef, undef, undef, undef, undef, undef, undef, undef, undef, undef, undef, undef, undef, undef, undef, undef, undef, undef, undef, undef, undef, undef, undef, undef, undef], []⟩ [.code body7]) []) w (fun _ => False) (Done (PostL w)) := by
  have hS : ∀ b, (fun _ : Nat => False) b → b < w.heap.size := fun _ h => h.elim
  have hK : Kept w (fun _ => False) w (fun _ => False) := Kept.refl w _
  by_cases h400 : 400 < n
  · have h400' : decide ((400 : Int) < (n : Int)) = true := by rw [decide_eq_true_iff]; omega
    have hF := atRel_refl w
    refine Gets.silent 40 ?_
    simp only [body7, Try.f7, Option.getD_some]
    repeat w_go at_rl
    u_call Try.func9 nm9 Try.f9 at_rl hF
    refine Goes.stop (fun w₁ r₁ => ?_)
    replace hF := at_rl hF r₁
    clear r₁
    replace hK := hK.rely hF
    clear hF
    refine worksGets (hK.bound hS) fun w₇ S₇ hk => ?_
    replace hK := hK.trans hk
    clear hk
    have hF := atRel_refl w₇
    refine Gets.silent 30 ?_
    walk_nrm
    repeat w_go at_rl
    refine Goes.stop (fun w₁ r₁ => Gets.here fun w₂ r₂ => ?_)
    replace hF := at_rl (at_rl hF r₁) r₂
    replace hK := hK.rely hF
    intro w₃ r₃
    refine ⟨rfl, .bool true, #[], ?_, by simp, rfl, _, hK.rely r₃⟩
    simp [G, stepG, unwind, doReturn, results, Frame.at, base, Try.func7, Try.f7, seen, GStep.after]
  have h400' : decide ((400 : Int) < (n : Int)) = false := by rw [decide_eq_false_iff_not]; omega
  obtain ⟨X, hX⟩ : ∃ X, Hide (foldZ (fun x y => bits .xor .i64 (IntKind.i64.wrap (x * 5)) y) (fun i => doesZ kd (f i)) n = X) := ⟨_, hide rfl⟩
  obtain ⟨Y, hY⟩ : ∃ Y, Hide (decide (0 < n) = Y) := ⟨_, hide rfl⟩
  obtain ⟨Z, hZ⟩ : ∃ Z, Hide (firstZ (fun i => isZ kd (f i)) 0 n = Z) := ⟨_, hide rfl⟩
  obtain ⟨V, hV⟩ : ∃ V, Hide (decide (firstZ (fun i => !isZ kd (f i)) 0 n < 0) = V) := ⟨_, hide rfl⟩
  have hF := atRel_refl w
  refine Gets.silent 60 ?_
  simp only [body7, Try.f7, Option.getD_some]
  repeat w_go at_rl
  u_call Try.func12 nm12 Try.f12 at_rl hF
  refine Goes.stop (fun w₁ r₁ => ?_)
  replace hF := at_rl hF r₁
  clear r₁
  replace hK := hK.rely hF
  replace hI := hI.rely hF
  clear hF
  refine make12 (hK.bound hS) fun w₄ fd cap hk hfun => ?_
  replace hI := hI.kept hk
  replace hK := hK.trans hk
  clear hk
  have hF := atRel_refl w₄
  refine Gets.silent 20 ?_
  walk_nrm
  repeat w_go at_rl
  u_call Try.func19 nm19 Try.f19 at_rl hF
  refine Goes.stop (fun w₁ r₁ => ?_)
  replace hF := at_rl hF r₁
  clear r₁
  replace hK := hK.rely hF
  replace hI := hI.rely hF
  replace hfun := hfun.rely hF
  clear hF
  refine foldGets19 (n := n) hn (hK.bound hS) hI hfun bin25 fun w₅ S₅ hk => ?_
  replace hI := hI.kept hk
  replace hK := hK.trans hk
  clear hk hfun
  rw [show foldZ _ _ n = X from hX, show decide (0 < n) = Y from hY]
  have hF := atRel_refl w₅
  refine Gets.silent 60 ?_
  walk_nrm
  repeat w_go at_rl
  u_call Try.func12 nm12 Try.f12 at_rl hF
  refine Goes.stop (fun w₁ r₁ => ?_)
  replace hF := at_rl hF r₁
  clear r₁
  replace hK := hK.rely hF
  replace hI := hI.rely hF
  clear hF
  refine make12 (hK.bound hS) fun w₄ fd cap hk hfun => ?_
  replace hI := hI.kept hk
  replace hK := hK.trans hk
  clear hk
  have hF := atRel_refl w₄
  refine Gets.silent 20 ?_
  walk_nrm
  repeat w_go at_rl
  u_call Try.func19 nm19 Try.f19 at_rl hF
  refine Goes.stop (fun w₁ r₁ => ?_)
  replace hF := at_rl hF r₁
  clear r₁
  replace hK := hK.rely hF
  replace hI := hI.rely hF
  replace hfun := hfun.rely hF
  clear hF
  refine foldGets19 (n := n) hn (hK.bound hS) hI hfun bin26 fun w₅ S₅ hk => ?_
  replace hI := hI.kept hk
  replace hK := hK.trans hk
  clear hk hfun
  rw [show foldZ _ _ n = X from hX, show decide (0 < n) = Y from hY]
  have hF := atRel_refl w₅
  refine Gets.silent 60 ?_
  walk_nrm
  repeat w_go at_rl
  u_call Try.func12 nm12 Try.f12 at_rl hF
  refine Goes.stop (fun w₁ r₁ => ?_)
  replace hF := at_rl hF r₁
  clear r₁
  replace hK := hK.rely hF
  replace hI := hI.rely hF
  clear hF
  refine make12 (hK.bound hS) fun w₄ fd cap hk hfun => ?_
  replace hI := hI.kept hk
  replace hK := hK.trans hk
  clear hk
  have hF := atRel_refl w₄
  refine Gets.silent 20 ?_
  walk_nrm
  repeat w_go at_rl
  u_call Try.func11 nm11 Try.f11 at_rl hF
  refine Goes.stop (fun w₁ r₁ => ?_)
  replace hF := at_rl hF r₁
  clear r₁
  replace hK := hK.rely hF
  replace hI := hI.rely hF
  replace hfun := hfun.rely hF
  clear hF
  refine enter11 (n := n) hn (hK.bound hS) hI hfun fun w₅ S₅ hk hlt hnS hc => ?_
  have hO := Ints.row hlt hnS hc
  replace hI := hI.kept hk
  replace hK := hK.trans hk
  clear hk hfun hc hlt hnS
  generalize w₁.heap.size + 2 = g2 at hO ⊢
  have hF := atRel_refl w₅
  refine Gets.silent 20 ?_
  walk_nrm
  repeat w_go at_rl
  u_call Try.func12 nm12 Try.f12 at_rl hF
  refine Goes.stop (fun w₁ r₁ => ?_)
  replace hF := at_rl hF r₁
  clear r₁
  replace hK := hK.rely hF
  replace hI := hI.rely hF
  replace hO := hO.rely hF
  clear hF
  refine make12 (hK.bound hS) fun w₄ fd cap hk hfun => ?_
  replace hI := hI.kept hk
  replace hO := hO.kept hk
  replace hK := hK.trans hk
  clear hk
  have hF := atRel_refl w₄
  refine Gets.silent 20 ?_
  walk_nrm
  repeat w_go at_rl
  u_call Try.func11 nm11 Try.f11 at_rl hF
  refine Goes.stop (fun w₁ r₁ => ?_)
  replace hF := at_rl hF r₁
  clear r₁
  replace hK := hK.rely hF
  replace hI := hI.rely hF
  replace hO := hO.rely hF
  replace hfun := hfun.rely hF
  clear hF
  refine enter11 (n := n) hn (hK.bound hS) hI hfun fun w₅ S₅ hk hlt hnS hc => ?_
  have hP := Ints.row hlt hnS hc
  replace hI := hI.kept hk
  replace hO := hO.kept hk
  replace hK := hK.trans hk
  clear hk hfun hc hlt hnS
  generalize w₁.heap.size + 2 = g3 at hP ⊢
  have hF := atRel_refl w₅
  refine Gets.silent 20 ?_
  walk_nrm
  repeat w_go at_rl
  u_call Try.func10 nm10 Try.f10 at_rl hF
  refine Goes.stop (fun w₁ r₁ => ?_)
  replace hF := at_rl hF r₁
  clear r₁
  replace hK := hK.rely hF
  replace hI := hI.rely hF
  replace hO := hO.rely hF
  replace hP := hP.rely hF
  clear hF
  refine equalGets (n := n) hn hO hP fun w₆ r => ?_
  replace hK := hK.rely r
  replace hI := hI.rely r
  clear hO hP r
  have hF := atRel_refl w₆
  refine Gets.silent 40 ?_
  walk_nrm
  repeat w_go at_rl
  u_call Try.func15 nm15 Try.f15 at_rl hF
  refine Goes.stop (fun w₁ r₁ => ?_)
  replace hF := at_rl hF r₁
  clear r₁
  replace hK := hK.rely hF
  replace hI := hI.rely hF
  clear hF
  refine make15 (hK.bound hS) fun w₄ fd cap hk hfun => ?_
  replace hI := hI.kept hk
  replace hK := hK.trans hk
  clear hk
  have hF := atRel_refl w₄
  refine Gets.silent 20 ?_
  walk_nrm
  repeat w_go at_rl
  u_call Try.func14 nm14 Try.f14 at_rl hF
  refine Goes.stop (fun w₁ r₁ => ?_)
  replace hF := at_rl hF r₁
  clear r₁
  replace hK := hK.rely hF
  replace hI := hI.rely hF
  replace hfun := hfun.rely hF
  clear hF
  refine enter14 (n := n) hn (hK.bound hS) hI hfun fun w₅ S₅ hk => ?_
  replace hI := hI.kept hk
  replace hK := hK.trans hk
  clear hk hfun
  rw [show firstZ _ 0 n = Z from hZ]
  have hF := atRel_refl w₅
  refine Gets.silent 40 ?_
  walk_nrm
  repeat w_go at_rl
  u_call Try.func15 nm15 Try.f15 at_rl hF
  refine Goes.stop (fun w₁ r₁ => ?_)
  replace hF := at_rl hF r₁
  clear r₁
  replace hK := hK.rely hF
  replace hI := hI.rely hF
  clear hF
  refine make15 (hK.bound hS) fun w₄ fd cap hk hfun => ?_
  replace hI := hI.kept hk
  replace hK := hK.trans hk
  clear hk
  have hF := atRel_refl w₄
  refine Gets.silent 20 ?_
  walk_nrm
  repeat w_go at_rl
  u_call Try.func14 nm14 Try.f14 at_rl hF
  refine Goes.stop (fun w₁ r₁ => ?_)
  replace hF := at_rl hF r₁
  clear r₁
  replace hK := hK.rely hF
  replace hI := hI.rely hF
  replace hfun := hfun.rely hF
  clear hF
  refine enter14 (n := n) hn (hK.bound hS) hI hfun fun w₅ S₅ hk => ?_
  replace hI := hI.kept hk
  replace hK := hK.trans hk
  clear hk hfun
  rw [show firstZ _ 0 n = Z from hZ]
  have hF := atRel_refl w₅
  refine Gets.silent 40 ?_
  walk_nrm
  repeat w_go at_rl
  u_call Try.func15 nm15 Try.f15 at_rl hF
  refine Goes.stop (fun w₁ r₁ => ?_)
  replace hF := at_rl hF r₁
  clear r₁
  replace hK := hK.rely hF
  replace hI := hI.rely hF
  clear hF
  refine make15 (hK.bound hS) fun w₄ fd cap hk hfun => ?_
  replace hI := hI.kept hk
  replace hK := hK.trans hk
  clear hk
  have hF := atRel_refl w₄
  refine Gets.silent 20 ?_
  walk_nrm
  repeat w_go at_rl
  u_call Try.func17 nm17 Try.f17 at_rl hF
  refine Goes.stop (fun w₁ r₁ => ?_)
  replace hF := at_rl hF r₁
  clear r₁
  replace hK := hK.rely hF
  replace hI := hI.rely hF
  replace hfun := hfun.rely hF
  clear hF
  refine allGets (n := n) hn (hK.bound hS) hI hfun fun w₅ S₅ hk => ?_
  replace hI := hI.kept hk
  replace hK := hK.trans hk
  clear hk hfun
  rw [show decide (firstZ _ 0 n < 0) = V from hV]
  have hF := atRel_refl w₅
  refine Gets.silent 40 ?_
  walk_nrm
  repeat w_go at_rl
  u_call Try.func15 nm15 Try.f15 at_rl hF
  refine Goes.stop (fun w₁ r₁ => ?_)
  replace hF := at_rl hF r₁
  clear r₁
  replace hK := hK.rely hF
  replace hI := hI.rely hF
  clear hF
  refine make15 (hK.bound hS) fun w₄ fd cap hk hfun => ?_
  replace hI := hI.kept hk
  replace hK := hK.trans hk
  clear hk
  have hF := atRel_refl w₄
  refine Gets.silent 20 ?_
  walk_nrm
  repeat w_go at_rl
  u_call Try.func17 nm17 Try.f17 at_rl hF
  refine Goes.stop (fun w₁ r₁ => ?_)
  replace hF := at_rl hF r₁
  clear r₁
  replace hK := hK.rely hF
  replace hI := hI.rely hF
  replace hfun := hfun.rely hF
  clear hF
  refine allGets (n := n) hn (hK.bound hS) hI hfun fun w₅ S₅ hk => ?_
  replace hI := hI.kept hk
  replace hK := hK.trans hk
  clear hk hfun
  rw [show decide (firstZ _ 0 n < 0) = V from hV]
  have rn4 := fun a b w => run_eql_bool (P := Try.prog) w 4 a b Try.underlying4
  have ev4 := fun a b w es => ev_eql_bool (P := Try.prog) (w := w) 4 a b Try.underlying4 es
  have hF := atRel_refl w₅
  refine Gets.silent 80 ?_
  walk_nrm
  repeat w_go at_rl
  u_call Try.func9 nm9 Try.f9 at_rl hF
  refine Goes.stop (fun w₁ r₁ => ?_)
  replace hF := at_rl hF r₁
  clear r₁
  replace hK := hK.rely hF
  clear hF
  refine worksGets (hK.bound hS) fun w₈ S₈ hk => ?_
  replace hK := hK.trans hk
  clear hk
  have hF := atRel_refl w₈
  refine Gets.silent 60 ?_
  walk_nrm
  repeat w_go at_rl
  refine Goes.stop (fun w₁ r₁ => Gets.here fun w₂ r₂ => ?_)
  replace hF := at_rl (at_rl hF r₁) r₂
  replace hK := hK.rely hF
  intro w₃ r₃
  refine ⟨rfl, .bool true, #[], ?_, by simp, rfl, _, hK.rely r₃⟩
  simp [G, stepG, unwind, doReturn, results, Frame.at, base, Try.func7, Try.f7, seen, GStep.after]
end Go.Proofs.Ytpkiojchlficcaa.Crew
