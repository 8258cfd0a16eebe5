/- The law CrewKnown, walked: it returns true. -/
import Derived.Test.YtpkiojchlficcaaLa
import Derived.Test.YtpkiojchlficcaaFo
import Derived.Test.YtpkiojchlficcaaRg
set_option linter.unusedSimpArgs false
namespace Go.Proofs.Ytpkiojchlficcaa.Crew
open Go Go.Conc Go.ConcN Go.RowKit Go.Conc.Lib Go.ConcR.Gen
open Go.ConcM (OsLater goes_pad goes_le)
open Go.ConcR (KK wgBlock WgAt stA smA rd wr mk DC0)
/-- A slice of ints just built. -/
theorem Ints.built3 {S : Nat → Prop} (w : World) (hS : ∀ b, S b → b < w.heap.size) {xs : List Int} (f : Nat → Int) (e : ∀ i, i < xs.length → xs[i]? = some (f i)) : Ints S (w.alloc (.cells (xs.map fun x => .int .i64 x).toArray 3)) (some ⟨w.heap.size, 0, Option.none⟩) xs.length f := by
  have hF := (Grew.refl w).alloc (.cells (xs.map fun x => .int .i64 x).toArray 3)
  refine Ints.row (by rw [hF.size]; simp) (fun hb => by have := hS _ hb; omega) fun i hi => ?_
  have := hF.cell (k := 0) rfl i
  simp only [Nat.add_zero] at this
  rw [this]
  simp [e i hi]
noncomputable def body6 : Code := Try.f6.body.getD .skip
set_option maxRecDepth 100000 in
set_option maxHeartbeats 16000000 in
/-- ████ THE LAW. ████ -/
theorem law6 {w : World} :
    Gets (G ((base 6).at ⟨#[undef, undef, undef, undef, undef, undef, undef, undef, undef, undef, undef, undef, undef, undef, undef, undef, undef, undef, undef, undef, undef, undef, undef, undef, undef, undef], []⟩ [.code body6]) []) w (fun _ => False) (Done (PostL w)) := by
  have hS : ∀ b, (fun _ : Nat => False) b → b < w.heap.size := fun _ h => h.elim
  have hK : Kept w (fun _ => False) w (fun _ => False) := Kept.refl w _
  have hF := atRel_refl w
  refine Gets.silent 40 ?_
  simp only [body6, Try.f6, Option.getD_some]
  repeat w_go at_rl
  refine Goes.stop (fun w₁ r₁ => ?_)
  replace hF := at_rl hF r₁
  clear r₁
  replace hK := hK.rely hF
  clear hF
  refine Gets.val 0 rfl rfl (by k_ne) fun w₂ r => ⟨.slice (some ⟨w₂.heap.size, 0, Option.none⟩) 3 3, w₂.alloc (.cells #[.int .i64 1, .int .i64 2, .int .i64 3] 3), by simp [go_sem, execOp, Act.eval], by simp [go_sem, execOp, Act.eval], ?_⟩
  replace hK := hK.rely r
  have hI := Ints.built3 (S := (fun _ => False)) w₂ (hK.bound hS) (xs := [1, 2, 3]) (fun i => (i : Int) + 1) (by intro i hi; simp at hi; (rcases i with _ | _ | _ | _ | _ | i) <;> first | rfl | omega)
  replace hK := hK.trans (((Grew.refl w₂).alloc (.cells #[.int .i64 1, .int .i64 2, .int .i64 3] 3)).kept (fun _ => False))
  simp only [List.map_cons, List.map_nil] at hI
  generalize w₂.heap.size = gb at hI ⊢
  generalize w₂.alloc (.cells #[.int .i64 1, .int .i64 2, .int .i64 3] 3) = w₃ at hK hI ⊢
  clear r
  have hF := atRel_refl w₃
  refine Gets.silent 20 ?_
  walk_nrm
  repeat w_go at_rl
  u_call Try.func22 nm22 Try.f22 at_rl hF
  refine Goes.stop (fun w₁ r₁ => ?_)
  replace hF := at_rl hF r₁
  clear r₁
  replace hK := hK.rely hF
  replace hI := hI.rely hF
  clear hF
  refine foldGets22 (n := 3) (by omega) (hK.bound hS) hI (φ := fun z => z) (fun C W hv hh => maps23) bin24 fun w₅ S₅ hk => ?_
  replace hK := hK.trans hk
  clear hk hI
  rw [show foldZ (fun x y => IntKind.i64.wrap (x - y)) (fun i => (i : Int) + 1) 3 = -4 by decide, show decide (0 < 3) = true by decide]
  have hF := atRel_refl w₅
  refine Gets.silent 40 ?_
  walk_nrm
  repeat w_go at_rl
  u_call Try.func9 nm9 Try.f9 at_rl hF
  refine Goes.stop (fun w₁ r₁ => ?_)
  replace hF := at_rl hF r₁
  clear r₁
  replace hK := hK.rely hF
  clear hF
  refine worksGets (hK.bound hS) fun w₈ S₈ hk => ?_
  replace hK := hK.trans hk
  clear hk
  have hF := atRel_refl w₈
  refine Gets.silent 20 ?_
  walk_nrm
  repeat w_go at_rl
  refine Goes.stop (fun w₁ r₁ => ?_)
  replace hF := at_rl hF r₁
  clear r₁
  replace hK := hK.rely hF
  clear hF
  refine Gets.val 0 rfl rfl (by k_ne) fun w₂ r => ⟨.slice (some ⟨w₂.heap.size, 0, Option.none⟩) 2 2, w₂.alloc (.cells #[.int .i64 5, .int .i64 7] 2), by simp [go_sem, execOp, Act.eval], by simp [go_sem, execOp, Act.eval], ?_⟩
  replace hK := hK.rely r
  have hI := Ints.built (S := S₈) w₂ (hK.bound hS) (xs := [5, 7]) (fun i => [5, 7].getD i 0) (by intro i hi; simp at hi; (rcases i with _ | _ | _ | _ | _ | i) <;> first | rfl | omega)
  replace hK := hK.trans (((Grew.refl w₂).alloc (.cells #[.int .i64 5, .int .i64 7] 2)).kept S₈)
  simp only [List.map_cons, List.map_nil] at hI
  generalize w₂.heap.size = gb at hI ⊢
  generalize w₂.alloc (.cells #[.int .i64 5, .int .i64 7] 2) = w₃ at hK hI ⊢
  clear r
  have hF := atRel_refl w₃
  refine Gets.silent 20 ?_
  walk_nrm
  repeat w_go at_rl
  u_call Try.func15 nm15 Try.f15 at_rl hF
  refine Goes.stop (fun w₁ r₁ => ?_)
  replace hF := at_rl hF r₁
  clear r₁
  replace hK := hK.rely hF
  replace hI := hI.rely hF
  clear hF
  refine make15 (hK.bound hS) fun w₄ fd cap hk hfun => ?_
  replace hI := hI.kept hk
  replace hK := hK.trans hk
  clear hk
  have hF := atRel_refl w₄
  refine Gets.silent 20 ?_
  walk_nrm
  repeat w_go at_rl
  u_call Try.func14 nm14 Try.f14 at_rl hF
  refine Goes.stop (fun w₁ r₁ => ?_)
  replace hF := at_rl hF r₁
  clear r₁
  replace hK := hK.rely hF
  replace hI := hI.rely hF
  replace hfun := hfun.rely hF
  clear hF
  refine enter14 (n := 2) (by omega) (hK.bound hS) hI hfun fun w₇ S₇ hk => ?_
  replace hK := hK.trans hk
  rw [show firstZ (fun i => isZ 0 ([5, 7].getD i 0)) 0 2 = -1 by decide]
  clear hk hI hfun
  have hF := atRel_refl w₇
  refine Gets.silent 40 ?_
  walk_nrm
  repeat w_go at_rl
  u_call Try.func15 nm15 Try.f15 at_rl hF
  refine Goes.stop (fun w₁ r₁ => ?_)
  replace hF := at_rl hF r₁
  clear r₁
  replace hK := hK.rely hF
  clear hF
  refine make15 (hK.bound hS) fun w₄ fd cap hk hfun => ?_
  replace hK := hK.trans hk
  clear hk
  have hF := atRel_refl w₄
  refine Gets.silent 20 ?_
  walk_nrm
  repeat w_go at_rl
  u_call Try.func17 nm17 Try.f17 at_rl hF
  refine Goes.stop (fun w₁ r₁ => ?_)
  replace hF := at_rl hF r₁
  clear r₁
  replace hK := hK.rely hF
  replace hfun := hfun.rely hF
  clear hF
  refine allGets (n := 0) (f := fun _ => 0) (by omega) (hK.bound hS) (fun i hi => absurd hi (by omega)) hfun fun w₉ S₉ hk => ?_
  replace hK := hK.trans hk
  rw [show decide (firstZ (fun i => !isZ 0 0) 0 0 < 0) = true by decide]
  clear hk hfun
  have hF := atRel_refl w₉
  refine Gets.silent 60 ?_
  walk_nrm
  repeat w_go at_rl
  refine Goes.stop (fun w₁ r₁ => Gets.here fun w₂ r₂ => ?_)
  replace hF := at_rl (at_rl hF r₁) r₂
  replace hK := hK.rely hF
  intro w₃ r₃
  refine ⟨rfl, .bool true, #[], ?_, by simp, rfl, _, hK.rely r₃⟩
  simp [G, stepG, unwind, doReturn, results, Frame.at, base, Try.func6, Try.f6, seen, GStep.after]
end Go.Proofs.Ytpkiojchlficcaa.Crew
