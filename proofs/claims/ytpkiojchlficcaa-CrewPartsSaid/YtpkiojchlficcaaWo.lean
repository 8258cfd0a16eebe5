/- The walks: the makers of functions; All; works: two do what one would. -/
import Derived.Test.YtpkiojchlficcaaRf
set_option linter.unusedSimpArgs false
namespace Go.Proofs.Ytpkiojchlficcaa.Crew
open Go Go.Conc Go.ConcN Go.RowKit Go.Conc.Lib Go.ConcR.Gen
open Go.ConcM (OsLater goes_pad goes_le)
open Go.ConcR (KK wgBlock WgAt stA smA rd wr mk DC0)
theorem nm10 : (Try.f10.name == "runtime.NumGoroutine") = false := by kernel_rfl
theorem nm11 : (Try.f11.name == "runtime.NumGoroutine") = false := by kernel_rfl
theorem nm14 : (Try.f14.name == "runtime.NumGoroutine") = false := by kernel_rfl
theorem nm9 : (Try.f9.name == "runtime.NumGoroutine") = false := by kernel_rfl
theorem nm17 : (Try.f17.name == "runtime.NumGoroutine") = false := by kernel_rfl
theorem nm13 : (Try.f13.name == "runtime.NumGoroutine") = false := by kernel_rfl
section
variable {S : Nat → Prop} {w : World} {n : Nat} {f g : Nat → Int} {a : Option Addr}
theorem Ints.congr (h : Ints S w a n f) (e : ∀ i, i < n → f i = g i) : Ints S w a n g := fun i hi => by rw [← e i hi]; exact h i hi
theorem Ints.row {b : Nat} (hs : b < w.heap.size) (hS : ¬ S b) (h : ∀ i, i < n → w.cell? ⟨b, i, Option.none⟩ = some (.int .i64 (f i))) : Ints S w (some ⟨b, 0, Option.none⟩) n f := fun i hi =>
  ⟨_, rfl, by have e : (⟨b, 0, Option.none⟩ : Addr).add i = ⟨b, i, Option.none⟩ := (by unfold Addr.add; split <;> simp_all); rw [e]; exact h i hi, hs, hS⟩
theorem Fun.rely {w₁ : World} {fv : Value} {φ : Int → Value} (h : Fun S w fv φ) (r : AtRel w w₁) : Fun S w₁ fv φ := by obtain ⟨d, rfl⟩ := r; exact h
theorem Ints.rely {w₁ : World} (h : Ints S w a n f) (r : AtRel w w₁) : Ints S w₁ a n f := by obtain ⟨d, rfl⟩ := r; exact h
end
section
variable {S : Nat → Prop} {Q : Goroutine → World → (Nat → Prop) → Prop} {b₀ : Frame} {a₀ : Act} {ops₀ : Array Oper} {i₀ : Nat} {rest₀ : List Nat} {k₀ : List Item} {cs : List Frame}
noncomputable def body12 : Code := Try.f12.body.getD .skip
theorem nm12 : (Try.f12.name == "runtime.NumGoroutine") = false := by kernel_rfl
set_option maxRecDepth 100000 in
set_option maxHeartbeats 16000000 in
/-- ████ The maker: a function of one number, bound to a kind. ████ -/
theorem make12 {w : World} {kd : Int} (hS : ∀ b, S b → b < w.heap.size)
    (h : ∀ w' fd cap, Kept w S w' S → Fun S w' (.func (.func fd) #[] cap) (fun z => .int .i64 (doesZ kd z)) → Gets (G (b₀.at (a₀.put ((ops₀[i₀]?).bind (·.dst)) (.func (.func fd) #[] cap)) (.inRegion ops₀ rest₀ :: k₀)) cs) w' S Q) :
    Gets (G ((base 12).at ⟨#[.int .u8 kd, undef, undef, undef], []⟩ [.code body12]) (b₀.at a₀ (.inRegion ops₀ (i₀ :: rest₀) :: k₀) :: cs)) w S Q := by
  have hF : Grew w w [] := .refl w
  generalize hw : w = wx at hF h hS ⊢
  subst hw
  refine Gets.silent 9 ?_
  simp only [body12, Try.f12, Option.getD_some]
  repeat w_go Grew.rely
  refine Goes.stop (fun w₁ r₁ => ?_)
  replace hF := hF.rely r₁
  clear r₁
  refine Gets.val 0 rfl rfl (by k_ne) fun w₁ r => ⟨.pointer (some ⟨w.heap.size, 0, Option.none⟩), w₁.alloc (.cells #[.int .u8 kd] 5), by simp [go_sem, execOp, Act.eval, (hF.rely r).size], by simp [go_sem, execOp], ?_⟩
  replace hF := (hF.rely r).alloc (.cells #[.int .u8 kd] 5)
  clear r
  refine Gets.silent 20 ?_
  walk_nrm
  repeat w_go Grew.rely
  u_leave1 Try.func12 Grew.rely hF
  refine Goes.stop (fun w₁ r₁ => ?_)
  replace hF := hF.rely r₁
  refine h _ 30 _ (hF.kept S) fun C W hv hh => maps30 (hv _ _ (hF.cell (k := 0) rfl 0) (by rw [hF.size]; simp) (fun hb => by have := hS _ hb; simp at this))
noncomputable def body15 : Code := Try.f15.body.getD .skip
theorem nm15 : (Try.f15.name == "runtime.NumGoroutine") = false := by kernel_rfl
set_option maxRecDepth 100000 in
set_option maxHeartbeats 16000000 in
/-- ████ The maker: a function of one number, bound to a kind. ████ -/
theorem make15 {w : World} {kd : Int} (hS : ∀ b, S b → b < w.heap.size)
    (h : ∀ w' fd cap, Kept w S w' S → Fun S w' (.func (.func fd) #[] cap) (fun z => .bool (isZ kd z)) → Gets (G (b₀.at (a₀.put ((ops₀[i₀]?).bind (·.dst)) (.func (.func fd) #[] cap)) (.inRegion ops₀ rest₀ :: k₀)) cs) w' S Q) :
    Gets (G ((base 15).at ⟨#[.int .u8 kd, undef, undef, undef], []⟩ [.code body15]) (b₀.at a₀ (.inRegion ops₀ (i₀ :: rest₀) :: k₀) :: cs)) w S Q := by
  have hF : Grew w w [] := .refl w
  generalize hw : w = wx at hF h hS ⊢
  subst hw
  refine Gets.silent 9 ?_
  simp only [body15, Try.f15, Option.getD_some]
  repeat w_go Grew.rely
  refine Goes.stop (fun w₁ r₁ => ?_)
  replace hF := hF.rely r₁
  clear r₁
  refine Gets.val 0 rfl rfl (by k_ne) fun w₁ r => ⟨.pointer (some ⟨w.heap.size, 0, Option.none⟩), w₁.alloc (.cells #[.int .u8 kd] 5), by simp [go_sem, execOp, Act.eval, (hF.rely r).size], by simp [go_sem, execOp], ?_⟩
  replace hF := (hF.rely r).alloc (.cells #[.int .u8 kd] 5)
  clear r
  refine Gets.silent 20 ?_
  walk_nrm
  repeat w_go Grew.rely
  u_leave1 Try.func15 Grew.rely hF
  refine Goes.stop (fun w₁ r₁ => ?_)
  replace hF := hF.rely r₁
  refine h _ 33 _ (hF.kept S) fun C W hv hh => maps33 (hv _ _ (hF.cell (k := 0) rfl 0) (by rw [hF.size]; simp) (fun hb => by have := hS _ hb; simp at this))
/-- A slice just built. -/
theorem Ints.built {S : Nat → Prop} (w : World) (hS : ∀ b, S b → b < w.heap.size) {xs : List Int} (f : Nat → Int) (e : ∀ i, i < xs.length → xs[i]? = some (f i)) : Ints S (w.alloc (.cells (xs.map fun x => .int .i64 x).toArray 2)) (some ⟨w.heap.size, 0, Option.none⟩) xs.length f := by
  have hF := (Grew.refl w).alloc (.cells (xs.map fun x => .int .i64 x).toArray 2)
  refine Ints.row (by rw [hF.size]; simp) (fun hb => by have := hS _ hb; omega) fun i hi => ?_
  have := hF.cell (k := 0) rfl i
  simp only [Nat.add_zero] at this
  rw [this]
  simp [e i hi]
noncomputable def body9 : Code := Try.f9.body.getD .skip
set_option maxRecDepth 100000 in
set_option maxHeartbeats 16000000 in
/-- ████ works: two do what one would. ████ -/
theorem worksGets {w : World} (hS : ∀ b, S b → b < w.heap.size) (h : ∀ w' S', Kept w S w' S' → Gets (G (b₀.at (a₀.put ((ops₀[i₀]?).bind (·.dst)) (.bool true)) (.inRegion ops₀ rest₀ :: k₀)) cs) w' S' Q) :
    Gets (G ((base 9).at ⟨#[undef, undef, undef, undef, undef, undef, undef, undef, undef, undef, undef, undef], []⟩ [.code body9]) (b₀.at a₀ (.inRegion ops₀ (i₀ :: rest₀) :: k₀) :: cs)) w S Q := by
  have hK : Kept w S w S := Kept.refl w S
  have hF := atRel_refl w
  refine Gets.silent 9 ?_
  simp only [body9, Try.f9, Option.getD_some]
  repeat w_go at_rl
  refine Goes.stop (fun w₁ r₁ => ?_)
  replace hF := at_rl hF r₁
  clear r₁
  replace hK := hK.rely hF
  clear hF
  refine Gets.val 0 rfl rfl (by k_ne) fun w₂ r => ⟨.slice (some ⟨w₂.heap.size, 0, Option.none⟩) 3 3, w₂.alloc (.cells #[.int .i64 1, .int .i64 2, .int .i64 3] 2), by simp [go_sem, execOp, Act.eval], by simp [go_sem, execOp, Act.eval], ?_⟩
  replace hK := hK.rely r
  have hI := Ints.built (S := S) w₂ (hK.bound hS) (xs := [1, 2, 3]) (fun i => (i : Int) + 1) (by intro i hi; simp at hi; (rcases i with _ | _ | _ | _ | _ | i) <;> first | rfl | omega)
  replace hK := hK.trans (((Grew.refl w₂).alloc (.cells #[.int .i64 1, .int .i64 2, .int .i64 3] 2)).kept S)
  simp only [List.map_cons, List.map_nil] at hI
  generalize w₂.heap.size = gb at hI ⊢
  generalize w₂.alloc (.cells #[.int .i64 1, .int .i64 2, .int .i64 3] 2) = w₃ at hK hI ⊢
  clear r
  have hF := atRel_refl w₃
  refine Gets.silent 20 ?_
  walk_nrm
  repeat w_go at_rl
  u_call Try.func12 nm12 Try.f12 at_rl hF
  refine Goes.stop (fun w₁ r₁ => ?_)
  replace hF := at_rl hF r₁
  clear r₁
  replace hK := hK.rely hF
  replace hI := hI.rely hF
  clear hF
  refine make12 (hK.bound hS) fun w₄ fd cap hk hfun => ?_
  replace hI := hI.kept hk
  replace hK := hK.trans hk
  clear hk
  have hF := atRel_refl w₄
  refine Gets.silent 20 ?_
  walk_nrm
  repeat w_go at_rl
  u_call Try.func11 nm11 Try.f11 at_rl hF
  refine Goes.stop (fun w₁ r₁ => ?_)
  replace hF := at_rl hF r₁
  clear r₁
  replace hK := hK.rely hF
  replace hI := hI.rely hF
  replace hfun := hfun.rely hF
  clear hF
  refine enter11 (n := 3) (by omega) (hK.bound hS) hI hfun fun w₅ S₅ hk hlt hnS hc => ?_
  have hO := Ints.row hlt hnS hc
  replace hK := hK.trans hk
  clear hk hI hfun hc hlt hnS
  generalize w₁.heap.size + 2 = g2 at hO ⊢
  have hF := atRel_refl w₅
  refine Gets.silent 20 ?_
  walk_nrm
  repeat w_go at_rl
  refine Goes.stop (fun w₁ r₁ => ?_)
  replace hF := at_rl hF r₁
  clear r₁
  replace hK := hK.rely hF
  replace hO := hO.rely hF
  clear hF
  refine Gets.val 0 rfl rfl (by k_ne) fun w₂ r => ⟨.slice (some ⟨w₂.heap.size, 0, Option.none⟩) 3 3, w₂.alloc (.cells #[.int .i64 2, .int .i64 4, .int .i64 6] 2), by simp [go_sem, execOp, Act.eval], by simp [go_sem, execOp, Act.eval], ?_⟩
  replace hK := hK.rely r
  replace hO := hO.rely r
  have hI := Ints.built (S := S₅) w₂ (hK.bound hS) (xs := [2, 4, 6]) (fun i => doesZ 0 ((i : Int) + 1)) (by intro i hi; simp at hi; (rcases i with _ | _ | _ | _ | _ | i) <;> first | rfl | omega)
  replace hO := hO.kept (((Grew.refl w₂).alloc (.cells #[.int .i64 2, .int .i64 4, .int .i64 6] 2)).kept S₅)
  replace hK := hK.trans (((Grew.refl w₂).alloc (.cells #[.int .i64 2, .int .i64 4, .int .i64 6] 2)).kept S₅)
  simp only [List.map_cons, List.map_nil] at hI
  generalize w₂.heap.size = gb at hI ⊢
  generalize w₂.alloc (.cells #[.int .i64 2, .int .i64 4, .int .i64 6] 2) = w₃ at hK hO hI ⊢
  clear r
  have hF := atRel_refl w₃
  refine Gets.silent 20 ?_
  walk_nrm
  repeat w_go at_rl
  u_call Try.func10 nm10 Try.f10 at_rl hF
  refine Goes.stop (fun w₁ r₁ => ?_)
  replace hF := at_rl hF r₁
  clear r₁
  replace hK := hK.rely hF
  replace hO := hO.rely hF
  replace hI := hI.rely hF
  clear hF
  refine equalGets (n := 3) (by omega) hO hI fun w₆ r => ?_
  replace hK := hK.rely r
  clear hO hI r
  have hF := atRel_refl w₆
  refine Gets.silent 20 ?_
  walk_nrm
  repeat w_go at_rl
  refine Goes.stop (fun w₁ r₁ => ?_)
  replace hF := at_rl hF r₁
  clear r₁
  replace hK := hK.rely hF
  clear hF
  refine Gets.val 0 rfl rfl (by k_ne) fun w₂ r => ⟨.slice (some ⟨w₂.heap.size, 0, Option.none⟩) 5 5, w₂.alloc (.cells #[.int .i64 5, .int .i64 7, .int .i64 8, .int .i64 9, .int .i64 10] 2), by simp [go_sem, execOp, Act.eval], by simp [go_sem, execOp, Act.eval], ?_⟩
  replace hK := hK.rely r
  have hI := Ints.built (S := S₅) w₂ (hK.bound hS) (xs := [5, 7, 8, 9, 10]) (fun i => [5, 7, 8, 9, 10].getD i 0) (by intro i hi; simp at hi; (rcases i with _ | _ | _ | _ | _ | i) <;> first | rfl | omega)
  replace hK := hK.trans (((Grew.refl w₂).alloc (.cells #[.int .i64 5, .int .i64 7, .int .i64 8, .int .i64 9, .int .i64 10] 2)).kept S₅)
  simp only [List.map_cons, List.map_nil] at hI
  generalize w₂.heap.size = gb at hI ⊢
  generalize w₂.alloc (.cells #[.int .i64 5, .int .i64 7, .int .i64 8, .int .i64 9, .int .i64 10] 2) = w₃ at hK hI ⊢
  clear r
  have hF := atRel_refl w₃
  refine Gets.silent 20 ?_
  walk_nrm
  repeat w_go at_rl
  u_call Try.func15 nm15 Try.f15 at_rl hF
  refine Goes.stop (fun w₁ r₁ => ?_)
  replace hF := at_rl hF r₁
  clear r₁
  replace hK := hK.rely hF
  replace hI := hI.rely hF
  clear hF
  refine make15 (hK.bound hS) fun w₄ fd cap hk hfun => ?_
  replace hI := hI.kept hk
  replace hK := hK.trans hk
  clear hk
  have hF := atRel_refl w₄
  refine Gets.silent 20 ?_
  walk_nrm
  repeat w_go at_rl
  u_call Try.func14 nm14 Try.f14 at_rl hF
  refine Goes.stop (fun w₁ r₁ => ?_)
  replace hF := at_rl hF r₁
  clear r₁
  replace hK := hK.rely hF
  replace hI := hI.rely hF
  replace hfun := hfun.rely hF
  clear hF
  refine enter14 (n := 5) (by omega) (hK.bound hS) hI hfun fun w₇ S₇ hk => ?_
  replace hK := hK.trans hk
  rw [show firstZ (fun i => isZ 0 ([5, 7, 8, 9, 10].getD i 0)) 0 5 = 2 by decide]
  clear hk hI hfun
  have hF := atRel_refl w₇
  refine Gets.silent 30 ?_
  walk_nrm
  repeat w_go at_rl
  u_leave1 Try.func9 at_rl hF
  exact Goes.stop (fun w₁ r₁ => h _ _ (hK.rely (at_rl hF r₁)))
end
end Go.Proofs.Ytpkiojchlficcaa.Crew
