/- The walks: what is done to a number, what is asked of one, what becomes of two: silent, in whatever company. -/
import Derived.Test.YtpkiojchlficcaaHa
import Derived.Laws.Unary
set_option linter.unusedSimpArgs false
namespace Go.Proofs.Ytpkiojchlficcaa.Crew
open Go Go.Conc Go.ConcN Go.RowKit Go.Conc.Lib Go.ConcR.Gen
open Go.ConcM (OsLater goes_pad goes_le)
open Go.ConcR (KK wgBlock WgAt stA smA rd wr mk DC0)
/-- What becomes of a number. -/
def doesZ (k x : Int) : Int := if k = 0 then IntKind.i64.wrap (2 * x) else if k = 1 then IntKind.i64.wrap (x - 3) else if k = 2 then IntKind.i64.wrap (-x) else 0
/-- Is it so? -/
def isZ (k x : Int) : Bool := if k = 0 then Int.tmod x 2 == 0 else if k = 1 then decide (9 < x) else if k = 2 then x == 7 else false
def bothZ (a b : Int) : Int := IntKind.i64.wrap (IntKind.i64.wrap (3 * a) - b)
section
variable {main : Bool} {R : World → World → Prop} {F : World → Prop} (rl : ∀ {w w₁}, F w → R w w₁ → F w₁) {Stop : Goroutine → World → Prop}
variable {b₀ : Frame} {a₀ : Act} {ops₀ : Array Oper} {i₀ : Nat} {rest₀ : List Nat} {k₀ : List Item} {cs : List Frame}
noncomputable def body31 : Code := Try.f31.body.getD .skip
noncomputable def body34 : Code := Try.f34.body.getD .skip
noncomputable def body20 : Code := Try.f20.body.getD .skip
theorem nm31 : (Try.f31.name == "runtime.NumGoroutine") = false := by kernel_rfl
theorem nm34 : (Try.f34.name == "runtime.NumGoroutine") = false := by kernel_rfl
theorem nm20 : (Try.f20.name == "runtime.NumGoroutine") = false := by kernel_rfl
include rl
set_option maxRecDepth 100000 in
set_option maxHeartbeats 16000000 in
/-- ████ Does. ████ -/
theorem does31 (k x : Int) {m : Nat} (hT : ∀ w, F w → Goes Try.prog main R DC0 Stop m (G (b₀.at (a₀.put ((ops₀[i₀]?).bind (·.dst)) (.int .i64 (doesZ k x))) (.inRegion ops₀ rest₀ :: k₀)) cs) w) :
    ∀ w, F w → Goes Try.prog main R DC0 Stop (m + 60) (G ((base 31).at ⟨#[.int .u8 k, .int .i64 x, undef, undef, undef, undef, undef, undef, undef, undef, undef, undef, undef, undef, undef, undef, undef, undef], []⟩ [.code body31]) (b₀.at a₀ (.inRegion ops₀ (i₀ :: rest₀) :: k₀) :: cs)) w := by
  intro w hF
  simp only [body31, Try.f31, Option.getD_some]
  by_cases h0 : k = 0
  · have e0 : (k == 0) = true := by rw [h0]; rfl
    rw [show doesZ k x = _ from if_pos h0] at hT
    clear h0
    repeat w_go rl
    u_leave1 Try.func31 rl hF
    exact goes_pad (hT _ hF) _
  have e0 : (k == 0) = false := by rw [beq_eq_false_iff_ne]; exact h0
  by_cases h1 : k = 1
  · have e1 : (k == 1) = true := by rw [h1]; rfl
    rw [show doesZ k x = _ from (if_neg h0).trans (if_pos h1)] at hT
    clear h0 h1
    repeat w_go rl
    u_leave1 Try.func31 rl hF
    exact goes_pad (hT _ hF) _
  have e1 : (k == 1) = false := by rw [beq_eq_false_iff_ne]; exact h1
  by_cases h2 : k = 2
  · have e2 : (k == 2) = true := by rw [h2]; rfl
    rw [show doesZ k x = _ from (if_neg h0).trans ((if_neg h1).trans (if_pos h2))] at hT
    clear h0 h1 h2
    repeat w_go rl
    u_leave1 Try.func31 rl hF
    exact goes_pad (hT _ hF) _
  have e2 : (k == 2) = false := by rw [beq_eq_false_iff_ne]; exact h2
  rw [show doesZ k x = _ from (if_neg h0).trans ((if_neg h1).trans (if_neg h2))] at hT
  clear h0 h1 h2
  repeat w_go rl
  u_leave1 Try.func31 rl hF
  exact goes_pad (hT _ hF) _
set_option maxRecDepth 100000 in
set_option maxHeartbeats 16000000 in
/-- ████ Is. ████ -/
theorem is34 (k x : Int) {m : Nat} (hT : ∀ w, F w → Goes Try.prog main R DC0 Stop m (G (b₀.at (a₀.put ((ops₀[i₀]?).bind (·.dst)) (.bool (isZ k x))) (.inRegion ops₀ rest₀ :: k₀)) cs) w) :
    ∀ w, F w → Goes Try.prog main R DC0 Stop (m + 60) (G ((base 34).at ⟨#[.int .u8 k, .int .i64 x, undef, undef, undef, undef, undef, undef, undef, undef, undef, undef, undef, undef, undef, undef, undef, undef, undef], []⟩ [.code body34]) (b₀.at a₀ (.inRegion ops₀ (i₀ :: rest₀) :: k₀) :: cs)) w := by
  intro w hF
  simp only [body34, Try.f34, Option.getD_some]
  by_cases h0 : k = 0
  · have e0 : (k == 0) = true := by rw [h0]; rfl
    rw [show isZ k x = _ from if_pos h0] at hT
    clear h0
    repeat w_go rl
    u_leave1 Try.func34 rl hF
    exact goes_pad (hT _ hF) _
  have e0 : (k == 0) = false := by rw [beq_eq_false_iff_ne]; exact h0
  by_cases h1 : k = 1
  · have e1 : (k == 1) = true := by rw [h1]; rfl
    rw [show isZ k x = _ from (if_neg h0).trans (if_pos h1)] at hT
    clear h0 h1
    repeat w_go rl
    u_leave1 Try.func34 rl hF
    exact goes_pad (hT _ hF) _
  have e1 : (k == 1) = false := by rw [beq_eq_false_iff_ne]; exact h1
  by_cases h2 : k = 2
  · have e2 : (k == 2) = true := by rw [h2]; rfl
    rw [show isZ k x = _ from (if_neg h0).trans ((if_neg h1).trans (if_pos h2))] at hT
    clear h0 h1 h2
    repeat w_go rl
    u_leave1 Try.func34 rl hF
    exact goes_pad (hT _ hF) _
  have e2 : (k == 2) = false := by rw [beq_eq_false_iff_ne]; exact h2
  rw [show isZ k x = _ from (if_neg h0).trans ((if_neg h1).trans (if_neg h2))] at hT
  clear h0 h1 h2
  repeat w_go rl
  u_leave1 Try.func34 rl hF
  exact goes_pad (hT _ hF) _
set_option maxRecDepth 100000 in
set_option maxHeartbeats 16000000 in
/-- ████ Both. ████ -/
theorem both20 (x y : Int) {m : Nat} (hT : ∀ w, F w → Goes Try.prog main R DC0 Stop m (G (b₀.at (a₀.put ((ops₀[i₀]?).bind (·.dst)) (.int .i64 (bothZ x y))) (.inRegion ops₀ rest₀ :: k₀)) cs) w) :
    ∀ w, F w → Goes Try.prog main R DC0 Stop (m + 60) (G ((base 20).at ⟨#[.int .i64 x, .int .i64 y, undef, undef, undef, undef, undef, undef, undef], []⟩ [.code body20]) (b₀.at a₀ (.inRegion ops₀ (i₀ :: rest₀) :: k₀) :: cs)) w := by
  intro w hF
  simp only [body20, Try.f20, Option.getD_some]
  unfold bothZ at hT
  repeat w_go rl
  u_leave1 Try.func20 rl hF
  exact goes_pad (hT _ hF) _
end
end Go.Proofs.Ytpkiojchlficcaa.Crew
