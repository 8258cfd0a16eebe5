/- slices.Equal: the orders of its drawn region. -/
import Derived.Test.YtpkiojchlficcaaEc
namespace Go.Proofs.Ytpkiojchlficcaa.Crew
open Go Go.Conc Go.ConcN Go.RowKit Go.Conc.Lib Go.ConcR.Gen
open Go.ConcM (OsLater goes_pad goes_le)
open Go.ConcR (KK wgBlock WgAt stA smA rd wr mk DC0)
def depE : Nat → List Nat
  | 2 => [0, 1]
  | 3 => [2]
  | 6 => [4, 5]
  | 7 => [6]
  | _ => []
def goodE : List Nat → (Nat → Bool) → Bool
  | [], d => d 0 && d 1 && d 2 && d 3 && d 4 && d 5 && d 6 && d 7
  | j :: L, d => decide (j < 8) && (depE j).all d && goodE L (fun x => x == j || d x)
noncomputable def body10 : Code := Try.f10.body.getD .skip
noncomputable def LL10 : Code := (findLoop39 body10).getD .skip
noncomputable def ops10 : Array Oper := match s0' (s1' (s0' (s0' (s1' (s1' LL10))))) with | .region _ o _ => o | _ => #[]
theorem dep10 : (Try.prog.follows .mixedOrders || !Region.departs ops10) = true := by kernel_rfl
theorem size10 : ops10.size = 9 := by kernel_rfl
theorem all10 : (orders .any ops10 9 (Array.replicate 9 false) []).all (fun L => L == L.take 8 ++ [8] && goodE (L.take 8) (fun _ => false)) = true := by kernel_rfl
theorem sched10 (t : Nat) : ∃ L, Region.schedule (Try.prog.follows .mixedOrders) ops10 t = L ++ [8] ∧ goodE L (fun _ => false) = true := by
  have h := schedule_mem dep10 t
  rw [size10] at h
  have := List.all_eq_true.1 all10 _ h
  rw [Bool.and_eq_true] at this
  exact ⟨_, by simpa using this.1, this.2⟩
end Go.Proofs.Ytpkiojchlficcaa.Crew
