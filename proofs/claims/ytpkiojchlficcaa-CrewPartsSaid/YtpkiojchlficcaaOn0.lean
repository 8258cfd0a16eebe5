/- The walks: the Once's end: the flag is stored, the lock let go; both by deferred calls. -/
import Derived.Test.YtpkiojchlficcaaUn
import Derived.Test.YtpkiojchlficcaaOdd
namespace Go.Proofs.Ytpkiojchlficcaa.Crew
open Go Go.Conc Go.ConcN Go.RowKit Go.Conc.Lib Go.ConcR.Gen
open Go.ConcM (OsLater goes_pad goes_le)
open Go.ConcR (KK wgBlock WgAt stA smA rd wr mk DC0)
noncomputable def ops73 : Array Oper := match Try.f73.body with | some (.region _ o _) => o | _ => #[]
theorem dep73 : (Try.prog.follows .mixedOrders || !Region.departs ops73) = true := by kernel_rfl
theorem size73 : ops73.size = 6 := by kernel_rfl
theorem orders73 : orders .any ops73 6 (Array.replicate 6 false) [] = [[0, 1, 2, 3, 4, 5], [0, 1, 3, 2, 4, 5], [0, 1, 3, 4, 2, 5], [0, 3, 1, 2, 4, 5], [0, 3, 1, 4, 2, 5], [0, 3, 4, 1, 2, 5], [3, 0, 1, 2, 4, 5], [3, 0, 1, 4, 2, 5], [3, 0, 4, 1, 2, 5], [3, 4, 0, 1, 2, 5]] := by kernel_rfl
theorem sched73 (t : Nat) : Region.schedule (Try.prog.follows .mixedOrders) ops73 t ∈ [[0, 1, 2, 3, 4, 5], [0, 1, 3, 2, 4, 5], [0, 1, 3, 4, 2, 5], [0, 3, 1, 2, 4, 5], [0, 3, 1, 4, 2, 5], [0, 3, 4, 1, 2, 5], [3, 0, 1, 2, 4, 5], [3, 0, 1, 4, 2, 5], [3, 0, 4, 1, 2, 5], [3, 4, 0, 1, 2, 5]] := by
  have := schedule_mem dep73 t
  rw [size73, orders73] at this
  exact this
section
variable [Cap] {C : Cf} {W : World}
variable {b₀ : Frame} {a₀ : Act} {ops₀ : Array Oper} {i₀ : Nat} {rest₀ : List Nat} {k₀ : List Item} {cs : List Frame}
noncomputable def body72 : Code := Try.f72.body.getD .skip
noncomputable def body73 : Code := Try.f73.body.getD .skip
set_option maxRecDepth 100000 in
set_option maxHeartbeats 16000000 in
/-- The deferred Unlock, to the caller's return. -/
theorem unlockD (hP : C.P = Try.prog) (Ge : Geo C) {c : Frame} (hcm : c.mode = .returning) (hT : ∀ k', ∃ m M, ∀ w, KW C W w → GO C k' (at_ .sel) m M (G c cs) w) :
    ∀ k w, KW C W w → GD C k (at_ .ur) 60 (G ((baseD 72).at ⟨#[.pointer (some ⟨C.tp.On, 1, Option.none⟩), undef, undef, undef, undef, undef], []⟩ [.code body72]) (c :: cs)) w := by
  intro k w hF
  simp only [body72, Try.f72, Option.getD_some]
  repeat w_go KW.rely
  u_call Try.func76 nm76 Try.f76 KW.rely hF
  refine goes_le (by omega) (unlockGo hP Ge ?_ k _ hF)
  clear hF
  intro k'
  obtain ⟨mT, MT, hT'⟩ := hT k'
  refine ⟨mT + 20, MT, fun w hF => ?_⟩
  walk_nrm
  repeat w_go KW.rely
  u_in KW.rely hF
  rw [stepG_leave_deferred rfl rfl Try.func72 (results_none rfl _ _ _) (events_results_none rfl _ _) hcm]
  simp only [goes_go]
  refine ⟨by u_nil, ?_⟩
  exact goes_pad (hT' _ hF) _

set_option maxRecDepth 100000 in
set_option maxHeartbeats 16000000 in
/-- The deferred Store, to the caller's return. -/
theorem storeD (hP : C.P = Try.prog) (Ge : Geo C) {c : Frame} (hcm : c.mode = .returning) (hT : ∀ k', ∃ m, ∀ w, KW C W w → GD C k' (at_ .ur) m (G c cs) w) :
    ∀ k w, KW C W w → Goes Try.prog false (RX C Option.none) DC0 (OddAt Try.prog false (RX C Option.none) (DX C Option.none false) (WK C k (at_ .st)) 60) 10 (G ((baseD 73).at ⟨#[.pointer (some ⟨C.tp.On, 0, Option.none⟩), .bool true, undef, undef, undef, undef, undef, undef, undef, undef], []⟩ [.code body73]) (c :: cs)) w := by
  intro k w hF
  have e : body73 = .region 0 ops73 true := by kernel_rfl
  rw [e]
  refine Goes.stop (fun w₁ r₁ => ?_)
  have hF := hF.rely r₁
  refine ⟨rfl, _, _, _, stepG_draw, dx_draw _, ?_⟩
  have hF := hF.drew (w₁.drawn + 1)
  have hm := sched73 (w₁.tape w₁.drawn (.order (baseD 73).fn 0))
  generalize ({ w₁ with drawn := w₁.drawn + 1 } : World) = w₂ at hF
  generalize Region.schedule (Try.prog.follows .mixedOrders) ops73 (w₁.tape w₁.drawn (.order (baseD 73).fn 0)) = l at hm
  clear r₁
  refine goes_mono (D := DC0) (fun _ _ _ x => dx_of_dc0 x) (fun _ _ x => x) ?_
  have fin : ∀ w, KW C W w → Goes Try.prog false (RX C Option.none) DC0 (WK C k (at_ .st)) 2 (G ((baseD 73).at ⟨#[.pointer (some ⟨C.tp.On, 0, Option.none⟩), .bool true, undef, undef, .pointer (some ⟨C.tp.On, 0, Option.none⟩), .pointer (some ⟨C.tp.On, 0, Option.none⟩), .pointer (some ⟨C.tp.On, 0, Option.none⟩), .bool true, .int .u32 1, undef], []⟩ [.inRegion ops73 [5]]) (c :: cs)) w := by
    intro w hF
    simp only [ops73, Try.f73]
    refine at_stop hF fun k w hk hF => stpWay hP rfl (by simp) rfl (by simp [Th.wakes]) fun s hs hsm => ?_
    obtain ⟨mT, hT'⟩ := hT k
    have hs' := hs.setDn Ge true
    refine ⟨(at_ .ur, { s with dn := true }), by simp [wmv], fun _ => ⟨_, _, _, stepG_store_atomic rfl rfl (by k_ne) rfl Try.func77 x77_n x77_b x77_x x77_f rfl rfl hs.dnC (hs.onThaw 0), hs', Eff.set _ _ (.inl rfl), evW0 (by simp) rfl ⟨fun e he => by simp at he; subst he; exact sy_cell (.inl rfl) _, rfl⟩, afterT hP (by simp) (mT + 20) ?_⟩⟩
    have hF := hF.eff Ge (Eff.set _ _ (.inl rfl)) hs'
    clear hs'
    walk_nrm
    repeat w_go KW.rely
    u_in KW.rely hF
    rw [stepG_leave_deferred rfl rfl Try.func73 (results_none rfl _ _ _) (events_results_none rfl _ _) hcm]
    simp only [goes_go]
    refine ⟨by u_nil, ?_⟩
    exact goes_pad (hT' _ hF) _
  clear hT e
  simp only [List.mem_cons, List.not_mem_nil, or_false] at hm
  rcases hm with rfl | rfl | rfl | rfl | rfl | rfl | rfl | rfl | rfl | rfl
  all_goals
    simp only [ops73, Try.f73] at fin ⊢
    repeat (first | (exact goes_le (by omega) (fin _ hF)) | w_go KW.rely | u_call Try.func78 nm78 Try.f78 KW.rely hF | u_leave1 Try.func78 KW.rely hF)
end
end Go.Proofs.Ytpkiojchlficcaa.Crew
