/- The walks: function values that a worker calls: what they yield, in company. -/
import Derived.Test.YtpkiojchlficcaaPu
set_option linter.unusedSimpArgs false
namespace Go.Proofs.Ytpkiojchlficcaa.Crew
open Go Go.Conc Go.ConcN Go.RowKit Go.Conc.Lib Go.ConcR.Gen
open Go.ConcM (OsLater goes_pad goes_le)
open Go.ConcR (KK wgBlock WgAt stA smA rd wr mk DC0)
section
variable {main : Bool} {b : Frame} {a : Act} {kk : List Item} {cs : List Frame} {w : World} {ops : Array Oper} {i : Nat} {rest : List Nat} {o : Oper}
/-- A plain load, its value known. -/
theorem stepG_loadV (ho : ops[i]? = some o) (hw : Region.wanted o (yielded ops a.tmps) = true) (hk : b.kind ≠ .early) {ad : Addr} {v : Value}
    (hr : (execOp a.eval o).run Try.prog w = .ok (.value v) w) (he : (execOp a.eval o).events Try.prog w #[] = #[⟨.cell ad, false, false⟩]) (hq : (Try.prog.funcs[b.fn]?).any (·.norace) = false) :
    stepG Try.prog main (G (b.at a (.inRegion ops (i :: rest) :: kk)) cs) w = .go (G (b.at (a.put o.dst v) (.inRegion ops rest :: kk)) cs) w #[⟨.cell ad, false, false⟩] := by
  rw [stepG_value ho hw hk hr]
  unfold listed
  rw [he, seen_eq hq (by simp)]
end
section
variable {C : Cf} {W w : World}
/-- A cell that may be read in the phase. -/
structure VarA (C : Cf) (W : World) (ad : Addr) (v : Value) : Prop where
  not : ¬ Five C ad.block
  shun : ¬ C.tp.Shun (.cell ad)
  low : ad.block < C.B
  at0 : W.cell? ad = some v
theorem VarA.cell {ad : Addr} {v : Value} (x : VarA C W ad v) (h : KW C W w) : w.cell? ad = some v := by
  rw [← x.at0]; simp only [World.cell?, h.rx.block _ x.not]
theorem VarA.dx {ad : Addr} {v : Value} (x : VarA C W ad v) {h : Option Nat} : DX C h false w w #[⟨.cell ad, false, false⟩] := dx_load _ x.not x.shun x.low rfl
theorem Var.toA {b : Nat} {v : Value} (x : Var C W b v) : VarA C W ⟨b, 0, Option.none⟩ v := ⟨x.not, x.shun, x.low, x.at0⟩
/-- A FUNCTION VALUE OF ONE NUMBER: what it yields; it may read. -/
def Maps (C : Cf) (W : World) (h : Option Nat) (fv : Value) (φ : Int → Value) : Prop := ∃ c, ∀ (z : Int) (b : Frame) (a : Act) (ops : Array Oper) (idx : Nat) (rest : List Nat) (k : List Item) (cs : List Frame) (o : Oper) (x y : Operand) (ats : Array TypeId),
  ops[idx]? = some o → Region.wanted o (yielded ops a.tmps) = true → b.kind ≠ .early → o.op = .call { callee := .value x, args := #[y], argTypes := ats } → a.eval x = fv → a.eval y = .int .i64 z →
  ∀ (Stop : Goroutine → World → Prop) (M : Nat), (∀ w, KW C W w → Goes Try.prog false (RX C h) (DX C h false) Stop M (G (b.at (a.put o.dst (φ z)) (.inRegion ops rest :: k)) cs) w) →
  ∀ w, KW C W w → Goes Try.prog false (RX C h) (DX C h false) Stop (M + c) (G (b.at a (.inRegion ops (idx :: rest) :: k)) cs) w
noncomputable def body30 : Code := Try.f30.body.getD .skip
noncomputable def body33 : Code := Try.f33.body.getD .skip
noncomputable def body35 : Code := Try.f35.body.getD .skip
noncomputable def body23 : Code := Try.f23.body.getD .skip
theorem nm30 : (Try.f30.name == "runtime.NumGoroutine") = false := by kernel_rfl
theorem loud30 : (Try.prog.funcs[(base 30).fn]?).any (·.norace) = false := by kernel_rfl
theorem nm33 : (Try.f33.name == "runtime.NumGoroutine") = false := by kernel_rfl
theorem loud33 : (Try.prog.funcs[(base 33).fn]?).any (·.norace) = false := by kernel_rfl
theorem nm35 : (Try.f35.name == "runtime.NumGoroutine") = false := by kernel_rfl
theorem loud35 : (Try.prog.funcs[(base 35).fn]?).any (·.norace) = false := by kernel_rfl
theorem nm23 : (Try.f23.name == "runtime.NumGoroutine") = false := by kernel_rfl
theorem loud23 : (Try.prog.funcs[(base 23).fn]?).any (·.norace) = false := by kernel_rfl
theorem RX.rf (h : Option Nat) : ∀ w, RX C h w w := fun w => RX.refl h w
theorem dc0_dx (h : Option Nat) : ∀ w w' es, DC0 w w' es → DX C h false w w' es := fun _ _ _ x => dx_of_dc0 x
set_option maxRecDepth 100000 in
set_option maxHeartbeats 16000000 in
/-- ████ does(kind). ████ -/
theorem maps30 {h : Option Nat} {Kv : Nat} {kd : Int} (hK : VarA C W ⟨Kv, 0, Option.none⟩ (.int .u8 kd)) : Maps C W h (.func (.func 30) #[] #[.pointer (some ⟨Kv, 0, Option.none⟩)]) (fun z => .int .i64 (doesZ kd z)) := by
  refine ⟨200, fun z b a ops idx rest k cs o x y ats ho hw hk hop hx hy Stop M hT w hF => ?_⟩
  refine Goes.step (n := M + 199) rfl fun w₁ h₁ => ?_
  replace hF := hF.rely h₁
  clear h₁
  refine goes_callv ho hw hk hop hx Try.func30 nm30 rfl ⟨dx_of_dc0 ⟨rfl, rfl⟩, ?_⟩
  simp only [List.map_toArray, List.map_cons, List.map_nil, hy, Try.f30]
  refine goes_le (show 20 + (M + 170) + 1 ≤ _ by omega) (goes_odd (D' := DC0) (RX.rf h) (dc0_dx h) ?_)
  walk_nrm
  repeat w_go KW.rely
  refine Goes.stop (fun w₁ r₁ => ?_)
  replace hF := hF.rely r₁
  clear r₁
  have hc := hK.cell hF
  refine ⟨rfl, _, _, _, stepG_loadV (ad := ⟨Kv, 0, Option.none⟩) (v := .int .u8 kd) rfl rfl (by k_ne) (by simp [go_sem, execOp, hc]) (by simp [go_sem, execOp, hc]) loud30, hK.dx, ?_⟩
  clear hc
  refine goes_le (show 120 + M ≤ _ by omega) (goes_then (M := M) (T := fun g w => g = (G (b.at (a.put ((ops[idx]?).bind (·.dst)) (.int .i64 (doesZ kd z))) (.inRegion ops rest :: k)) cs) ∧ KW C W w) (D' := DC0) (RX.rf h) (dc0_dx h) ?_ ?_)
  · rintro g w ⟨rfl, hF⟩; rw [ho]; exact hT w hF
  walk_nrm
  repeat w_go KW.rely
  u_call Try.func31 nm31 Try.f31 KW.rely hF
  refine goes_le (show 20 + 60 ≤ _ by omega) (does31 (R := RX C h) (F := KW C W) KW.rely (m := 20) kd z (fun w hF => ?_) _ hF)
  walk_nrm
  repeat w_go KW.rely
  u_leave1 Try.func30 KW.rely hF
  exact Goes.stop (fun w₁ r₁ => ⟨rfl, hF.rely r₁⟩)
set_option maxRecDepth 100000 in
set_option maxHeartbeats 16000000 in
/-- ████ is(kind). ████ -/
theorem maps33 {h : Option Nat} {Kv : Nat} {kd : Int} (hK : VarA C W ⟨Kv, 0, Option.none⟩ (.int .u8 kd)) : Maps C W h (.func (.func 33) #[] #[.pointer (some ⟨Kv, 0, Option.none⟩)]) (fun z => .bool (isZ kd z)) := by
  refine ⟨200, fun z b a ops idx rest k cs o x y ats ho hw hk hop hx hy Stop M hT w hF => ?_⟩
  refine Goes.step (n := M + 199) rfl fun w₁ h₁ => ?_
  replace hF := hF.rely h₁
  clear h₁
  refine goes_callv ho hw hk hop hx Try.func33 nm33 rfl ⟨dx_of_dc0 ⟨rfl, rfl⟩, ?_⟩
  simp only [List.map_toArray, List.map_cons, List.map_nil, hy, Try.f33]
  refine goes_le (show 20 + (M + 170) + 1 ≤ _ by omega) (goes_odd (D' := DC0) (RX.rf h) (dc0_dx h) ?_)
  walk_nrm
  repeat w_go KW.rely
  refine Goes.stop (fun w₁ r₁ => ?_)
  replace hF := hF.rely r₁
  clear r₁
  have hc := hK.cell hF
  refine ⟨rfl, _, _, _, stepG_loadV (ad := ⟨Kv, 0, Option.none⟩) (v := .int .u8 kd) rfl rfl (by k_ne) (by simp [go_sem, execOp, hc]) (by simp [go_sem, execOp, hc]) loud33, hK.dx, ?_⟩
  clear hc
  refine goes_le (show 120 + M ≤ _ by omega) (goes_then (M := M) (T := fun g w => g = (G (b.at (a.put ((ops[idx]?).bind (·.dst)) (.bool (isZ kd z))) (.inRegion ops rest :: k)) cs) ∧ KW C W w) (D' := DC0) (RX.rf h) (dc0_dx h) ?_ ?_)
  · rintro g w ⟨rfl, hF⟩; rw [ho]; exact hT w hF
  walk_nrm
  repeat w_go KW.rely
  u_call Try.func34 nm34 Try.f34 KW.rely hF
  refine goes_le (show 20 + 60 ≤ _ by omega) (is34 (R := RX C h) (F := KW C W) KW.rely (m := 20) kd z (fun w hF => ?_) _ hF)
  walk_nrm
  repeat w_go KW.rely
  u_leave1 Try.func33 KW.rely hF
  exact Goes.stop (fun w₁ r₁ => ⟨rfl, hF.rely r₁⟩)
set_option maxRecDepth 100000 in
set_option maxHeartbeats 16000000 in
/-- ████ All's question: not so. ████ -/
theorem maps35 {h : Option Nat} {Kv : Nat} {fd : FuncId} {cap : Array Value} {p : Int → Bool} (hK : VarA C W ⟨Kv, 0, Option.none⟩ (.func (.func fd) #[] cap)) (hI : Maps C W h (.func (.func fd) #[] cap) (fun z => .bool (p z))) :
    Maps C W h (.func (.func 35) #[] #[.pointer (some ⟨Kv, 0, Option.none⟩)]) (fun z => .bool (!p z)) := by
  obtain ⟨ci, hI⟩ := hI
  refine ⟨ci + 200, fun z b a ops idx rest k cs o x y ats ho hw hk hop hx hy Stop M hT w hF => ?_⟩
  refine Goes.step (n := M + (ci + 199)) rfl fun w₁ h₁ => ?_
  replace hF := hF.rely h₁
  clear h₁
  refine goes_callv ho hw hk hop hx Try.func35 nm35 rfl ⟨dx_of_dc0 ⟨rfl, rfl⟩, ?_⟩
  simp only [List.map_toArray, List.map_cons, List.map_nil, hy, Try.f35]
  refine goes_le (show 20 + (M + ci + 150) + 1 ≤ _ by omega) (goes_odd (D' := DC0) (RX.rf h) (dc0_dx h) ?_)
  walk_nrm
  repeat w_go KW.rely
  refine Goes.stop (fun w₁ r₁ => ?_)
  replace hF := hF.rely r₁
  clear r₁
  have hc := hK.cell hF
  refine ⟨rfl, _, _, _, stepG_loadV (ad := ⟨Kv, 0, Option.none⟩) (v := .func (.func fd) #[] cap) rfl rfl (by k_ne) (by simp [go_sem, execOp, hc]) (by simp [go_sem, execOp, hc]) loud35, hK.dx, ?_⟩
  clear hc
  refine goes_le (show 20 + (M + ci + 120) ≤ _ by omega) (goes_then (M := (M + ci + 120)) (T := Goes Try.prog false (RX C h) (DX C h false) Stop (M + ci + 120)) (D' := DC0) (RX.rf h) (dc0_dx h) (fun _ _ x => x) ?_)
  walk_nrm
  repeat w_go KW.rely
  refine Goes.stop (fun w₁ r₁ => ?_)
  replace hF := hF.rely r₁
  clear r₁
  refine goes_le (show (M + 100) + ci ≤ _ by omega) (hI z (base 35) _ _ _ _ _ _ _ (.tmp 4) (.tmp 5) #[2] rfl rfl (by k_ne) rfl rfl rfl Stop (M + 100) (fun w hF => ?_) _ hF)
  refine goes_le (show 60 + M ≤ _ by omega) (goes_then (M := M) (T := fun g w => g = (G (b.at (a.put ((ops[idx]?).bind (·.dst)) (.bool (!p z))) (.inRegion ops rest :: k)) cs) ∧ KW C W w) (D' := DC0) (RX.rf h) (dc0_dx h) ?_ ?_)
  · rintro g w ⟨rfl, hF⟩; rw [ho]; exact hT w hF
  walk_nrm
  repeat w_go KW.rely
  u_leave1 Try.func35 KW.rely hF
  exact Goes.stop (fun w₁ r₁ => ⟨rfl, hF.rely r₁⟩)
set_option maxRecDepth 100000 in
set_option maxHeartbeats 16000000 in
/-- ████ The number itself. ████ -/
theorem maps23 {h : Option Nat} : Maps C W h (.func (.func 23) #[] #[]) (fun z => .int .i64 z) := by
  refine ⟨200, fun z b a ops idx rest k cs o x y ats ho hw hk hop hx hy Stop M hT w hF => ?_⟩
  refine Goes.step (n := M + 199) rfl fun w₁ h₁ => ?_
  replace hF := hF.rely h₁
  clear h₁
  refine goes_callv ho hw hk hop hx Try.func23 nm23 rfl ⟨dx_of_dc0 ⟨rfl, rfl⟩, ?_⟩
  simp only [List.map_toArray, List.map_cons, List.map_nil, hy, Try.f23]
  refine goes_le (show 120 + M ≤ _ by omega) (goes_then (M := M) (T := fun g w => g = (G (b.at (a.put ((ops[idx]?).bind (·.dst)) (.int .i64 z)) (.inRegion ops rest :: k)) cs) ∧ KW C W w) (D' := DC0) (RX.rf h) (dc0_dx h) ?_ ?_)
  · rintro g w ⟨rfl, hF⟩; rw [ho]; exact hT w hF
  walk_nrm
  repeat w_go KW.rely
  u_leave1 Try.func23 KW.rely hF
  exact Goes.stop (fun w₁ r₁ => ⟨rfl, hF.rely r₁⟩)
end
end Go.Proofs.Ytpkiojchlficcaa.Crew
