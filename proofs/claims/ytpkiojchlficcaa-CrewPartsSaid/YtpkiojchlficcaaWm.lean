/- The walks: a worker of the crew. -/
import Derived.Test.YtpkiojchlficcaaOn
import Derived.Test.YtpkiojchlficcaaDn
set_option linter.unusedSimpArgs false
namespace Go.Proofs.Ytpkiojchlficcaa.Crew
open Go Go.Conc Go.ConcN Go.RowKit Go.Conc.Lib Go.ConcR.Gen
open Go.ConcM (OsLater goes_pad goes_le)
open Go.ConcR (KK wgBlock WgAt stA smA rd wr mk DC0)
def findLoop39 : Code → Option Code
  | .loop c => some c
  | .seq x y => match findLoop39 x with | some c => some c | none => findLoop39 y
  | .block _ c => findLoop39 c
  | _ => none
def s0' : Code → Code
  | .seq a _ => a
  | .cond _ a _ => a
  | .block _ c => c
  | .loop c => c
  | c => c
def s1' : Code → Code
  | .seq _ b => b
  | .cond _ _ b => b
  | c => c
noncomputable def body39 : Code := Try.f39.body.getD .skip
noncomputable def LL39 : Code := (findLoop39 body39).getD .skip
noncomputable def bot : Frame := { (default : Frame) with fn := Try.prog.funcs.size, defers := [], mode := .panicking [goexitEntry] }
theorem loud39 : (Try.prog.funcs[(baseD 39).fn]?).any (·.norace) = false := by kernel_rfl
section
variable {P : Program} {main : Bool} {R R' : World → World → Prop} {D : World → World → Array Event → Prop} {Stop : Goroutine → World → Prop}
theorem goes_sub (hR : ∀ w w₁, R' w w₁ → R w w₁) : ∀ {m : Nat} {g : Goroutine} {w : World}, Goes P main R D Stop m g w → Goes P main R' D Stop m g w
  | 0, _, _, h => fun w₁ r => h w₁ (hR _ _ r)
  | n + 1, g, w, h => by
    rcases h with h | ⟨hs, h⟩
    · exact .inl fun w₁ r => h w₁ (hR _ _ r)
    · refine .inr ⟨hs, fun w₁ r => ?_⟩
      have := h w₁ (hR _ _ r)
      revert this
      cases stepG P main g w₁ <;> simp only [GStep.goes, imp_self]
      exact fun ⟨d, x⟩ => ⟨d, goes_sub hR x⟩
theorem goes_keep {F : World → Prop} (hR : ∀ w w₁, F w → R w w₁ → F w₁) (hD : ∀ w w' es, F w → D w w' es → F w') : ∀ {m : Nat} {g : Goroutine} {w : World}, F w → Goes P main R D Stop m g w → Goes P main R D (fun g w => F w ∧ Stop g w) m g w
  | 0, _, _, f, h => fun w₁ r => ⟨hR _ _ f r, h w₁ r⟩
  | n + 1, g, w, f, h => by
    rcases h with h | ⟨hs, h⟩
    · exact .inl fun w₁ r => ⟨hR _ _ f r, h w₁ r⟩
    · refine .inr ⟨hs, fun w₁ r => ?_⟩
      have := h w₁ r
      have f₁ := hR _ _ f r
      revert this
      cases stepG P main g w₁ <;> simp only [GStep.goes, imp_self]
      exact fun ⟨d, x⟩ => ⟨d, goes_keep hR hD (hD _ _ _ f₁ d) x⟩
end
section
variable {C : Cf} {W w w₁ : World}
theorem OutAt.kept {h : Nat → Prop} {i : Nat} {v : Value} (o : OutAt C w i v) (r : RowKept C h w w₁) (hi : h i) : OutAt C w₁ i v := by
  unfold OutAt World.cell? at o ⊢
  cases hx : w.heap[C.tp.Out]? with
  | none => rw [hx] at o; cases o
  | some x =>
    rw [hx] at o
    cases x with
    | cells cs t f =>
      obtain ⟨cs', e', _, k'⟩ := r cs t f hx
      rw [e']
      simp only at o ⊢
      rw [k' i hi]; exact o
    | _ => cases o
/-- Whoever holds a place that is written may go on as one that holds none. -/
theorem held {Stop : Goroutine → World → Prop} {i m : Nat} {v : Value} {g : Goroutine} (o : OutAt C w i v) (x : Goes Try.prog false (RX C Option.none) (DX C Option.none false) Stop m g w) :
    Goes Try.prog false (RX C (some i)) (DX C (some i) false) (fun g w => OutAt C w i v ∧ Stop g w) m g w := by
  have x := goes_sub (R' := RX C (some i)) (fun _ _ r => r.weaken) x
  have x := goes_keep (F := fun w => OutAt C w i v) (fun _ _ o r => OutAt.rx o r) (fun _ _ _ o d => OutAt.kept o d.row (by simp)) o x
  refine goes_mono (fun w w' es d => ?_) (fun _ _ h => h) x
  have hrow : RowKept C (fun k => some i ≠ some k) w w' := fun cs t f e => by
    obtain ⟨cs', e', s', k'⟩ := d.row cs t f e
    exact ⟨cs', e', s', fun k _ => k' k (by simp)⟩
  have hev : ∀ e ∈ es, EvD C (some i) e := fun e he => by
    rcases d.ev e he with h | ⟨k, wr, h, _⟩
    · exact .inl h
    · cases h
  exact ⟨d.tape, d.output, d.size, d.os, d.block, hrow, hev, d.still⟩
/-- A FUNCTION OF A PLACE that writes the place's cell and says whether one may go on. -/
def Does (C : Cf) (W : World) (dv : Value) : Prop := ∀ i, i < C.n → ∀ (b : Frame) (a : Act) (ops : Array Oper) (idx : Nat) (rest : List Nat) (k : List Item) (cs : List Frame) (o : Oper) (x y : Operand) (ats : Array TypeId),
  ops[idx]? = some o → Region.wanted o (yielded ops a.tmps) = true → b.kind ≠ .early → o.op = .call { callee := .value x, args := #[y], argTypes := ats } → a.eval x = dv → a.eval y = .int .i64 (i : Int) →
  ∀ (Stop : Goroutine → World → Prop) (M : Nat), (∀ w, KW C W w → OutAt C w i (C.val i) → Goes Try.prog false (RX C (some i)) (DX C (some i) false) Stop M (G (b.at (a.put o.dst (.bool (C.ok i))) (.inRegion ops rest :: k)) cs) w) →
  ∃ m, ∀ w, KW C W w → Goes Try.prog false (RX C (some i)) (DX C (some i) false) Stop m (G (b.at a (.inRegion ops (idx :: rest) :: k)) cs) w
theorem sel2_0 (Pl St : Nat) (v : Value) (ok : Bool) : commResult #[rcase Pl zI, rcase St zU] .select 0 v ok = .tuple #[.int .i64 0, .bool ok, v, zU] := by
  simp [commResult, rcase, goInt, List.zipIdx]
theorem sel2_1 (Pl St : Nat) (v : Value) (ok : Bool) : commResult #[rcase Pl zI, rcase St zU] .select 1 v ok = .tuple #[.int .i64 1, .bool ok, zI, v] := by
  simp [commResult, rcase, goInt, List.zipIdx]
theorem fin_at (P : Program) {b : Frame} {a : Act} {ops : Array Oper} {i : Nat} {rest : List Nat} {k : List Item} {cs : List Frame} (cases : Array CommCase) (sh : CommShape) (kk : Int) (v : Value) (ok : Bool) :
    (G (b.at a (.inRegion ops (i :: rest) :: k)) cs).finishComm P cases sh kk v ok = G (b.at (a.put ((ops[i]?).bind (·.dst)) (commResult cases sh kk v ok)) (.inRegion ops rest :: k)) cs := by
  simp only [Goroutine.finishComm, G]
  rw [Frame.finish_at]
/-- The literal's own way out, once Done has left: it only leaves. -/
theorem quitsTail (T : Array Value) (todo : List Item) : QuitsD Try.prog 2 0 (G { (baseD 39).at ⟨T, []⟩ todo with mode := .returning } [bot]) := by
  refine QuitsD.ctl (g' := G bot []) rfl (fun w => ?_) ?_
  · simp [G, stepG, unwind, doReturn, results, Frame.at, baseD, bot, Try.func39, Try.f39, seen, GStep.after, goexitEntry]
  refine QuitsD.ctl (g' := { G bot [] with status := .finished }) rfl (fun w => ?_) ⟨rfl, rfl⟩
  simp [G, stepG, unwind, bot, goexitEntry, Frame.catches]
  rfl
end
section
variable {P : Program} {main : Bool} {R : World → World → Prop} {D D' : World → World → Array Event → Prop} {Stop : Goroutine → World → Prop} {g₀ : Goroutine} {F : World → Prop}
/-- A stretch to a known place, and on from there. -/
theorem goes_join (hR : ∀ w, R w w) (hD : ∀ w w' es, D' w w' es → D w w' es) {M : Nat} (hF : ∀ w, F w → Goes P main R D Stop M g₀ w) : ∀ {m : Nat} {g : Goroutine} {w : World}, Goes P main R D' (fun g w => g = g₀ ∧ F w) m g w → Goes P main R D Stop (m + M) g w
  | 0, g, w, h => by
    have h : ∀ w₁, R w w₁ → g = g₀ ∧ F w₁ := h
    obtain ⟨e, f⟩ := h w (hR w)
    rw [e, Nat.zero_add]
    exact hF w f
  | n + 1, g, w, h => by
    rcases h with h | ⟨hs, h⟩
    · obtain ⟨e, f⟩ := h w (hR w)
      rw [e]
      exact goes_le (by omega) (hF w f)
    · rw [show n + 1 + M = (n + M) + 1 by omega]
      refine .inr ⟨hs, fun w₁ r => ?_⟩
      have := h w₁ r
      revert this
      cases stepG P main g w₁ <;> simp only [GStep.goes, imp_self]
      exact fun ⟨d, x⟩ => ⟨hD _ _ _ d, goes_join hR hD hF x⟩
end
noncomputable def R6N39 : Code := (s1' (s1' (s0' (s0' (s1' (s1' (s0' (s0' (s0' (s1' body39))))))))))
noncomputable def ops6 : Array Oper := match s0' R6N39 with | .region _ o _ => o | _ => #[]
noncomputable def ITS39 : List Item := [.inBlock 2, .inBlock 1, .inLoop LL39, .inBlock 0]
section
variable {C : Cf} {W : World} {Pv Dv Sv : Nat} {fd : FuncId} {cap : Array Value}
/-- THE WORKER's HEAD at depth k. -/
def WHead (C : Cf) (W : World) (Pv Dv Sv : Nat) (k : Nat) : Prop := ∃ m M, ∀ (j5 j6 j7 j8 j9 j10 j11 j12 j13 j14 j15 j16 j17 j18 j19 j20 j21 j22 : Value) (w : World), KW C W w → Goes Try.prog false (RX C Option.none) DC0 (OddAt Try.prog false (RX C Option.none) (DX C Option.none false) (Wk C k (at_ .sel)) M) m (G ((baseD 39).at ⟨#[.pointer (some ⟨C.tp.Wg, 0, Option.none⟩), .pointer (some ⟨Pv, 0, Option.none⟩), .pointer (some ⟨Dv, 0, Option.none⟩), .pointer (some ⟨C.tp.On, 0, Option.none⟩), .pointer (some ⟨Sv, 0, Option.none⟩), j5, j6, j7, j8, j9, j10, j11, j12, j13, j14, j15, j16, j17, j18, j19, j20, j21, j22], [dcall 40 #[.pointer (some ⟨C.tp.Wg, 0, Option.none⟩)]]⟩ [.code LL39, .inLoop LL39, .inBlock 0]) [bot]) w
set_option maxRecDepth 100000 in
set_option maxHeartbeats 16000000 in
/-- A place is taken: what is to be done with it is done; on, or stop. -/
theorem placeGo (hP : C.P = Try.prog) (Ge : Geo C) (hSv : Var C W Sv (.chan (some C.tp.St))) (hDv : Var C W Dv (.func (.func fd) #[] cap)) (hDo : Does C W (.func (.func fd) #[] cap)) {i k : Nat} (hi : i < C.n)
    (hS : ∀ k', k' ≤ k → WHead C W Pv Dv Sv k') (j6 j7 j8 j9 j10 j11 j12 j13 j14 j15 j16 j17 j18 j19 j20 j21 j22 : Value) : ∃ m M, ∀ w, KW C W w →
    Goes Try.prog false (RX C (some i)) DC0 (OddAt Try.prog false (RX C (some i)) (DX C (some i) false) (fun g w => OutAt C w i (C.val i) ∧ Wk C k (at_ (if C.ok i then .sel else .o1)) g w) M) m (G ((baseD 39).at ⟨#[.pointer (some ⟨C.tp.Wg, 0, Option.none⟩), .pointer (some ⟨Pv, 0, Option.none⟩), .pointer (some ⟨Dv, 0, Option.none⟩), .pointer (some ⟨C.tp.On, 0, Option.none⟩), .pointer (some ⟨Sv, 0, Option.none⟩), .int .i64 (i : Int), j6, j7, j8, j9, j10, j11, j12, j13, j14, j15, j16, j17, j18, j19, j20, j21, j22], [dcall 40 #[.pointer (some ⟨C.tp.Wg, 0, Option.none⟩)]]⟩ (.code R6N39 :: ITS39)) [bot]) w := by
  have hcont : ∃ MC, ∀ w, KW C W w → OutAt C w i (C.val i) → Goes Try.prog false (RX C (some i)) (DX C (some i) false) (fun g w => OutAt C w i (C.val i) ∧ Wk C k (at_ (if C.ok i then .sel else .o1)) g w) MC (G ((baseD 39).at (Act.put ⟨#[.pointer (some ⟨C.tp.Wg, 0, Option.none⟩), .pointer (some ⟨Pv, 0, Option.none⟩), .pointer (some ⟨Dv, 0, Option.none⟩), .pointer (some ⟨C.tp.On, 0, Option.none⟩), .pointer (some ⟨Sv, 0, Option.none⟩), .int .i64 (i : Int), j6, j7, j8, j9, j10, j11, j12, j13, j14, j15, j16, .func (.func fd) #[] cap, .int .i64 (i : Int), j19, j20, j21, j22], [dcall 40 #[.pointer (some ⟨C.tp.Wg, 0, Option.none⟩)]]⟩ (some 19) (.bool (C.ok i))) (.inRegion ops6 [3] :: .code (s1' R6N39) :: ITS39)) [bot]) w := by
    cases hok : C.ok i with
    | true =>
      obtain ⟨mI, MI, hI⟩ := hS k (Nat.le_refl _)
      refine ⟨(mI + 30) + MI + 1, fun w hF o => ?_⟩
      refine held (Stop := Wk C k (at_ .sel)) o ?_
      refine goes_odd (D' := DC0) (fun w => RX.refl _ w) (fun _ _ _ x => dx_of_dc0 x) ?_
      clear hS o
      simp only [ITS39, ops6, R6N39, LL39, body39, findLoop39, s0', s1', Try.f39, Option.getD_some]
      walk_nrm
      repeat w_nl KW.rely
      u_c stepG_inLoop KW.rely hF
      exact goes_pad (hI _ _ _ _ _ _ _ _ _ _ _ _ _ _ _ _ _ _ _ hF) _
    | false =>
      have hO : ∀ (w : World), KW C W w → ∀ (b₀ : Frame) (a₀ : Act) (ops₀ : Array Oper) (i₀ : Nat) (rest₀ : List Nat) (k₀ : List Item) (cs : List Frame),
          (∀ k', k' ≤ k → ∃ m M, ∀ w, KW C W w → Goes Try.prog false (RX C Option.none) DC0 (OddAt Try.prog false (RX C Option.none) (DX C Option.none false) (Wk C k' (at_ .sel)) M) m (G (b₀.at (a₀.put ((ops₀[i₀]?).bind (·.dst)) (.tuple #[])) (.inRegion ops₀ rest₀ :: k₀)) cs) w) →
          Goes Try.prog false (RX C Option.none) DC0 (Wk C k (at_ .o1)) 60 (G ((base 41).at ⟨#[.pointer (some ⟨C.tp.On, 0, Option.none⟩), .func (.func 42) #[] #[.pointer (some ⟨Sv, 0, Option.none⟩)], undef, undef, undef, undef, undef, undef, undef, undef, undef, undef], []⟩ [.code body41]) (b₀.at a₀ (.inRegion ops₀ (i₀ :: rest₀) :: k₀) :: cs)) w := by
        intro w hF b₀ a₀ ops₀ i₀ rest₀ k₀ cs hT
        have := @onceGo ⟨k⟩ C W Sv b₀ a₀ ops₀ i₀ rest₀ k₀ cs hP Ge hSv (fun k' => hT (min k' k) (Nat.min_le_right _ _)) k w hF
        unfold GD WK at this
        rw [show min k (@Cap.K ⟨k⟩) = k from Nat.min_self k] at this
        exact this
      refine ⟨30 + 60, fun w hF o => ?_⟩
      refine held (Stop := Wk C k (at_ .o1)) o ?_
      refine goes_mono (D := DC0) (fun _ _ _ x => dx_of_dc0 x) (fun _ _ x => x) ?_
      clear o
      simp only [ITS39, ops6, R6N39, LL39, body39, findLoop39, s0', s1', Try.f39, Option.getD_some]
      walk_nrm
      repeat w_go KW.rely
      u_call Try.func41 nm41 Try.f41 KW.rely hF
      refine goes_le (by omega) (hO _ hF _ _ _ _ _ _ _ ?_)
      clear hF hO
      intro k' hk'
      obtain ⟨mI, MI, hI⟩ := hS k' hk'
      refine ⟨mI + 30, MI, fun w hF => ?_⟩
      clear hS
      walk_nrm
      repeat w_nl KW.rely
      u_c stepG_inLoop KW.rely hF
      exact goes_pad (hI _ _ _ _ _ _ _ _ _ _ _ _ _ _ _ _ _ _ _ hF) _
  obtain ⟨MC, hC⟩ := hcont
  obtain ⟨MD, hD⟩ := hDo i hi (baseD 39) ⟨#[.pointer (some ⟨C.tp.Wg, 0, Option.none⟩), .pointer (some ⟨Pv, 0, Option.none⟩), .pointer (some ⟨Dv, 0, Option.none⟩), .pointer (some ⟨C.tp.On, 0, Option.none⟩), .pointer (some ⟨Sv, 0, Option.none⟩), .int .i64 (i : Int), j6, j7, j8, j9, j10, j11, j12, j13, j14, j15, j16, .func (.func fd) #[] cap, .int .i64 (i : Int), j19, j20, j21, j22], [dcall 40 #[.pointer (some ⟨C.tp.Wg, 0, Option.none⟩)]]⟩ ops6 2 [3] (.code (s1' R6N39) :: ITS39) [bot] { dst := some 19, op := .call { callee := .value (.tmp 17), args := #[.tmp 18], argTypes := #[3] }, type := 4, pos := "crew.go:24", after := #[{ on := 0, ground := Ground.data }, { on := 1, ground := Ground.data }], guard := Option.none } (.tmp 17) (.tmp 18) #[3] (by kernel_rfl) rfl (by k_ne) rfl rfl rfl _ MC hC
  clear hC hS
  refine ⟨10, 6 + MD, fun w hF => ?_⟩
  simp only [ITS39, ops6, R6N39, LL39, body39, findLoop39, s0', s1', Try.f39, Option.getD_some] at hD ⊢
  repeat w_go KW.rely
  refine Goes.stop (fun w₁ r₁ => ?_)
  have hF := hF.rely r₁
  clear r₁
  refine ⟨rfl, _, _, _, stepG_loadFn rfl rfl (by k_ne) rfl rfl (hDv.cell hF) loud39, hDv.dx, ?_⟩
  refine goes_join (D' := DC0) (fun w => RX.refl _ w) (fun _ _ _ x => dx_of_dc0 x) hD ?_
  clear hD
  walk_nrm
  repeat w_go KW.rely
  exact Goes.stop (fun w₁ r₁ => ⟨rfl, hF.rely r₁⟩)
end
end Go.Proofs.Ytpkiojchlficcaa.Crew
