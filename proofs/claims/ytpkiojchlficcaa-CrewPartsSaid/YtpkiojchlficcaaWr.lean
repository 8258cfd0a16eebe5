/- The walks: what a worker does with a place: its region's order is drawn; the row's cell is written. -/
import Derived.Test.YtpkiojchlficcaaWq
set_option linter.unusedSimpArgs false
namespace Go.Proofs.Ytpkiojchlficcaa.Crew
open Go Go.Conc Go.ConcN Go.RowKit Go.Conc.Lib Go.ConcR.Gen
open Go.ConcM (OsLater goes_pad goes_le)
open Go.ConcR (KK wgBlock WgAt stA smA rd wr mk DC0)
section
variable {main : Bool} {b : Frame} {a : Act} {kk : List Item} {cs : List Frame} {w : World} {ops : Array Oper} {i : Nat} {rest : List Nat} {o : Oper}
/-- A plain store. -/
theorem stepG_storeV (ho : ops[i]? = some o) (hw : Region.wanted o (yielded ops a.tmps) = true) (hk : b.kind ≠ .early) {ad : Addr} {v : Value}
    (hr : (execOp a.eval o).run Try.prog w = .ok .skip (w.setCell ad v)) (he : (execOp a.eval o).events Try.prog w #[] = #[⟨.cell ad, true, false⟩]) (hq : (Try.prog.funcs[b.fn]?).any (·.norace) = false) :
    stepG Try.prog main (G (b.at a (.inRegion ops (i :: rest) :: kk)) cs) w = .go (G (b.at (a.put o.dst undef) (.inRegion ops rest :: kk)) cs) (w.setCell ad v) #[⟨.cell ad, true, false⟩] := by
  rw [stepG_none ho hw hk hr]
  unfold listed
  rw [he, seen_eq hq (by simp)]
end
section
variable {P : Program} {main : Bool} {R : World → World → Prop} {D : World → World → Array Event → Prop} {Stop : Goroutine → World → Prop}
theorem goes_one {n : Nat} {g : Goroutine} {w : World} (hr : g.status = .running) (h : ∀ w₁, R w w₁ → ∃ g' w' es, stepG P main g w₁ = .go g' w' es ∧ D w₁ w' es ∧ Goes P main R D Stop n g' w') : Goes P main R D Stop (n + 1) g w :=
  Goes.step hr fun w₁ r => by
    obtain ⟨g', w', es, h1, h2, h3⟩ := h w₁ r
    rw [h1]
    exact ⟨h2, h3⟩
end
theorem ev_store_bool (P : Program) (w : World) (es : Array Event) (a : Addr) (m : Mode) (b : Bool) : (store a (.bool b) m).events P w es = storedEv P w es a (.bool b) m := events_store P w es a _ m rfl
theorem ev_store_slice (P : Program) (w : World) (es : Array Event) (a : Addr) (m : Mode) (b : Option Addr) (l c : Nat) : (store a (.slice b l c) m).events P w es = storedEv P w es a (.slice b l c) m := events_store P w es a _ m rfl
theorem dx_ownR {C : Cf} {w : World} {i : Nat} : DX C (some i) false w w #[⟨.cell ⟨C.tp.Out, i, Option.none⟩, false, false⟩] :=
  ⟨rfl, rfl, rfl, rfl, fun _ _ => rfl, RowKept.refl _ _, (fun e he => by simp at he; subst he; exact .inr ⟨i, false, rfl, rfl⟩), fun h => by cases h⟩
noncomputable def REST29 : Code := s1' (s1' body29)
set_option maxRecDepth 100000 in
set_option maxHeartbeats 16000000 in
/-- ████ THE DRAWN REGION, in whatever order. ████ -/
theorem region29 {C : Cf} {W : World} {b3 b5 b7 i : Nat} {v : Nat → Value} {cs : List Frame} {Stop : Goroutine → World → Prop} {M c : Nat} {ad : Addr} {x : Int} {no ni ci : Nat} {ao : Option Addr} {fd : FuncId} {cap : Array Value}
    (h7 : VarA C W ⟨b7, 0, Option.none⟩ (v 0)) (h5 : VarA C W ⟨b5, 0, Option.none⟩ (v 2)) (h3 : VarA C W ⟨b3, 0, Option.none⟩ (v 3)) (hit : VarA C W (ad.add i) (v 6))
    (e0 : v 0 = .slice ao no no) (e1 : v 1 = .int .i64 (i : Int)) (e2 : v 2 = .func (.func fd) #[] cap) (e3 : v 3 = .slice (some ad) ni ci) (e4 : v 4 = .int .i64 (i : Int)) (e5 : v 5 = .pointer (some (ad.add i))) (e6 : v 6 = .int .i64 x) (hi : i < ni)
    (h13 : ∀ (a : Act) (rest : List Nat), a.eval (.tmp 8) = v 2 → a.eval (.tmp 12) = v 6 → ∀ M, (∀ w, KW C W w → Goes Try.prog false (RX C (some i)) (DX C (some i) false) Stop M (G ((base 29).at (a.put (some 13) (v 7)) (.inRegion ops29 rest :: [.code REST29])) cs) w) → ∀ w, KW C W w → Goes Try.prog false (RX C (some i)) (DX C (some i) false) Stop (M + c) (G ((base 29).at a (.inRegion ops29 (7 :: rest) :: [.code REST29])) cs) w)
    (hfin : ∀ w, KW C W w → Goes Try.prog false (RX C (some i)) (DX C (some i) false) Stop M (G ((base 29).at ⟨#[.int .i64 (i : Int), .pointer (some ⟨b5, 0, Option.none⟩), .pointer (some ⟨b3, 0, Option.none⟩), .pointer (some ⟨b7, 0, Option.none⟩), undef, .bool false, (v 0), (v 1), (v 2), (v 3), (v 4), (v 5), (v 6), (v 7), undef], []⟩ (.inRegion ops29 [8, 9] :: [.code REST29])) cs) w) :
    ∀ (L : List Nat) (d : Nat → Bool) (e : Nat → Value), goodL L d = true → (∀ j, j < 8 → d j = true → e j = v j) → ∀ w, KW C W w →
      Goes Try.prog false (RX C (some i)) (DX C (some i) false) Stop (M + (c + 1) * L.length) (G ((base 29).at ⟨#[.int .i64 (i : Int), .pointer (some ⟨b5, 0, Option.none⟩), .pointer (some ⟨b3, 0, Option.none⟩), .pointer (some ⟨b7, 0, Option.none⟩), undef, .bool false, (e 0), (e 1), (e 2), (e 3), (e 4), (e 5), (e 6), (e 7), undef], []⟩ (.inRegion ops29 (L ++ [8, 9]) :: [.code REST29])) cs) w := by
  intro L
  induction L with
  | nil =>
    intro d e hg he w hF
    simp only [goodL, Bool.and_eq_true] at hg
    obtain ⟨⟨⟨⟨⟨⟨⟨g0, g1⟩, g2⟩, g3⟩, g4⟩, g5⟩, g6⟩, g7⟩ := hg
    rw [he 0 (by omega) g0, he 1 (by omega) g1, he 2 (by omega) g2, he 3 (by omega) g3, he 4 (by omega) g4, he 5 (by omega) g5, he 6 (by omega) g6, he 7 (by omega) g7]
    exact hfin w hF
  | cons j L ih =>
    intro d e hg he w hF
    simp only [goodL, Bool.and_eq_true, decide_eq_true_eq] at hg
    obtain ⟨⟨hj, hd⟩, hg⟩ := hg
    have he' : ∀ k, k < 8 → (k == j || d k) = true → upd e j (v j) k = v k := by
      intro k hk hkd
      by_cases hkj : k = j
      · subst hkj; exact upd_same _ _ _
      · rw [upd_ne _ _ hkj]; exact he k hk (by simpa [hkj] using hkd)
    have hI := ih _ _ hg he'
    rw [show M + (c + 1) * (j :: L).length = (M + (c + 1) * L.length + c) + 1 by simp only [List.length_cons]; rw [Nat.mul_add]; omega]
    obtain rfl | rfl | rfl | rfl | rfl | rfl | rfl | rfl : j = 0 ∨ j = 1 ∨ j = 2 ∨ j = 3 ∨ j = 4 ∨ j = 5 ∨ j = 6 ∨ j = 7 := by omega
    · simp only [upd, Nat.reduceEqDiff, if_true, if_false, ↓reduceIte, reduceCtorEq] at hI
      simp only [List.cons_append]
      simp only [ops29, body29, s0', s1', Try.f29, Option.getD_some] at hI ⊢
      refine goes_one rfl fun w₁ r => ?_
      replace hF := hF.rely r
      have hc := h7.cell hF
      rw [e0] at hc
      refine ⟨_, _, _, stepG_loadV (ad := ⟨b7, 0, Option.none⟩) (v := v 0) rfl rfl (by k_ne) (by simp [go_sem, execOp, hc, e0]) (by simp [go_sem, execOp, hc]) loud29, h7.dx, ?_⟩
      walk_nrm
      exact goes_le (by omega) (hI _ hF)
    · simp only [upd, Nat.reduceEqDiff, if_true, if_false, ↓reduceIte, reduceCtorEq] at hI
      simp only [List.cons_append]
      simp only [ops29, body29, s0', s1', Try.f29, Option.getD_some] at hI ⊢
      refine goes_one rfl fun w₁ r => ⟨_, _, _, stepG_value (v := v 1) (w' := w₁) rfl rfl (by k_ne) (by simp [go_sem, execOp, e1]), dx_of_dc0 ⟨rfl, listed_none (by simp [go_sem, execOp, e1])⟩, ?_⟩
      replace hF := hF.rely r
      walk_nrm
      exact goes_le (by omega) (hI _ hF)
    · simp only [upd, Nat.reduceEqDiff, if_true, if_false, ↓reduceIte, reduceCtorEq] at hI
      simp only [List.cons_append]
      simp only [ops29, body29, s0', s1', Try.f29, Option.getD_some] at hI ⊢
      refine goes_one rfl fun w₁ r => ?_
      replace hF := hF.rely r
      have hc := h5.cell hF
      rw [e2] at hc
      refine ⟨_, _, _, stepG_loadV (ad := ⟨b5, 0, Option.none⟩) (v := v 2) rfl rfl (by k_ne) (by simp [go_sem, execOp, hc, e2]) (by simp [go_sem, execOp, hc]) loud29, h5.dx, ?_⟩
      walk_nrm
      exact goes_le (by omega) (hI _ hF)
    · simp only [upd, Nat.reduceEqDiff, if_true, if_false, ↓reduceIte, reduceCtorEq] at hI
      simp only [List.cons_append]
      simp only [ops29, body29, s0', s1', Try.f29, Option.getD_some] at hI ⊢
      refine goes_one rfl fun w₁ r => ?_
      replace hF := hF.rely r
      have hc := h3.cell hF
      rw [e3] at hc
      refine ⟨_, _, _, stepG_loadV (ad := ⟨b3, 0, Option.none⟩) (v := v 3) rfl rfl (by k_ne) (by simp [go_sem, execOp, hc, e3]) (by simp [go_sem, execOp, hc]) loud29, h3.dx, ?_⟩
      walk_nrm
      exact goes_le (by omega) (hI _ hF)
    · simp only [upd, Nat.reduceEqDiff, if_true, if_false, ↓reduceIte, reduceCtorEq] at hI
      simp only [List.cons_append]
      simp only [ops29, body29, s0', s1', Try.f29, Option.getD_some] at hI ⊢
      refine goes_one rfl fun w₁ r => ⟨_, _, _, stepG_value (v := v 4) (w' := w₁) rfl rfl (by k_ne) (by simp [go_sem, execOp, e4]), dx_of_dc0 ⟨rfl, listed_none (by simp [go_sem, execOp, e4])⟩, ?_⟩
      replace hF := hF.rely r
      walk_nrm
      exact goes_le (by omega) (hI _ hF)
    · simp only [upd, Nat.reduceEqDiff, if_true, if_false, ↓reduceIte, reduceCtorEq] at hI
      simp only [List.cons_append]
      simp only [ops29, body29, s0', s1', Try.f29, Option.getD_some] at hI ⊢
      simp only [depR, List.all_cons, List.all_nil, Bool.and_true, Bool.and_eq_true] at hd
      have d3 := (he 3 (by omega) hd.1).trans e3
      have d4 := (he 4 (by omega) hd.2).trans e4
      rw [d3, d4] at hI ⊢
      refine goes_one rfl fun w₁ r => ⟨_, _, _, stepG_value (v := v 5) (w' := w₁) rfl rfl (by k_ne) (by simp [go_sem, execOp, e5, hi]), dx_of_dc0 ⟨rfl, listed_none (by simp [go_sem, execOp, e5, hi])⟩, ?_⟩
      replace hF := hF.rely r
      walk_nrm
      exact goes_le (by omega) (hI _ hF)
    · simp only [upd, Nat.reduceEqDiff, if_true, if_false, ↓reduceIte, reduceCtorEq] at hI
      simp only [List.cons_append]
      simp only [ops29, body29, s0', s1', Try.f29, Option.getD_some] at hI ⊢
      simp only [depR, List.all_cons, List.all_nil, Bool.and_true] at hd
      have d5 := (he 5 (by omega) hd).trans e5
      rw [d5] at hI ⊢
      refine goes_one rfl fun w₁ r => ?_
      replace hF := hF.rely r
      have hc := hit.cell hF
      rw [e6] at hc
      refine ⟨_, _, _, stepG_loadV (ad := (ad.add i)) (v := v 6) rfl rfl (by k_ne) (by simp [go_sem, execOp, hc, e6]) (by simp [go_sem, execOp, hc]) loud29, hit.dx, ?_⟩
      walk_nrm
      exact goes_le (by omega) (hI _ hF)
    · simp only [upd, Nat.reduceEqDiff, if_true, if_false, ↓reduceIte, reduceCtorEq] at hI
      simp only [depR, List.all_cons, List.all_nil, Bool.and_true, Bool.and_eq_true] at hd
      have d2 := he 2 (by omega) hd.1
      have d6 := he 6 (by omega) hd.2
      rw [d2, d6] at hI ⊢
      refine goes_le (show (M + (c + 1) * L.length) + c ≤ _ by omega) (h13 _ _ rfl rfl _ (fun w hF => ?_) w hF)
      walk_nrm
      exact hI w hF
theorem op7_29 : ops29[7]? = some { dst := some 13, op := .call { callee := .value (.tmp 8), args := #[.tmp 12], argTypes := #[2] }, type := 2, pos := "crew.go:53", after := #[{ on := 2, ground := Ground.data }, { on := 6, ground := Ground.data }], guard := Option.none } := by kernel_rfl
set_option maxRecDepth 100000 in
set_option maxHeartbeats 16000000 in
/-- ████ What a worker does with a place. ████ -/
theorem does29 {C : Cf} {W : World} {b3 b5 b7 : Nat} {a0 : Option Addr} {ci : Nat} {fd : FuncId} {cap : Array Value} {φ : Int → Int} {l : Nat → Int} (Ge : Geo C)
    (h7 : VarA C W ⟨b7, 0, Option.none⟩ (.slice (some ⟨C.tp.Out, 0, Option.none⟩) C.n C.n)) (h5 : VarA C W ⟨b5, 0, Option.none⟩ (.func (.func fd) #[] cap)) (h3 : VarA C W ⟨b3, 0, Option.none⟩ (.slice a0 C.n ci))
    (hit : ∀ i, i < C.n → ∃ ad, a0 = some ad ∧ VarA C W (ad.add i) (.int .i64 (l i))) (hM : ∀ i, Maps C W (some i) (.func (.func fd) #[] cap) (fun z => .int .i64 (φ z)))
    (hval : ∀ i, i < C.n → C.val i = .int .i64 (φ (l i))) (hok : ∀ i, i < C.n → C.ok i = true) (hrow : RowOf C W) :
    Does C W (.func (.func 29) #[] #[.pointer (some ⟨b5, 0, Option.none⟩), .pointer (some ⟨b3, 0, Option.none⟩), .pointer (some ⟨b7, 0, Option.none⟩)]) := by
  intro i hi b a ops idx rest k cs o x y ats ho hw hk hop hx hy Stop M hT
  rw [hval i hi, hok i hi] at hT
  obtain ⟨ad, rfl, hcell⟩ := hit i hi
  obtain ⟨c, hM⟩ := hM i
  obtain ⟨h, hh⟩ : ∃ h, h = some i := ⟨_, rfl⟩
  have hfin : ∀ w, KW C W w → Goes Try.prog false (RX C (some i)) (DX C (some i) false) Stop (M + 120) (G ((base 29).at ⟨#[.int .i64 (i : Int), .pointer (some ⟨b5, 0, Option.none⟩), .pointer (some ⟨b3, 0, Option.none⟩), .pointer (some ⟨b7, 0, Option.none⟩), undef, .bool false, (((fun | 0 => .slice (some ⟨C.tp.Out, 0, Option.none⟩) C.n C.n | 1 => .int .i64 (i : Int) | 2 => .func (.func fd) #[] cap | 3 => .slice (some ad) C.n ci | 4 => .int .i64 (i : Int) | 5 => .pointer (some (ad.add i)) | 6 => .int .i64 (l i) | _ => .int .i64 (φ (l i))) : Nat → Value) 0), (((fun | 0 => .slice (some ⟨C.tp.Out, 0, Option.none⟩) C.n C.n | 1 => .int .i64 (i : Int) | 2 => .func (.func fd) #[] cap | 3 => .slice (some ad) C.n ci | 4 => .int .i64 (i : Int) | 5 => .pointer (some (ad.add i)) | 6 => .int .i64 (l i) | _ => .int .i64 (φ (l i))) : Nat → Value) 1), (((fun | 0 => .slice (some ⟨C.tp.Out, 0, Option.none⟩) C.n C.n | 1 => .int .i64 (i : Int) | 2 => .func (.func fd) #[] cap | 3 => .slice (some ad) C.n ci | 4 => .int .i64 (i : Int) | 5 => .pointer (some (ad.add i)) | 6 => .int .i64 (l i) | _ => .int .i64 (φ (l i))) : Nat → Value) 2), (((fun | 0 => .slice (some ⟨C.tp.Out, 0, Option.none⟩) C.n C.n | 1 => .int .i64 (i : Int) | 2 => .func (.func fd) #[] cap | 3 => .slice (some ad) C.n ci | 4 => .int .i64 (i : Int) | 5 => .pointer (some (ad.add i)) | 6 => .int .i64 (l i) | _ => .int .i64 (φ (l i))) : Nat → Value) 3), (((fun | 0 => .slice (some ⟨C.tp.Out, 0, Option.none⟩) C.n C.n | 1 => .int .i64 (i : Int) | 2 => .func (.func fd) #[] cap | 3 => .slice (some ad) C.n ci | 4 => .int .i64 (i : Int) | 5 => .pointer (some (ad.add i)) | 6 => .int .i64 (l i) | _ => .int .i64 (φ (l i))) : Nat → Value) 4), (((fun | 0 => .slice (some ⟨C.tp.Out, 0, Option.none⟩) C.n C.n | 1 => .int .i64 (i : Int) | 2 => .func (.func fd) #[] cap | 3 => .slice (some ad) C.n ci | 4 => .int .i64 (i : Int) | 5 => .pointer (some (ad.add i)) | 6 => .int .i64 (l i) | _ => .int .i64 (φ (l i))) : Nat → Value) 5), (((fun | 0 => .slice (some ⟨C.tp.Out, 0, Option.none⟩) C.n C.n | 1 => .int .i64 (i : Int) | 2 => .func (.func fd) #[] cap | 3 => .slice (some ad) C.n ci | 4 => .int .i64 (i : Int) | 5 => .pointer (some (ad.add i)) | 6 => .int .i64 (l i) | _ => .int .i64 (φ (l i))) : Nat → Value) 6), (((fun | 0 => .slice (some ⟨C.tp.Out, 0, Option.none⟩) C.n C.n | 1 => .int .i64 (i : Int) | 2 => .func (.func fd) #[] cap | 3 => .slice (some ad) C.n ci | 4 => .int .i64 (i : Int) | 5 => .pointer (some (ad.add i)) | 6 => .int .i64 (l i) | _ => .int .i64 (φ (l i))) : Nat → Value) 7), undef], []⟩ (.inRegion ops29 [8, 9] :: [.code REST29])) (b.at a (.inRegion ops (idx :: rest) :: k) :: cs)) w := by
    intro w hF
    clear hM
    rw [← hh]
    simp only [ops29, REST29, body29, s0', s1', Try.f29, Option.getD_some]
    refine goes_le (show 10 + (M + 100) ≤ _ by omega) (goes_then (M := (M + 100)) (T := Goes Try.prog false (RX C h) (DX C h false) Stop (M + 100)) (D' := DC0) (RX.rf h) (dc0_dx h) (fun _ _ x => x) ?_)
    repeat w_go KW.rely
    refine Goes.stop (fun w₁ r₁ => ?_)
    replace hF := hF.rely r₁
    clear r₁
    subst hh
    refine goes_le (show M + 90 + 1 ≤ _ by omega) (goes_one rfl fun w₁ r => ?_)
    replace hF := hF.rely r
    obtain ⟨⟨vo, hc⟩, hz⟩ := hrow.cell hF hi
    refine ⟨_, _, _, stepG_storeV (ad := ⟨C.tp.Out, i, Option.none⟩) (v := .int .i64 (φ (l i))) rfl rfl (by k_ne) (by simp [go_sem, execOp, hc, hz]) (by simp [go_sem, execOp, storedEv, hc, hz]) loud29, dx_own _, ?_⟩
    have hO := outAt_own (C := C) (.int .i64 (φ (l i))) ⟨vo, hc⟩
    replace hF : KW C W (w₁.setCell ⟨C.tp.Out, i, Option.none⟩ (.int .i64 (φ (l i)))) ∧ OutAt C (w₁.setCell ⟨C.tp.Out, i, Option.none⟩ (.int .i64 (φ (l i)))) i (.int .i64 (φ (l i))) := ⟨hF.rely ((dx_own (C := C) (i := i) (w := w₁) (.int .i64 (φ (l i)))).rx Ge (h' := Option.none) (by simp)), hO⟩
    have rl : ∀ {w w₁ : World}, (KW C W w ∧ OutAt C w i (.int .i64 (φ (l i)))) → RX C (some i) w w₁ → (KW C W w₁ ∧ OutAt C w₁ i (.int .i64 (φ (l i)))) := fun h r => ⟨h.1.rely r, OutAt.rx h.2 r⟩
    generalize w₁.setCell ⟨C.tp.Out, i, Option.none⟩ (.int .i64 (φ (l i))) = w₂ at hF ⊢
    clear hc hz hO
    refine goes_le (show 60 + M ≤ _ by omega) (goes_then (M := M) (T := fun g w => g = (G (b.at (a.put ((ops[idx]?).bind (·.dst)) (.bool true)) (.inRegion ops rest :: k)) cs) ∧ (KW C W w ∧ OutAt C w i (.int .i64 (φ (l i))))) (D' := DC0) (RX.rf _) (dc0_dx _) ?_ ?_)
    · rintro g w ⟨rfl, hF⟩; rw [ho]; exact hT w hF.1 hF.2
    walk_nrm
    repeat w_go rl
    u_leave1 Try.func29 rl hF
    exact Goes.stop (fun w₁ r₁ => ⟨rfl, rl hF r₁⟩)
  have eb : Try.f29.body = some (.seq (s0' body29) (.seq (.region 1 ops29 true) REST29)) := by kernel_rfl
  have hreg := region29 (C := C) (W := W) (b3 := b3) (b5 := b5) (b7 := b7) (i := i) (v := (fun | 0 => .slice (some ⟨C.tp.Out, 0, Option.none⟩) C.n C.n | 1 => .int .i64 (i : Int) | 2 => .func (.func fd) #[] cap | 3 => .slice (some ad) C.n ci | 4 => .int .i64 (i : Int) | 5 => .pointer (some (ad.add i)) | 6 => .int .i64 (l i) | _ => .int .i64 (φ (l i)))) (c := c) (x := l i) h7 h5 h3 hcell rfl rfl rfl rfl rfl rfl rfl hi
    (fun a' rest' e8 e12 M' hM' w hF => hM (l i) (base 29) a' ops29 7 rest' [.code REST29] _ _ (.tmp 8) (.tmp 12) #[2] op7_29 rfl (by k_ne) rfl e8 e12 Stop M' hM' w hF) hfin
  clear hM hfin
  refine ⟨M + 120 + (c + 1) * 8 + 60, fun w hF => ?_⟩
  refine Goes.step (n := M + 120 + (c + 1) * 8 + 59) rfl fun w₁ h₁ => ?_
  replace hF := hF.rely h₁
  clear h₁
  refine goes_callv ho hw hk hop hx Try.func29 nm29 eb ⟨dx_of_dc0 ⟨rfl, rfl⟩, ?_⟩
  simp only [List.map_toArray, List.map_cons, List.map_nil, hy]
  refine goes_le (show (M + 120 + (c + 1) * 8 + 20) + 30 ≤ _ by omega) ?_
  rw [← hh]
  refine goes_le (show 30 + (M + 120 + (c + 1) * 8 + 20) ≤ M + 120 + (c + 1) * 8 + 20 + 30 by omega) (goes_then (M := (M + 120 + (c + 1) * 8 + 20)) (T := Goes Try.prog false (RX C h) (DX C h false) Stop (M + 120 + (c + 1) * 8 + 20)) (D' := DC0) (RX.rf h) (dc0_dx h) (fun _ _ x => x) ?_)
  clear eb
  simp only [s0', body29, Try.f29, Option.getD_some]
  walk_nrm
  repeat w_go KW.rely
  refine Goes.stop (fun w₁ r₁ => ?_)
  replace hF := hF.rely r₁
  clear r₁
  subst hh
  refine goes_le (show (M + 120 + (c + 1) * 8) + 1 ≤ _ by omega) (goes_one rfl fun w₁ r => ⟨_, _, _, stepG_draw, dx_draw _, ?_⟩)
  replace hF := (hF.rely r).drew (w₁.drawn + 1)
  obtain ⟨L, hL, hlen, hg⟩ := sched29 (w₁.tape w₁.drawn (.order (base 29).fn 1))
  rw [hL]
  have hle := Nat.mul_le_mul_left (c + 1) hlen
  exact goes_le (by omega) (hreg L (fun _ => false) (fun j => if j = 7 then undef else undef) hg (fun j _ h => by cases h) _ hF)
noncomputable def REST45 : Code := s1' (s1' body45)
set_option maxRecDepth 100000 in
set_option maxHeartbeats 16000000 in
/-- ████ THE DRAWN REGION, in whatever order. ████ -/
theorem region45 {C : Cf} {W : World} {b3 b5 b7 i : Nat} {v : Nat → Value} {cs : List Frame} {Stop : Goroutine → World → Prop} {M c : Nat} {ad : Addr} {x : Int} {no ni ci : Nat} {ao : Option Addr} {fd : FuncId} {cap : Array Value}
    (h7 : VarA C W ⟨b7, 0, Option.none⟩ (v 0)) (h5 : VarA C W ⟨b5, 0, Option.none⟩ (v 2)) (h3 : VarA C W ⟨b3, 0, Option.none⟩ (v 3)) (hit : VarA C W (ad.add i) (v 6))
    (e0 : v 0 = .slice ao no no) (e1 : v 1 = .int .i64 (i : Int)) (e2 : v 2 = .func (.func fd) #[] cap) (e3 : v 3 = .slice (some ad) ni ci) (e4 : v 4 = .int .i64 (i : Int)) (e5 : v 5 = .pointer (some (ad.add i))) (e6 : v 6 = .int .i64 x) (hi : i < ni)
    (h13 : ∀ (a : Act) (rest : List Nat), a.eval (.tmp 8) = v 2 → a.eval (.tmp 12) = v 6 → ∀ M, (∀ w, KW C W w → Goes Try.prog false (RX C (some i)) (DX C (some i) false) Stop M (G ((base 45).at (a.put (some 13) (v 7)) (.inRegion ops45 rest :: [.code REST45])) cs) w) → ∀ w, KW C W w → Goes Try.prog false (RX C (some i)) (DX C (some i) false) Stop (M + c) (G ((base 45).at a (.inRegion ops45 (7 :: rest) :: [.code REST45])) cs) w)
    (hfin : ∀ w, KW C W w → Goes Try.prog false (RX C (some i)) (DX C (some i) false) Stop M (G ((base 45).at ⟨#[.int .i64 (i : Int), .pointer (some ⟨b5, 0, Option.none⟩), .pointer (some ⟨b3, 0, Option.none⟩), .pointer (some ⟨b7, 0, Option.none⟩), undef, .bool false, (v 0), (v 1), (v 2), (v 3), (v 4), (v 5), (v 6), (v 7), undef], []⟩ (.inRegion ops45 [8, 9] :: [.code REST45])) cs) w) :
    ∀ (L : List Nat) (d : Nat → Bool) (e : Nat → Value), goodL L d = true → (∀ j, j < 8 → d j = true → e j = v j) → ∀ w, KW C W w →
      Goes Try.prog false (RX C (some i)) (DX C (some i) false) Stop (M + (c + 1) * L.length) (G ((base 45).at ⟨#[.int .i64 (i : Int), .pointer (some ⟨b5, 0, Option.none⟩), .pointer (some ⟨b3, 0, Option.none⟩), .pointer (some ⟨b7, 0, Option.none⟩), undef, .bool false, (e 0), (e 1), (e 2), (e 3), (e 4), (e 5), (e 6), (e 7), undef], []⟩ (.inRegion ops45 (L ++ [8, 9]) :: [.code REST45])) cs) w := by
  intro L
  induction L with
  | nil =>
    intro d e hg he w hF
    simp only [goodL, Bool.and_eq_true] at hg
    obtain ⟨⟨⟨⟨⟨⟨⟨g0, g1⟩, g2⟩, g3⟩, g4⟩, g5⟩, g6⟩, g7⟩ := hg
    rw [he 0 (by omega) g0, he 1 (by omega) g1, he 2 (by omega) g2, he 3 (by omega) g3, he 4 (by omega) g4, he 5 (by omega) g5, he 6 (by omega) g6, he 7 (by omega) g7]
    exact hfin w hF
  | cons j L ih =>
    intro d e hg he w hF
    simp only [goodL, Bool.and_eq_true, decide_eq_true_eq] at hg
    obtain ⟨⟨hj, hd⟩, hg⟩ := hg
    have he' : ∀ k, k < 8 → (k == j || d k) = true → upd e j (v j) k = v k := by
      intro k hk hkd
      by_cases hkj : k = j
      · subst hkj; exact upd_same _ _ _
      · rw [upd_ne _ _ hkj]; exact he k hk (by simpa [hkj] using hkd)
    have hI := ih _ _ hg he'
    rw [show M + (c + 1) * (j :: L).length = (M + (c + 1) * L.length + c) + 1 by simp only [List.length_cons]; rw [Nat.mul_add]; omega]
    obtain rfl | rfl | rfl | rfl | rfl | rfl | rfl | rfl : j = 0 ∨ j = 1 ∨ j = 2 ∨ j = 3 ∨ j = 4 ∨ j = 5 ∨ j = 6 ∨ j = 7 := by omega
    · simp only [upd, Nat.reduceEqDiff, if_true, if_false, ↓reduceIte, reduceCtorEq] at hI
      simp only [List.cons_append]
      simp only [ops45, body45, s0', s1', Try.f45, Option.getD_some] at hI ⊢
      refine goes_one rfl fun w₁ r => ?_
      replace hF := hF.rely r
      have hc := h7.cell hF
      rw [e0] at hc
      refine ⟨_, _, _, stepG_loadV (ad := ⟨b7, 0, Option.none⟩) (v := v 0) rfl rfl (by k_ne) (by simp [go_sem, execOp, hc, e0]) (by simp [go_sem, execOp, hc]) loud45, h7.dx, ?_⟩
      walk_nrm
      exact goes_le (by omega) (hI _ hF)
    · simp only [upd, Nat.reduceEqDiff, if_true, if_false, ↓reduceIte, reduceCtorEq] at hI
      simp only [List.cons_append]
      simp only [ops45, body45, s0', s1', Try.f45, Option.getD_some] at hI ⊢
      refine goes_one rfl fun w₁ r => ⟨_, _, _, stepG_value (v := v 1) (w' := w₁) rfl rfl (by k_ne) (by simp [go_sem, execOp, e1]), dx_of_dc0 ⟨rfl, listed_none (by simp [go_sem, execOp, e1])⟩, ?_⟩
      replace hF := hF.rely r
      walk_nrm
      exact goes_le (by omega) (hI _ hF)
    · simp only [upd, Nat.reduceEqDiff, if_true, if_false, ↓reduceIte, reduceCtorEq] at hI
      simp only [List.cons_append]
      simp only [ops45, body45, s0', s1', Try.f45, Option.getD_some] at hI ⊢
      refine goes_one rfl fun w₁ r => ?_
      replace hF := hF.rely r
      have hc := h5.cell hF
      rw [e2] at hc
      refine ⟨_, _, _, stepG_loadV (ad := ⟨b5, 0, Option.none⟩) (v := v 2) rfl rfl (by k_ne) (by simp [go_sem, execOp, hc, e2]) (by simp [go_sem, execOp, hc]) loud45, h5.dx, ?_⟩
      walk_nrm
      exact goes_le (by omega) (hI _ hF)
    · simp only [upd, Nat.reduceEqDiff, if_true, if_false, ↓reduceIte, reduceCtorEq] at hI
      simp only [List.cons_append]
      simp only [ops45, body45, s0', s1', Try.f45, Option.getD_some] at hI ⊢
      refine goes_one rfl fun w₁ r => ?_
      replace hF := hF.rely r
      have hc := h3.cell hF
      rw [e3] at hc
      refine ⟨_, _, _, stepG_loadV (ad := ⟨b3, 0, Option.none⟩) (v := v 3) rfl rfl (by k_ne) (by simp [go_sem, execOp, hc, e3]) (by simp [go_sem, execOp, hc]) loud45, h3.dx, ?_⟩
      walk_nrm
      exact goes_le (by omega) (hI _ hF)
    · simp only [upd, Nat.reduceEqDiff, if_true, if_false, ↓reduceIte, reduceCtorEq] at hI
      simp only [List.cons_append]
      simp only [ops45, body45, s0', s1', Try.f45, Option.getD_some] at hI ⊢
      refine goes_one rfl fun w₁ r => ⟨_, _, _, stepG_value (v := v 4) (w' := w₁) rfl rfl (by k_ne) (by simp [go_sem, execOp, e4]), dx_of_dc0 ⟨rfl, listed_none (by simp [go_sem, execOp, e4])⟩, ?_⟩
      replace hF := hF.rely r
      walk_nrm
      exact goes_le (by omega) (hI _ hF)
    · simp only [upd, Nat.reduceEqDiff, if_true, if_false, ↓reduceIte, reduceCtorEq] at hI
      simp only [List.cons_append]
      simp only [ops45, body45, s0', s1', Try.f45, Option.getD_some] at hI ⊢
      simp only [depR, List.all_cons, List.all_nil, Bool.and_true, Bool.and_eq_true] at hd
      have d3 := (he 3 (by omega) hd.1).trans e3
      have d4 := (he 4 (by omega) hd.2).trans e4
      rw [d3, d4] at hI ⊢
      refine goes_one rfl fun w₁ r => ⟨_, _, _, stepG_value (v := v 5) (w' := w₁) rfl rfl (by k_ne) (by simp [go_sem, execOp, e5, hi]), dx_of_dc0 ⟨rfl, listed_none (by simp [go_sem, execOp, e5, hi])⟩, ?_⟩
      replace hF := hF.rely r
      walk_nrm
      exact goes_le (by omega) (hI _ hF)
    · simp only [upd, Nat.reduceEqDiff, if_true, if_false, ↓reduceIte, reduceCtorEq] at hI
      simp only [List.cons_append]
      simp only [ops45, body45, s0', s1', Try.f45, Option.getD_some] at hI ⊢
      simp only [depR, List.all_cons, List.all_nil, Bool.and_true] at hd
      have d5 := (he 5 (by omega) hd).trans e5
      rw [d5] at hI ⊢
      refine goes_one rfl fun w₁ r => ?_
      replace hF := hF.rely r
      have hc := hit.cell hF
      rw [e6] at hc
      refine ⟨_, _, _, stepG_loadV (ad := (ad.add i)) (v := v 6) rfl rfl (by k_ne) (by simp [go_sem, execOp, hc, e6]) (by simp [go_sem, execOp, hc]) loud45, hit.dx, ?_⟩
      walk_nrm
      exact goes_le (by omega) (hI _ hF)
    · simp only [upd, Nat.reduceEqDiff, if_true, if_false, ↓reduceIte, reduceCtorEq] at hI
      simp only [depR, List.all_cons, List.all_nil, Bool.and_true, Bool.and_eq_true] at hd
      have d2 := he 2 (by omega) hd.1
      have d6 := he 6 (by omega) hd.2
      rw [d2, d6] at hI ⊢
      refine goes_le (show (M + (c + 1) * L.length) + c ≤ _ by omega) (h13 _ _ rfl rfl _ (fun w hF => ?_) w hF)
      walk_nrm
      exact hI w hF
theorem op7_45 : ops45[7]? = some { dst := some 13, op := .call { callee := .value (.tmp 8), args := #[.tmp 12], argTypes := #[3] }, type := 3, pos := "crew.go:53", after := #[{ on := 2, ground := Ground.data }, { on := 6, ground := Ground.data }], guard := Option.none } := by kernel_rfl
set_option maxRecDepth 100000 in
set_option maxHeartbeats 16000000 in
/-- ████ What a worker does with a place. ████ -/
theorem does45 {C : Cf} {W : World} {b3 b5 b7 : Nat} {a0 : Option Addr} {ci : Nat} {fd : FuncId} {cap : Array Value} {φ : Int → Int} {l : Nat → Int} (Ge : Geo C)
    (h7 : VarA C W ⟨b7, 0, Option.none⟩ (.slice (some ⟨C.tp.Out, 0, Option.none⟩) C.n C.n)) (h5 : VarA C W ⟨b5, 0, Option.none⟩ (.func (.func fd) #[] cap)) (h3 : VarA C W ⟨b3, 0, Option.none⟩ (.slice a0 C.n ci))
    (hit : ∀ i, i < C.n → ∃ ad, a0 = some ad ∧ VarA C W (ad.add i) (.int .i64 (l i))) (hM : ∀ i, Maps C W (some i) (.func (.func fd) #[] cap) (fun z => .int .i64 (φ z)))
    (hval : ∀ i, i < C.n → C.val i = .int .i64 (φ (l i))) (hok : ∀ i, i < C.n → C.ok i = true) (hrow : RowOf C W) :
    Does C W (.func (.func 45) #[] #[.pointer (some ⟨b5, 0, Option.none⟩), .pointer (some ⟨b3, 0, Option.none⟩), .pointer (some ⟨b7, 0, Option.none⟩)]) := by
  intro i hi b a ops idx rest k cs o x y ats ho hw hk hop hx hy Stop M hT
  rw [hval i hi, hok i hi] at hT
  obtain ⟨ad, rfl, hcell⟩ := hit i hi
  obtain ⟨c, hM⟩ := hM i
  obtain ⟨h, hh⟩ : ∃ h, h = some i := ⟨_, rfl⟩
  have hfin : ∀ w, KW C W w → Goes Try.prog false (RX C (some i)) (DX C (some i) false) Stop (M + 120) (G ((base 45).at ⟨#[.int .i64 (i : Int), .pointer (some ⟨b5, 0, Option.none⟩), .pointer (some ⟨b3, 0, Option.none⟩), .pointer (some ⟨b7, 0, Option.none⟩), undef, .bool false, (((fun | 0 => .slice (some ⟨C.tp.Out, 0, Option.none⟩) C.n C.n | 1 => .int .i64 (i : Int) | 2 => .func (.func fd) #[] cap | 3 => .slice (some ad) C.n ci | 4 => .int .i64 (i : Int) | 5 => .pointer (some (ad.add i)) | 6 => .int .i64 (l i) | _ => .int .i64 (φ (l i))) : Nat → Value) 0), (((fun | 0 => .slice (some ⟨C.tp.Out, 0, Option.none⟩) C.n C.n | 1 => .int .i64 (i : Int) | 2 => .func (.func fd) #[] cap | 3 => .slice (some ad) C.n ci | 4 => .int .i64 (i : Int) | 5 => .pointer (some (ad.add i)) | 6 => .int .i64 (l i) | _ => .int .i64 (φ (l i))) : Nat → Value) 1), (((fun | 0 => .slice (some ⟨C.tp.Out, 0, Option.none⟩) C.n C.n | 1 => .int .i64 (i : Int) | 2 => .func (.func fd) #[] cap | 3 => .slice (some ad) C.n ci | 4 => .int .i64 (i : Int) | 5 => .pointer (some (ad.add i)) | 6 => .int .i64 (l i) | _ => .int .i64 (φ (l i))) : Nat → Value) 2), (((fun | 0 => .slice (some ⟨C.tp.Out, 0, Option.none⟩) C.n C.n | 1 => .int .i64 (i : Int) | 2 => .func (.func fd) #[] cap | 3 => .slice (some ad) C.n ci | 4 => .int .i64 (i : Int) | 5 => .pointer (some (ad.add i)) | 6 => .int .i64 (l i) | _ => .int .i64 (φ (l i))) : Nat → Value) 3), (((fun | 0 => .slice (some ⟨C.tp.Out, 0, Option.none⟩) C.n C.n | 1 => .int .i64 (i : Int) | 2 => .func (.func fd) #[] cap | 3 => .slice (some ad) C.n ci | 4 => .int .i64 (i : Int) | 5 => .pointer (some (ad.add i)) | 6 => .int .i64 (l i) | _ => .int .i64 (φ (l i))) : Nat → Value) 4), (((fun | 0 => .slice (some ⟨C.tp.Out, 0, Option.none⟩) C.n C.n | 1 => .int .i64 (i : Int) | 2 => .func (.func fd) #[] cap | 3 => .slice (some ad) C.n ci | 4 => .int .i64 (i : Int) | 5 => .pointer (some (ad.add i)) | 6 => .int .i64 (l i) | _ => .int .i64 (φ (l i))) : Nat → Value) 5), (((fun | 0 => .slice (some ⟨C.tp.Out, 0, Option.none⟩) C.n C.n | 1 => .int .i64 (i : Int) | 2 => .func (.func fd) #[] cap | 3 => .slice (some ad) C.n ci | 4 => .int .i64 (i : Int) | 5 => .pointer (some (ad.add i)) | 6 => .int .i64 (l i) | _ => .int .i64 (φ (l i))) : Nat → Value) 6), (((fun | 0 => .slice (some ⟨C.tp.Out, 0, Option.none⟩) C.n C.n | 1 => .int .i64 (i : Int) | 2 => .func (.func fd) #[] cap | 3 => .slice (some ad) C.n ci | 4 => .int .i64 (i : Int) | 5 => .pointer (some (ad.add i)) | 6 => .int .i64 (l i) | _ => .int .i64 (φ (l i))) : Nat → Value) 7), undef], []⟩ (.inRegion ops45 [8, 9] :: [.code REST45])) (b.at a (.inRegion ops (idx :: rest) :: k) :: cs)) w := by
    intro w hF
    clear hM
    rw [← hh]
    simp only [ops45, REST45, body45, s0', s1', Try.f45, Option.getD_some]
    refine goes_le (show 10 + (M + 100) ≤ _ by omega) (goes_then (M := (M + 100)) (T := Goes Try.prog false (RX C h) (DX C h false) Stop (M + 100)) (D' := DC0) (RX.rf h) (dc0_dx h) (fun _ _ x => x) ?_)
    repeat w_go KW.rely
    refine Goes.stop (fun w₁ r₁ => ?_)
    replace hF := hF.rely r₁
    clear r₁
    subst hh
    refine goes_le (show M + 90 + 1 ≤ _ by omega) (goes_one rfl fun w₁ r => ?_)
    replace hF := hF.rely r
    obtain ⟨⟨vo, hc⟩, hz⟩ := hrow.cell hF hi
    refine ⟨_, _, _, stepG_storeV (ad := ⟨C.tp.Out, i, Option.none⟩) (v := .int .i64 (φ (l i))) rfl rfl (by k_ne) (by simp [go_sem, execOp, hc, hz]) (by simp [go_sem, execOp, storedEv, hc, hz]) loud45, dx_own _, ?_⟩
    have hO := outAt_own (C := C) (.int .i64 (φ (l i))) ⟨vo, hc⟩
    replace hF : KW C W (w₁.setCell ⟨C.tp.Out, i, Option.none⟩ (.int .i64 (φ (l i)))) ∧ OutAt C (w₁.setCell ⟨C.tp.Out, i, Option.none⟩ (.int .i64 (φ (l i)))) i (.int .i64 (φ (l i))) := ⟨hF.rely ((dx_own (C := C) (i := i) (w := w₁) (.int .i64 (φ (l i)))).rx Ge (h' := Option.none) (by simp)), hO⟩
    have rl : ∀ {w w₁ : World}, (KW C W w ∧ OutAt C w i (.int .i64 (φ (l i)))) → RX C (some i) w w₁ → (KW C W w₁ ∧ OutAt C w₁ i (.int .i64 (φ (l i)))) := fun h r => ⟨h.1.rely r, OutAt.rx h.2 r⟩
    generalize w₁.setCell ⟨C.tp.Out, i, Option.none⟩ (.int .i64 (φ (l i))) = w₂ at hF ⊢
    clear hc hz hO
    refine goes_le (show 60 + M ≤ _ by omega) (goes_then (M := M) (T := fun g w => g = (G (b.at (a.put ((ops[idx]?).bind (·.dst)) (.bool true)) (.inRegion ops rest :: k)) cs) ∧ (KW C W w ∧ OutAt C w i (.int .i64 (φ (l i))))) (D' := DC0) (RX.rf _) (dc0_dx _) ?_ ?_)
    · rintro g w ⟨rfl, hF⟩; rw [ho]; exact hT w hF.1 hF.2
    walk_nrm
    repeat w_go rl
    u_leave1 Try.func45 rl hF
    exact Goes.stop (fun w₁ r₁ => ⟨rfl, rl hF r₁⟩)
  have eb : Try.f45.body = some (.seq (s0' body45) (.seq (.region 1 ops45 true) REST45)) := by kernel_rfl
  have hreg := region45 (C := C) (W := W) (b3 := b3) (b5 := b5) (b7 := b7) (i := i) (v := (fun | 0 => .slice (some ⟨C.tp.Out, 0, Option.none⟩) C.n C.n | 1 => .int .i64 (i : Int) | 2 => .func (.func fd) #[] cap | 3 => .slice (some ad) C.n ci | 4 => .int .i64 (i : Int) | 5 => .pointer (some (ad.add i)) | 6 => .int .i64 (l i) | _ => .int .i64 (φ (l i)))) (c := c) (x := l i) h7 h5 h3 hcell rfl rfl rfl rfl rfl rfl rfl hi
    (fun a' rest' e8 e12 M' hM' w hF => hM (l i) (base 45) a' ops45 7 rest' [.code REST45] _ _ (.tmp 8) (.tmp 12) #[3] op7_45 rfl (by k_ne) rfl e8 e12 Stop M' hM' w hF) hfin
  clear hM hfin
  refine ⟨M + 120 + (c + 1) * 8 + 60, fun w hF => ?_⟩
  refine Goes.step (n := M + 120 + (c + 1) * 8 + 59) rfl fun w₁ h₁ => ?_
  replace hF := hF.rely h₁
  clear h₁
  refine goes_callv ho hw hk hop hx Try.func45 nm45 eb ⟨dx_of_dc0 ⟨rfl, rfl⟩, ?_⟩
  simp only [List.map_toArray, List.map_cons, List.map_nil, hy]
  refine goes_le (show (M + 120 + (c + 1) * 8 + 20) + 30 ≤ _ by omega) ?_
  rw [← hh]
  refine goes_le (show 30 + (M + 120 + (c + 1) * 8 + 20) ≤ M + 120 + (c + 1) * 8 + 20 + 30 by omega) (goes_then (M := (M + 120 + (c + 1) * 8 + 20)) (T := Goes Try.prog false (RX C h) (DX C h false) Stop (M + 120 + (c + 1) * 8 + 20)) (D' := DC0) (RX.rf h) (dc0_dx h) (fun _ _ x => x) ?_)
  clear eb
  simp only [s0', body45, Try.f45, Option.getD_some]
  walk_nrm
  repeat w_go KW.rely
  refine Goes.stop (fun w₁ r₁ => ?_)
  replace hF := hF.rely r₁
  clear r₁
  subst hh
  refine goes_le (show (M + 120 + (c + 1) * 8) + 1 ≤ _ by omega) (goes_one rfl fun w₁ r => ⟨_, _, _, stepG_draw, dx_draw _, ?_⟩)
  replace hF := (hF.rely r).drew (w₁.drawn + 1)
  obtain ⟨L, hL, hlen, hg⟩ := sched45 (w₁.tape w₁.drawn (.order (base 45).fn 1))
  rw [hL]
  have hle := Nat.mul_le_mul_left (c + 1) hlen
  exact goes_le (by omega) (hreg L (fun _ => false) (fun j => if j = 7 then undef else undef) hg (fun j _ h => by cases h) _ hF)
noncomputable def REST32 : Code := s1' (s1' body32)
set_option maxRecDepth 100000 in
set_option maxHeartbeats 16000000 in
/-- ████ THE DRAWN REGION, in whatever order. ████ -/
theorem region32 {C : Cf} {W : World} {b3 b5 b7 i : Nat} {v : Nat → Value} {cs : List Frame} {Stop : Goroutine → World → Prop} {M c : Nat} {ad : Addr} {x : Int} {no ni ci : Nat} {ao : Option Addr} {fd : FuncId} {cap : Array Value}
    (h7 : VarA C W ⟨b7, 0, Option.none⟩ (v 0)) (h5 : VarA C W ⟨b5, 0, Option.none⟩ (v 2)) (h3 : VarA C W ⟨b3, 0, Option.none⟩ (v 3)) (hit : VarA C W (ad.add i) (v 6))
    (e0 : v 0 = .slice ao no no) (e1 : v 1 = .int .i64 (i : Int)) (e2 : v 2 = .func (.func fd) #[] cap) (e3 : v 3 = .slice (some ad) ni ci) (e4 : v 4 = .int .i64 (i : Int)) (e5 : v 5 = .pointer (some (ad.add i))) (e6 : v 6 = .int .i64 x) (hi : i < ni)
    (h13 : ∀ (a : Act) (rest : List Nat), a.eval (.tmp 8) = v 2 → a.eval (.tmp 12) = v 6 → ∀ M, (∀ w, KW C W w → Goes Try.prog false (RX C (some i)) (DX C (some i) false) Stop M (G ((base 32).at (a.put (some 13) (v 7)) (.inRegion ops32 rest :: [.code REST32])) cs) w) → ∀ w, KW C W w → Goes Try.prog false (RX C (some i)) (DX C (some i) false) Stop (M + c) (G ((base 32).at a (.inRegion ops32 (7 :: rest) :: [.code REST32])) cs) w)
    (hfin : ∀ w, KW C W w → Goes Try.prog false (RX C (some i)) (DX C (some i) false) Stop M (G ((base 32).at ⟨#[.int .i64 (i : Int), .pointer (some ⟨b5, 0, Option.none⟩), .pointer (some ⟨b3, 0, Option.none⟩), .pointer (some ⟨b7, 0, Option.none⟩), undef, .bool false, (v 0), (v 1), (v 2), (v 3), (v 4), (v 5), (v 6), (v 7), undef, undef, undef, undef, undef, undef], []⟩ (.inRegion ops32 [8, 9] :: [.code REST32])) cs) w) :
    ∀ (L : List Nat) (d : Nat → Bool) (e : Nat → Value), goodL L d = true → (∀ j, j < 8 → d j = true → e j = v j) → ∀ w, KW C W w →
      Goes Try.prog false (RX C (some i)) (DX C (some i) false) Stop (M + (c + 1) * L.length) (G ((base 32).at ⟨#[.int .i64 (i : Int), .pointer (some ⟨b5, 0, Option.none⟩), .pointer (some ⟨b3, 0, Option.none⟩), .pointer (some ⟨b7, 0, Option.none⟩), undef, .bool false, (e 0), (e 1), (e 2), (e 3), (e 4), (e 5), (e 6), (e 7), undef, undef, undef, undef, undef, undef], []⟩ (.inRegion ops32 (L ++ [8, 9]) :: [.code REST32])) cs) w := by
  intro L
  induction L with
  | nil =>
    intro d e hg he w hF
    simp only [goodL, Bool.and_eq_true] at hg
    obtain ⟨⟨⟨⟨⟨⟨⟨g0, g1⟩, g2⟩, g3⟩, g4⟩, g5⟩, g6⟩, g7⟩ := hg
    rw [he 0 (by omega) g0, he 1 (by omega) g1, he 2 (by omega) g2, he 3 (by omega) g3, he 4 (by omega) g4, he 5 (by omega) g5, he 6 (by omega) g6, he 7 (by omega) g7]
    exact hfin w hF
  | cons j L ih =>
    intro d e hg he w hF
    simp only [goodL, Bool.and_eq_true, decide_eq_true_eq] at hg
    obtain ⟨⟨hj, hd⟩, hg⟩ := hg
    have he' : ∀ k, k < 8 → (k == j || d k) = true → upd e j (v j) k = v k := by
      intro k hk hkd
      by_cases hkj : k = j
      · subst hkj; exact upd_same _ _ _
      · rw [upd_ne _ _ hkj]; exact he k hk (by simpa [hkj] using hkd)
    have hI := ih _ _ hg he'
    rw [show M + (c + 1) * (j :: L).length = (M + (c + 1) * L.length + c) + 1 by simp only [List.length_cons]; rw [Nat.mul_add]; omega]
    obtain rfl | rfl | rfl | rfl | rfl | rfl | rfl | rfl : j = 0 ∨ j = 1 ∨ j = 2 ∨ j = 3 ∨ j = 4 ∨ j = 5 ∨ j = 6 ∨ j = 7 := by omega
    · simp only [upd, Nat.reduceEqDiff, if_true, if_false, ↓reduceIte, reduceCtorEq] at hI
      simp only [List.cons_append]
      simp only [ops32, body32, s0', s1', Try.f32, Option.getD_some] at hI ⊢
      refine goes_one rfl fun w₁ r => ?_
      replace hF := hF.rely r
      have hc := h7.cell hF
      rw [e0] at hc
      refine ⟨_, _, _, stepG_loadV (ad := ⟨b7, 0, Option.none⟩) (v := v 0) rfl rfl (by k_ne) (by simp [go_sem, execOp, hc, e0]) (by simp [go_sem, execOp, hc]) loud32, h7.dx, ?_⟩
      walk_nrm
      exact goes_le (by omega) (hI _ hF)
    · simp only [upd, Nat.reduceEqDiff, if_true, if_false, ↓reduceIte, reduceCtorEq] at hI
      simp only [List.cons_append]
      simp only [ops32, body32, s0', s1', Try.f32, Option.getD_some] at hI ⊢
      refine goes_one rfl fun w₁ r => ⟨_, _, _, stepG_value (v := v 1) (w' := w₁) rfl rfl (by k_ne) (by simp [go_sem, execOp, e1]), dx_of_dc0 ⟨rfl, listed_none (by simp [go_sem, execOp, e1])⟩, ?_⟩
      replace hF := hF.rely r
      walk_nrm
      exact goes_le (by omega) (hI _ hF)
    · simp only [upd, Nat.reduceEqDiff, if_true, if_false, ↓reduceIte, reduceCtorEq] at hI
      simp only [List.cons_append]
      simp only [ops32, body32, s0', s1', Try.f32, Option.getD_some] at hI ⊢
      refine goes_one rfl fun w₁ r => ?_
      replace hF := hF.rely r
      have hc := h5.cell hF
      rw [e2] at hc
      refine ⟨_, _, _, stepG_loadV (ad := ⟨b5, 0, Option.none⟩) (v := v 2) rfl rfl (by k_ne) (by simp [go_sem, execOp, hc, e2]) (by simp [go_sem, execOp, hc]) loud32, h5.dx, ?_⟩
      walk_nrm
      exact goes_le (by omega) (hI _ hF)
    · simp only [upd, Nat.reduceEqDiff, if_true, if_false, ↓reduceIte, reduceCtorEq] at hI
      simp only [List.cons_append]
      simp only [ops32, body32, s0', s1', Try.f32, Option.getD_some] at hI ⊢
      refine goes_one rfl fun w₁ r => ?_
      replace hF := hF.rely r
      have hc := h3.cell hF
      rw [e3] at hc
      refine ⟨_, _, _, stepG_loadV (ad := ⟨b3, 0, Option.none⟩) (v := v 3) rfl rfl (by k_ne) (by simp [go_sem, execOp, hc, e3]) (by simp [go_sem, execOp, hc]) loud32, h3.dx, ?_⟩
      walk_nrm
      exact goes_le (by omega) (hI _ hF)
    · simp only [upd, Nat.reduceEqDiff, if_true, if_false, ↓reduceIte, reduceCtorEq] at hI
      simp only [List.cons_append]
      simp only [ops32, body32, s0', s1', Try.f32, Option.getD_some] at hI ⊢
      refine goes_one rfl fun w₁ r => ⟨_, _, _, stepG_value (v := v 4) (w' := w₁) rfl rfl (by k_ne) (by simp [go_sem, execOp, e4]), dx_of_dc0 ⟨rfl, listed_none (by simp [go_sem, execOp, e4])⟩, ?_⟩
      replace hF := hF.rely r
      walk_nrm
      exact goes_le (by omega) (hI _ hF)
    · simp only [upd, Nat.reduceEqDiff, if_true, if_false, ↓reduceIte, reduceCtorEq] at hI
      simp only [List.cons_append]
      simp only [ops32, body32, s0', s1', Try.f32, Option.getD_some] at hI ⊢
      simp only [depR, List.all_cons, List.all_nil, Bool.and_true, Bool.and_eq_true] at hd
      have d3 := (he 3 (by omega) hd.1).trans e3
      have d4 := (he 4 (by omega) hd.2).trans e4
      rw [d3, d4] at hI ⊢
      refine goes_one rfl fun w₁ r => ⟨_, _, _, stepG_value (v := v 5) (w' := w₁) rfl rfl (by k_ne) (by simp [go_sem, execOp, e5, hi]), dx_of_dc0 ⟨rfl, listed_none (by simp [go_sem, execOp, e5, hi])⟩, ?_⟩
      replace hF := hF.rely r
      walk_nrm
      exact goes_le (by omega) (hI _ hF)
    · simp only [upd, Nat.reduceEqDiff, if_true, if_false, ↓reduceIte, reduceCtorEq] at hI
      simp only [List.cons_append]
      simp only [ops32, body32, s0', s1', Try.f32, Option.getD_some] at hI ⊢
      simp only [depR, List.all_cons, List.all_nil, Bool.and_true] at hd
      have d5 := (he 5 (by omega) hd).trans e5
      rw [d5] at hI ⊢
      refine goes_one rfl fun w₁ r => ?_
      replace hF := hF.rely r
      have hc := hit.cell hF
      rw [e6] at hc
      refine ⟨_, _, _, stepG_loadV (ad := (ad.add i)) (v := v 6) rfl rfl (by k_ne) (by simp [go_sem, execOp, hc, e6]) (by simp [go_sem, execOp, hc]) loud32, hit.dx, ?_⟩
      walk_nrm
      exact goes_le (by omega) (hI _ hF)
    · simp only [upd, Nat.reduceEqDiff, if_true, if_false, ↓reduceIte, reduceCtorEq] at hI
      simp only [depR, List.all_cons, List.all_nil, Bool.and_true, Bool.and_eq_true] at hd
      have d2 := he 2 (by omega) hd.1
      have d6 := he 6 (by omega) hd.2
      rw [d2, d6] at hI ⊢
      refine goes_le (show (M + (c + 1) * L.length) + c ≤ _ by omega) (h13 _ _ rfl rfl _ (fun w hF => ?_) w hF)
      walk_nrm
      exact hI w hF
theorem op7_32 : ops32[7]? = some { dst := some 13, op := .call { callee := .value (.tmp 8), args := #[.tmp 12], argTypes := #[2] }, type := 4, pos := "crew.go:63", after := #[{ on := 2, ground := Ground.data }, { on := 6, ground := Ground.data }], guard := Option.none } := by kernel_rfl
set_option maxRecDepth 100000 in
set_option maxHeartbeats 16000000 in
/-- ████ What a worker does with a place. ████ -/
theorem does32 {C : Cf} {W : World} {b3 b5 b7 : Nat} {a0 : Option Addr} {ci : Nat} {fd : FuncId} {cap : Array Value} {φ : Int → Bool} {l : Nat → Int} (Ge : Geo C)
    (h7 : VarA C W ⟨b7, 0, Option.none⟩ (.slice (some ⟨C.tp.Out, 0, Option.none⟩) C.n C.n)) (h5 : VarA C W ⟨b5, 0, Option.none⟩ (.func (.func fd) #[] cap)) (h3 : VarA C W ⟨b3, 0, Option.none⟩ (.slice a0 C.n ci))
    (hit : ∀ i, i < C.n → ∃ ad, a0 = some ad ∧ VarA C W (ad.add i) (.int .i64 (l i))) (hM : ∀ i, Maps C W (some i) (.func (.func fd) #[] cap) (fun z => .bool (φ z)))
    (hval : ∀ i, i < C.n → C.val i = .bool (φ (l i))) (hok : ∀ i, i < C.n → C.ok i = !φ (l i)) (hrow : RowOf C W) :
    Does C W (.func (.func 32) #[] #[.pointer (some ⟨b5, 0, Option.none⟩), .pointer (some ⟨b3, 0, Option.none⟩), .pointer (some ⟨b7, 0, Option.none⟩)]) := by
  intro i hi b a ops idx rest k cs o x y ats ho hw hk hop hx hy Stop M hT
  rw [hval i hi, hok i hi] at hT
  obtain ⟨ad, rfl, hcell⟩ := hit i hi
  obtain ⟨c, hM⟩ := hM i
  obtain ⟨h, hh⟩ : ∃ h, h = some i := ⟨_, rfl⟩
  have hfin : ∀ w, KW C W w → Goes Try.prog false (RX C (some i)) (DX C (some i) false) Stop (M + 120) (G ((base 32).at ⟨#[.int .i64 (i : Int), .pointer (some ⟨b5, 0, Option.none⟩), .pointer (some ⟨b3, 0, Option.none⟩), .pointer (some ⟨b7, 0, Option.none⟩), undef, .bool false, (((fun | 0 => .slice (some ⟨C.tp.Out, 0, Option.none⟩) C.n C.n | 1 => .int .i64 (i : Int) | 2 => .func (.func fd) #[] cap | 3 => .slice (some ad) C.n ci | 4 => .int .i64 (i : Int) | 5 => .pointer (some (ad.add i)) | 6 => .int .i64 (l i) | _ => .bool (φ (l i))) : Nat → Value) 0), (((fun | 0 => .slice (some ⟨C.tp.Out, 0, Option.none⟩) C.n C.n | 1 => .int .i64 (i : Int) | 2 => .func (.func fd) #[] cap | 3 => .slice (some ad) C.n ci | 4 => .int .i64 (i : Int) | 5 => .pointer (some (ad.add i)) | 6 => .int .i64 (l i) | _ => .bool (φ (l i))) : Nat → Value) 1), (((fun | 0 => .slice (some ⟨C.tp.Out, 0, Option.none⟩) C.n C.n | 1 => .int .i64 (i : Int) | 2 => .func (.func fd) #[] cap | 3 => .slice (some ad) C.n ci | 4 => .int .i64 (i : Int) | 5 => .pointer (some (ad.add i)) | 6 => .int .i64 (l i) | _ => .bool (φ (l i))) : Nat → Value) 2), (((fun | 0 => .slice (some ⟨C.tp.Out, 0, Option.none⟩) C.n C.n | 1 => .int .i64 (i : Int) | 2 => .func (.func fd) #[] cap | 3 => .slice (some ad) C.n ci | 4 => .int .i64 (i : Int) | 5 => .pointer (some (ad.add i)) | 6 => .int .i64 (l i) | _ => .bool (φ (l i))) : Nat → Value) 3), (((fun | 0 => .slice (some ⟨C.tp.Out, 0, Option.none⟩) C.n C.n | 1 => .int .i64 (i : Int) | 2 => .func (.func fd) #[] cap | 3 => .slice (some ad) C.n ci | 4 => .int .i64 (i : Int) | 5 => .pointer (some (ad.add i)) | 6 => .int .i64 (l i) | _ => .bool (φ (l i))) : Nat → Value) 4), (((fun | 0 => .slice (some ⟨C.tp.Out, 0, Option.none⟩) C.n C.n | 1 => .int .i64 (i : Int) | 2 => .func (.func fd) #[] cap | 3 => .slice (some ad) C.n ci | 4 => .int .i64 (i : Int) | 5 => .pointer (some (ad.add i)) | 6 => .int .i64 (l i) | _ => .bool (φ (l i))) : Nat → Value) 5), (((fun | 0 => .slice (some ⟨C.tp.Out, 0, Option.none⟩) C.n C.n | 1 => .int .i64 (i : Int) | 2 => .func (.func fd) #[] cap | 3 => .slice (some ad) C.n ci | 4 => .int .i64 (i : Int) | 5 => .pointer (some (ad.add i)) | 6 => .int .i64 (l i) | _ => .bool (φ (l i))) : Nat → Value) 6), (((fun | 0 => .slice (some ⟨C.tp.Out, 0, Option.none⟩) C.n C.n | 1 => .int .i64 (i : Int) | 2 => .func (.func fd) #[] cap | 3 => .slice (some ad) C.n ci | 4 => .int .i64 (i : Int) | 5 => .pointer (some (ad.add i)) | 6 => .int .i64 (l i) | _ => .bool (φ (l i))) : Nat → Value) 7), undef, undef, undef, undef, undef, undef], []⟩ (.inRegion ops32 [8, 9] :: [.code REST32])) (b.at a (.inRegion ops (idx :: rest) :: k) :: cs)) w := by
    intro w hF
    clear hM
    rw [← hh]
    simp only [ops32, REST32, body32, s0', s1', Try.f32, Option.getD_some]
    refine goes_le (show 10 + (M + 100) ≤ _ by omega) (goes_then (M := (M + 100)) (T := Goes Try.prog false (RX C h) (DX C h false) Stop (M + 100)) (D' := DC0) (RX.rf h) (dc0_dx h) (fun _ _ x => x) ?_)
    repeat w_go KW.rely
    refine Goes.stop (fun w₁ r₁ => ?_)
    replace hF := hF.rely r₁
    clear r₁
    subst hh
    refine goes_le (show M + 90 + 1 ≤ _ by omega) (goes_one rfl fun w₁ r => ?_)
    replace hF := hF.rely r
    obtain ⟨⟨vo, hc⟩, hz⟩ := hrow.cell hF hi
    refine ⟨_, _, _, stepG_storeV (ad := ⟨C.tp.Out, i, Option.none⟩) (v := .bool (φ (l i))) rfl rfl (by k_ne) (by simp [go_sem, execOp, hc, hz]) (by simp [go_sem, execOp, ev_store_bool, storedEv, hc, hz]) loud32, dx_own _, ?_⟩
    have hO := outAt_own (C := C) (.bool (φ (l i))) ⟨vo, hc⟩
    replace hF : KW C W (w₁.setCell ⟨C.tp.Out, i, Option.none⟩ (.bool (φ (l i)))) ∧ OutAt C (w₁.setCell ⟨C.tp.Out, i, Option.none⟩ (.bool (φ (l i)))) i (.bool (φ (l i))) := ⟨hF.rely ((dx_own (C := C) (i := i) (w := w₁) (.bool (φ (l i)))).rx Ge (h' := Option.none) (by simp)), hO⟩
    have rl : ∀ {w w₁ : World}, (KW C W w ∧ OutAt C w i (.bool (φ (l i)))) → RX C (some i) w w₁ → (KW C W w₁ ∧ OutAt C w₁ i (.bool (φ (l i)))) := fun h r => ⟨h.1.rely r, OutAt.rx h.2 r⟩
    generalize w₁.setCell ⟨C.tp.Out, i, Option.none⟩ (.bool (φ (l i))) = w₂ at hF ⊢
    clear hc hz hO
    refine goes_le (show 20 + (M + 60) ≤ _ by omega) (goes_then (M := M + 60) (T := Goes Try.prog false (RX C (some i)) (DX C (some i) false) Stop (M + 60)) (D' := DC0) (RX.rf _) (dc0_dx _) (fun _ _ x => x) ?_)
    walk_nrm
    repeat w_go rl
    refine Goes.stop (fun w₁ r₁ => ?_)
    replace hF := rl hF r₁
    clear r₁
    refine goes_le (show M + 58 + 1 ≤ _ by omega) (goes_one rfl fun w₁ r₁ => ?_)
    replace hF := rl hF r₁
    have hc := h7.cell hF.1
    refine ⟨_, _, _, stepG_loadV (ad := ⟨b7, 0, Option.none⟩) (v := .slice (some ⟨C.tp.Out, 0, Option.none⟩) C.n C.n) rfl rfl (by k_ne) (by simp [go_sem, execOp, hc]) (by simp [go_sem, execOp, hc]) loud32, h7.dx, ?_⟩
    clear hc r₁
    refine goes_le (show 20 + (M + 30) ≤ _ by omega) (goes_then (M := M + 30) (T := Goes Try.prog false (RX C (some i)) (DX C (some i) false) Stop (M + 30)) (D' := DC0) (RX.rf _) (dc0_dx _) (fun _ _ x => x) ?_)
    walk_nrm
    repeat w_go rl
    refine Goes.stop (fun w₁ r₁ => ?_)
    replace hF := rl hF r₁
    clear r₁
    refine goes_le (show M + 28 + 1 ≤ _ by omega) (goes_one rfl fun w₁ r₁ => ?_)
    replace hF := rl hF r₁
    have hc : w₁.cell? ⟨C.tp.Out, i, Option.none⟩ = some (.bool (φ (l i))) := hF.2
    refine ⟨_, _, _, stepG_loadV (ad := ⟨C.tp.Out, i, Option.none⟩) (v := .bool (φ (l i))) rfl rfl (by k_ne) (by simp [go_sem, execOp, hc]) (by simp [go_sem, execOp, hc]) loud32, dx_ownR, ?_⟩
    clear hc r₁
    refine goes_le (show 28 + M ≤ _ by omega) (goes_then (M := M) (T := fun g w => g = (G (b.at (a.put ((ops[idx]?).bind (·.dst)) (.bool (!φ (l i)))) (.inRegion ops rest :: k)) cs) ∧ (KW C W w ∧ OutAt C w i (.bool (φ (l i))))) (D' := DC0) (RX.rf _) (dc0_dx _) ?_ ?_)
    · rintro g w ⟨rfl, hF⟩; rw [ho]; exact hT w hF.1 hF.2
    walk_nrm
    repeat w_go rl
    u_leave1 Try.func32 rl hF
    exact Goes.stop (fun w₁ r₁ => ⟨rfl, rl hF r₁⟩)
  have eb : Try.f32.body = some (.seq (s0' body32) (.seq (.region 1 ops32 true) REST32)) := by kernel_rfl
  have hreg := region32 (C := C) (W := W) (b3 := b3) (b5 := b5) (b7 := b7) (i := i) (v := (fun | 0 => .slice (some ⟨C.tp.Out, 0, Option.none⟩) C.n C.n | 1 => .int .i64 (i : Int) | 2 => .func (.func fd) #[] cap | 3 => .slice (some ad) C.n ci | 4 => .int .i64 (i : Int) | 5 => .pointer (some (ad.add i)) | 6 => .int .i64 (l i) | _ => .bool (φ (l i)))) (c := c) (x := l i) h7 h5 h3 hcell rfl rfl rfl rfl rfl rfl rfl hi
    (fun a' rest' e8 e12 M' hM' w hF => hM (l i) (base 32) a' ops32 7 rest' [.code REST32] _ _ (.tmp 8) (.tmp 12) #[2] op7_32 rfl (by k_ne) rfl e8 e12 Stop M' hM' w hF) hfin
  clear hM hfin
  refine ⟨M + 120 + (c + 1) * 8 + 60, fun w hF => ?_⟩
  refine Goes.step (n := M + 120 + (c + 1) * 8 + 59) rfl fun w₁ h₁ => ?_
  replace hF := hF.rely h₁
  clear h₁
  refine goes_callv ho hw hk hop hx Try.func32 nm32 eb ⟨dx_of_dc0 ⟨rfl, rfl⟩, ?_⟩
  simp only [List.map_toArray, List.map_cons, List.map_nil, hy]
  refine goes_le (show (M + 120 + (c + 1) * 8 + 20) + 30 ≤ _ by omega) ?_
  rw [← hh]
  refine goes_le (show 30 + (M + 120 + (c + 1) * 8 + 20) ≤ M + 120 + (c + 1) * 8 + 20 + 30 by omega) (goes_then (M := (M + 120 + (c + 1) * 8 + 20)) (T := Goes Try.prog false (RX C h) (DX C h false) Stop (M + 120 + (c + 1) * 8 + 20)) (D' := DC0) (RX.rf h) (dc0_dx h) (fun _ _ x => x) ?_)
  clear eb
  simp only [s0', body32, Try.f32, Option.getD_some]
  walk_nrm
  repeat w_go KW.rely
  refine Goes.stop (fun w₁ r₁ => ?_)
  replace hF := hF.rely r₁
  clear r₁
  subst hh
  refine goes_le (show (M + 120 + (c + 1) * 8) + 1 ≤ _ by omega) (goes_one rfl fun w₁ r => ⟨_, _, _, stepG_draw, dx_draw _, ?_⟩)
  replace hF := (hF.rely r).drew (w₁.drawn + 1)
  obtain ⟨L, hL, hlen, hg⟩ := sched32 (w₁.tape w₁.drawn (.order (base 32).fn 1))
  rw [hL]
  have hle := Nat.mul_le_mul_left (c + 1) hlen
  exact goes_le (by omega) (hreg L (fun _ => false) (fun j => if j = 7 then undef else undef) hg (fun j _ h => by cases h) _ hF)
end Go.Proofs.Ytpkiojchlficcaa.Crew
