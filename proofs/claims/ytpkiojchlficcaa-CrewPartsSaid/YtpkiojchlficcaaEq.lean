/- The walks: slices.Equal, of two that are equal. -/
import Derived.Test.YtpkiojchlficcaaEo
set_option linter.unusedSimpArgs false
namespace Go.Proofs.Ytpkiojchlficcaa.Crew
open Go Go.Conc Go.ConcN Go.RowKit Go.Conc.Lib Go.ConcR.Gen
open Go.ConcM (OsLater goes_pad goes_le)
open Go.ConcR (KK wgBlock WgAt stA smA rd wr mk DC0)
/-- A SLICE OF NUMBERS that may be read. -/
def Ints (S : Nat → Prop) (w : World) (a : Option Addr) (n : Nat) (f : Nat → Int) : Prop := ∀ i, i < n → ∃ ad, a = some ad ∧ w.cell? (ad.add i) = some (.int .i64 (f i)) ∧ ad.block < w.heap.size ∧ ¬ S ad.block
theorem Ints.kept {S S' : Nat → Prop} {w w' : World} {a : Option Addr} {n : Nat} {f : Nat → Int} (h : Ints S w a n f) (k : Kept w S w' S') : Ints S' w' a n f := fun i hi => by
  obtain ⟨ad, e, hc, hb, hs⟩ := h i hi
  refine ⟨ad, e, (k.cell (by rw [addB]; exact hb)).trans hc, Nat.lt_of_lt_of_le hb k.size, fun h' => ?_⟩
  rcases k.new _ h' with h' | ⟨h', _⟩
  · exact hs h'
  · omega
noncomputable def REST6 : Code := s1' (s1' (s0' (s0' (s1' (s1' LL10)))))
noncomputable def ITS6 : List Item := [.code REST6, .inBlock 1, .code (s1' (s1' (s1' LL10))), .inLoop LL10, .inBlock 0, .code (s1' (s1' (s1' body10)))]
section
variable {S : Nat → Prop} {Q : Goroutine → World → (Nat → Prop) → Prop} {b₀ : Frame} {a₀ : Act} {ops₀ : Array Oper} {i₀ : Nat} {rest₀ : List Nat} {k₀ : List Item} {cs : List Frame}
set_option maxRecDepth 100000 in
set_option maxHeartbeats 16000000 in
/-- ████ THE DRAWN REGION, in whatever order. ████ -/
theorem region10 {w : World} {n i c1 c2 : Nat} {a1 a2 : Option Addr} {ad1 ad2 : Addr} {x : Int} {v : Nat → Value} {k : List Item} {j2 j3 j4 j6 j7 j8 j9 j10 j11 j14 j15 j24 j25 : Value} (hi : i < n) (h1 : w.cell? (ad1.add i) = some (.int .i64 x)) (h2 : w.cell? (ad2.add i) = some (.int .i64 x)) (b1 : ad1.block < w.heap.size) (b2 : ad2.block < w.heap.size) (s1 : ¬ S ad1.block) (s2 : ¬ S ad2.block)
    (e0 : v 0 = .slice (some ad1) n c1) (e1 : v 1 = .int .i64 (i : Int)) (e2 : v 2 = .pointer (some (ad1.add i))) (e3 : v 3 = .int .i64 x) (e4 : v 4 = .slice (some ad2) n c2) (e5 : v 5 = .int .i64 (i : Int)) (e6 : v 6 = .pointer (some (ad2.add i))) (e7 : v 7 = .int .i64 x)
    (f1 : a1 = some ad1) (f2 : a2 = some ad2)
    (hfin : ∀ w₁, AtRel w w₁ → Gets (G ((base 10).at ⟨#[.slice a1 n c1, .slice a2 n c2, j2, j3, j4, .int .i64 (i : Int), j6, j7, j8, j9, j10, j11, .int .i64 (n : Int), .int .i64 (i : Int), j14, j15, (v 0), (v 1), (v 2), (v 3), (v 4), (v 5), (v 6), (v 7), j24, j25], []⟩ (.inRegion ops10 [8] :: k)) cs) w₁ S Q) :
    ∀ (L : List Nat) (d : Nat → Bool) (e : Nat → Value), goodE L d = true → (∀ j, j < 8 → d j = true → e j = v j) → ∀ w₁, AtRel w w₁ → Gets (G ((base 10).at ⟨#[.slice a1 n c1, .slice a2 n c2, j2, j3, j4, .int .i64 (i : Int), j6, j7, j8, j9, j10, j11, .int .i64 (n : Int), .int .i64 (i : Int), j14, j15, (e 0), (e 1), (e 2), (e 3), (e 4), (e 5), (e 6), (e 7), j24, j25], []⟩ (.inRegion ops10 (L ++ [8]) :: k)) cs) w₁ S Q := by
  subst f1 f2
  intro L
  induction L with
  | nil =>
    intro d e hg he w₁ hF
    simp only [goodE, Bool.and_eq_true] at hg
    obtain ⟨⟨⟨⟨⟨⟨⟨g0, g1⟩, g2⟩, g3⟩, g4⟩, g5⟩, g6⟩, g7⟩ := hg
    rw [he 0 (by omega) g0, he 1 (by omega) g1, he 2 (by omega) g2, he 3 (by omega) g3, he 4 (by omega) g4, he 5 (by omega) g5, he 6 (by omega) g6, he 7 (by omega) g7]
    exact hfin w₁ hF
  | cons j L ih =>
    intro d e hg he w₁ hF
    simp only [goodE, Bool.and_eq_true, decide_eq_true_eq] at hg
    obtain ⟨⟨hj, hd⟩, hg⟩ := hg
    have he' : ∀ k, k < 8 → (k == j || d k) = true → upd e j (v j) k = v k := by
      intro k hk hkd
      by_cases hkj : k = j
      · subst hkj; exact upd_same _ _ _
      · rw [upd_ne _ _ hkj]; exact he k hk (by simpa [hkj] using hkd)
    have hI := ih _ _ hg he'
    obtain rfl | rfl | rfl | rfl | rfl | rfl | rfl | rfl : j = 0 ∨ j = 1 ∨ j = 2 ∨ j = 3 ∨ j = 4 ∨ j = 5 ∨ j = 6 ∨ j = 7 := by omega
    · simp only [upd, Nat.reduceEqDiff, if_true, if_false, ↓reduceIte, reduceCtorEq] at hI
      simp only [List.cons_append]
      simp only [ops10, LL10, findLoop39, body10, s0', s1', Try.f10, Option.getD_some] at hI ⊢
      refine Gets.val 0 rfl rfl (by k_ne) fun w₂ r => ⟨v 0, w₂, by simp [go_sem, execOp, Act.eval, e0], by simp [go_sem, execOp, Act.eval, e0], ?_⟩
      walk_nrm
      exact hI _ (at_rl hF r)
    · simp only [upd, Nat.reduceEqDiff, if_true, if_false, ↓reduceIte, reduceCtorEq] at hI
      simp only [List.cons_append]
      simp only [ops10, LL10, findLoop39, body10, s0', s1', Try.f10, Option.getD_some] at hI ⊢
      refine Gets.val 0 rfl rfl (by k_ne) fun w₂ r => ⟨v 1, w₂, by simp [go_sem, execOp, Act.eval, e1], by simp [go_sem, execOp, Act.eval, e1], ?_⟩
      walk_nrm
      exact hI _ (at_rl hF r)
    · simp only [upd, Nat.reduceEqDiff, if_true, if_false, ↓reduceIte, reduceCtorEq] at hI
      simp only [List.cons_append]
      simp only [ops10, LL10, findLoop39, body10, s0', s1', Try.f10, Option.getD_some] at hI ⊢
      simp only [depE, List.all_cons, List.all_nil, Bool.and_true, Bool.and_eq_true] at hd
      have d3 := (he 0 (by omega) hd.1).trans e0
      have d4 := (he 1 (by omega) hd.2).trans e1
      rw [d3, d4] at hI ⊢
      refine Gets.val 0 rfl rfl (by k_ne) fun w₂ r => ⟨v 2, w₂, by simp [go_sem, execOp, Act.eval, e2, hi], by simp [go_sem, execOp, Act.eval, e2, hi], ?_⟩
      walk_nrm
      exact hI _ (at_rl hF r)
    · simp only [upd, Nat.reduceEqDiff, if_true, if_false, ↓reduceIte, reduceCtorEq] at hI
      simp only [List.cons_append]
      simp only [ops10, LL10, findLoop39, body10, s0', s1', Try.f10, Option.getD_some] at hI ⊢
      simp only [depE, List.all_cons, List.all_nil, Bool.and_true] at hd
      have d5 := (he 2 (by omega) hd).trans e2
      rw [d5] at hI ⊢
      refine Gets.val w.heap.size rfl rfl (by k_ne) fun w₂ r => ?_
      replace hF := at_rl hF r
      have hc : w₂.cell? (ad1.add i) = some (.int .i64 x) := by obtain ⟨dd, rfl⟩ := hF; exact h1
      refine ⟨v 3, w₂, by simp [go_sem, execOp, Act.eval, hc, e3], ?_, ?_⟩
      · intro ev hev; simp [go_sem, execOp, Act.eval, hc] at hev; subst hev; exact evL_plain _ _ (by rw [addB]; exact s1) (by rw [addB]; exact b1)
      walk_nrm
      exact hI _ hF
    · simp only [upd, Nat.reduceEqDiff, if_true, if_false, ↓reduceIte, reduceCtorEq] at hI
      simp only [List.cons_append]
      simp only [ops10, LL10, findLoop39, body10, s0', s1', Try.f10, Option.getD_some] at hI ⊢
      refine Gets.val 0 rfl rfl (by k_ne) fun w₂ r => ⟨v 4, w₂, by simp [go_sem, execOp, Act.eval, e4], by simp [go_sem, execOp, Act.eval, e4], ?_⟩
      walk_nrm
      exact hI _ (at_rl hF r)
    · simp only [upd, Nat.reduceEqDiff, if_true, if_false, ↓reduceIte, reduceCtorEq] at hI
      simp only [List.cons_append]
      simp only [ops10, LL10, findLoop39, body10, s0', s1', Try.f10, Option.getD_some] at hI ⊢
      refine Gets.val 0 rfl rfl (by k_ne) fun w₂ r => ⟨v 5, w₂, by simp [go_sem, execOp, Act.eval, e5], by simp [go_sem, execOp, Act.eval, e5], ?_⟩
      walk_nrm
      exact hI _ (at_rl hF r)
    · simp only [upd, Nat.reduceEqDiff, if_true, if_false, ↓reduceIte, reduceCtorEq] at hI
      simp only [List.cons_append]
      simp only [ops10, LL10, findLoop39, body10, s0', s1', Try.f10, Option.getD_some] at hI ⊢
      simp only [depE, List.all_cons, List.all_nil, Bool.and_true, Bool.and_eq_true] at hd
      have d3 := (he 4 (by omega) hd.1).trans e4
      have d4 := (he 5 (by omega) hd.2).trans e5
      rw [d3, d4] at hI ⊢
      refine Gets.val 0 rfl rfl (by k_ne) fun w₂ r => ⟨v 6, w₂, by simp [go_sem, execOp, Act.eval, e6, hi], by simp [go_sem, execOp, Act.eval, e6, hi], ?_⟩
      walk_nrm
      exact hI _ (at_rl hF r)
    · simp only [upd, Nat.reduceEqDiff, if_true, if_false, ↓reduceIte, reduceCtorEq] at hI
      simp only [List.cons_append]
      simp only [ops10, LL10, findLoop39, body10, s0', s1', Try.f10, Option.getD_some] at hI ⊢
      simp only [depE, List.all_cons, List.all_nil, Bool.and_true] at hd
      have d5 := (he 6 (by omega) hd).trans e6
      rw [d5] at hI ⊢
      refine Gets.val w.heap.size rfl rfl (by k_ne) fun w₂ r => ?_
      replace hF := at_rl hF r
      have hc : w₂.cell? (ad2.add i) = some (.int .i64 x) := by obtain ⟨dd, rfl⟩ := hF; exact h2
      refine ⟨v 7, w₂, by simp [go_sem, execOp, Act.eval, hc, e7], ?_, ?_⟩
      · intro ev hev; simp [go_sem, execOp, Act.eval, hc] at hev; subst hev; exact evL_plain _ _ (by rw [addB]; exact s2) (by rw [addB]; exact b2)
      walk_nrm
      exact hI _ hF
noncomputable def ENDS10 : Code := s1' (s1' (s1' body10))
/-- AT Equal's LOOP HEAD. -/
def IsEq (a1 a2 : Option Addr) (n c1 c2 : Nat) (zi : Int) (b₀ : Frame) (a₀ : Act) (ops₀ : Array Oper) (i₀ : Nat) (rest₀ : List Nat) (k₀ : List Item) (cs : List Frame) (g : Goroutine) : Prop :=
  ∃ j2 j3 j4 j5 j6 j7 j8 j9 j10 j11 j14 j15 j16 j17 j18 j19 j20 j21 j22 j23 j24 j25 : Value, g = G ((base 10).at ⟨#[.slice a1 n c1, .slice a2 n c2, j2, j3, j4, j5, j6, j7, j8, j9, j10, j11, .int .i64 (n : Int), .int .i64 zi, j14, j15, j16, j17, j18, j19, j20, j21, j22, j23, j24, j25], []⟩ [.code LL10, .inLoop LL10, .inBlock 0, .code ENDS10]) (b₀.at a₀ (.inRegion ops₀ (i₀ :: rest₀) :: k₀) :: cs)
set_option maxRecDepth 100000 in
set_option maxHeartbeats 16000000 in
theorem eqLoop {w : World} {n c1 c2 : Nat} {a1 a2 : Option Addr} {f : Nat → Int} (hn : n < 17592186044416) (h1 : Ints S w a1 n f) (h2 : Ints S w a2 n f) (hQ : ∀ w₁, AtRel w w₁ → Gets (G (b₀.at (a₀.put ((ops₀[i₀]?).bind (·.dst)) (.bool true)) (.inRegion ops₀ rest₀ :: k₀)) cs) w₁ S Q) :
    ∀ r i, i + r = n → ∀ g, IsEq a1 a2 n c1 c2 (i : Int) b₀ a₀ ops₀ i₀ rest₀ k₀ cs g → ∀ w₁, AtRel w w₁ → Gets g w₁ S Q := by
  intro r
  induction r with
  | zero =>
    rintro i hi g ⟨j2, j3, j4, j5, j6, j7, j8, j9, j10, j11, j14, j15, j16, j17, j18, j19, j20, j21, j22, j23, j24, j25, rfl⟩ w₁ hF
    have hi' : ¬ i < n := by omega
    clear h1 h2
    refine Gets.silent 40 ?_
    simp only [LL10, ENDS10, body10, findLoop39, s0', s1', Try.f10, Option.getD_some]
    repeat w_go at_rl
    u_leave1 Try.func10 at_rl hF
    exact Goes.stop (fun w₁ r₁ => hQ _ (at_rl hF r₁))
  | succ r ih =>
    rintro i hi g ⟨j2, j3, j4, j5, j6, j7, j8, j9, j10, j11, j14, j15, j16, j17, j18, j19, j20, j21, j22, j23, j24, j25, rfl⟩ w₁ hF
    have hi' : i < n := by omega
    obtain ⟨ad1, rfl, x1, x2, x3⟩ := h1 i hi'
    obtain ⟨ad2, rfl, y1, y2, y3⟩ := h2 i hi'
    have hfin : ∀ j2 j3 j4 j6 j7 j8 j9 j10 j11 j14 j15 j24 j25 w₁, AtRel w w₁ → Gets (G ((base 10).at ⟨#[.slice (some ad1) n c1, .slice (some ad2) n c2, j2, j3, j4, .int .i64 (i : Int), j6, j7, j8, j9, j10, j11, .int .i64 (n : Int), .int .i64 (i : Int), j14, j15, (((fun | 0 => .slice (some ad1) n c1 | 1 => .int .i64 (i : Int) | 2 => .pointer (some (ad1.add i)) | 3 => .int .i64 (f i) | 4 => .slice (some ad2) n c2 | 5 => .int .i64 (i : Int) | 6 => .pointer (some (ad2.add i)) | _ => .int .i64 (f i)) : Nat → Value) 0), (((fun | 0 => .slice (some ad1) n c1 | 1 => .int .i64 (i : Int) | 2 => .pointer (some (ad1.add i)) | 3 => .int .i64 (f i) | 4 => .slice (some ad2) n c2 | 5 => .int .i64 (i : Int) | 6 => .pointer (some (ad2.add i)) | _ => .int .i64 (f i)) : Nat → Value) 1), (((fun | 0 => .slice (some ad1) n c1 | 1 => .int .i64 (i : Int) | 2 => .pointer (some (ad1.add i)) | 3 => .int .i64 (f i) | 4 => .slice (some ad2) n c2 | 5 => .int .i64 (i : Int) | 6 => .pointer (some (ad2.add i)) | _ => .int .i64 (f i)) : Nat → Value) 2), (((fun | 0 => .slice (some ad1) n c1 | 1 => .int .i64 (i : Int) | 2 => .pointer (some (ad1.add i)) | 3 => .int .i64 (f i) | 4 => .slice (some ad2) n c2 | 5 => .int .i64 (i : Int) | 6 => .pointer (some (ad2.add i)) | _ => .int .i64 (f i)) : Nat → Value) 3), (((fun | 0 => .slice (some ad1) n c1 | 1 => .int .i64 (i : Int) | 2 => .pointer (some (ad1.add i)) | 3 => .int .i64 (f i) | 4 => .slice (some ad2) n c2 | 5 => .int .i64 (i : Int) | 6 => .pointer (some (ad2.add i)) | _ => .int .i64 (f i)) : Nat → Value) 4), (((fun | 0 => .slice (some ad1) n c1 | 1 => .int .i64 (i : Int) | 2 => .pointer (some (ad1.add i)) | 3 => .int .i64 (f i) | 4 => .slice (some ad2) n c2 | 5 => .int .i64 (i : Int) | 6 => .pointer (some (ad2.add i)) | _ => .int .i64 (f i)) : Nat → Value) 5), (((fun | 0 => .slice (some ad1) n c1 | 1 => .int .i64 (i : Int) | 2 => .pointer (some (ad1.add i)) | 3 => .int .i64 (f i) | 4 => .slice (some ad2) n c2 | 5 => .int .i64 (i : Int) | 6 => .pointer (some (ad2.add i)) | _ => .int .i64 (f i)) : Nat → Value) 6), (((fun | 0 => .slice (some ad1) n c1 | 1 => .int .i64 (i : Int) | 2 => .pointer (some (ad1.add i)) | 3 => .int .i64 (f i) | 4 => .slice (some ad2) n c2 | 5 => .int .i64 (i : Int) | 6 => .pointer (some (ad2.add i)) | _ => .int .i64 (f i)) : Nat → Value) 7), j24, j25], []⟩ (.inRegion ops10 [8] :: ITS6)) (b₀.at a₀ (.inRegion ops₀ (i₀ :: rest₀) :: k₀) :: cs)) w₁ S Q := by
      intro j2 j3 j4 j6 j7 j8 j9 j10 j11 j14 j15 j24 j25 w₁ hF
      have hI := ih (i + 1) (by omega)
      obtain ⟨zi', hz'⟩ : ∃ z : Int, Hide (((i + 1 : Nat) : Int) = z) := ⟨_, hide rfl⟩
      rw [show ((i + 1 : Nat) : Int) = zi' from hz'] at hI
      have e2 : IntKind.i64.wrap ((i : Int) + 1) = zi' := by
        have h1 : ((i + 1 : Nat) : Int) = zi' := hz'
        rw [IntKind.wrap_i64]; omega
      clear ih h1 h2 hQ hz' x1 x2 x3 y1 y2 y3 hi hi'
      generalize f i = fi
      generalize (i : Int) = zi at e2 ⊢
      refine Gets.silent 40 ?_
      simp only [ITS6, ops10, REST6, LL10, body10, findLoop39, s0', s1', Try.f10, Option.getD_some]
      repeat w_nl at_rl
      u_c stepG_inLoop at_rl hF
      exact Goes.stop (fun w₁ r₁ => hI _ ⟨_, _, _, _, _, _, _, _, _, _, _, _, _, _, _, _, _, _, _, _, _, _, rfl⟩ _ (at_rl hF r₁))
    clear ih hQ
    refine Gets.silent 40 ?_
    simp only [LL10, ENDS10, body10, findLoop39, s0', s1', Try.f10, Option.getD_some]
    repeat w_go at_rl
    refine Goes.stop (fun w₁ r₁ => ?_)
    replace hF := at_rl hF r₁
    clear r₁
    refine Gets.draw fun w₂ t r => ?_
    replace hF := at_rl hF r
    obtain ⟨L, hL, hg⟩ := sched10 t
    change Gets (G ((base 10).at _ (.inRegion ops10 (Region.schedule (Try.prog.follows .mixedOrders) ops10 t) :: ITS6)) _) _ _ _
    rw [hL]
    exact region10 (w := w) (n := n) (i := i) (v := (fun | 0 => .slice (some ad1) n c1 | 1 => .int .i64 (i : Int) | 2 => .pointer (some (ad1.add i)) | 3 => .int .i64 (f i) | 4 => .slice (some ad2) n c2 | 5 => .int .i64 (i : Int) | 6 => .pointer (some (ad2.add i)) | _ => .int .i64 (f i))) hi' x1 y1 x2 y2 x3 y3 rfl rfl rfl rfl rfl rfl rfl rfl rfl rfl (hfin _ _ _ _ _ _ _ _ _ _ _ _ _ ) L (fun _ => false) (fun j => if j = 0 then j16 else if j = 1 then j17 else if j = 2 then j18 else if j = 3 then j19 else if j = 4 then j20 else if j = 5 then j21 else if j = 6 then j22 else j23) hg (fun j _ h => by cases h) _ hF
set_option maxRecDepth 100000 in
set_option maxHeartbeats 16000000 in
/-- ████ slices.Equal, OF TWO THAT ARE EQUAL. ████ -/
theorem equalGets {w : World} {n c1 c2 : Nat} {a1 a2 : Option Addr} {f : Nat → Int} (hn : n < 17592186044416) (h1 : Ints S w a1 n f) (h2 : Ints S w a2 n f) (hQ : ∀ w₁, AtRel w w₁ → Gets (G (b₀.at (a₀.put ((ops₀[i₀]?).bind (·.dst)) (.bool true)) (.inRegion ops₀ rest₀ :: k₀)) cs) w₁ S Q) :
    Gets (G ((base 10).at ⟨#[.slice a1 n c1, .slice a2 n c2, undef, undef, undef, undef, undef, undef, undef, undef, undef, undef, undef, undef, undef, undef, undef, undef, undef, undef, undef, undef, undef, undef, undef, undef], []⟩ [.code body10]) (b₀.at a₀ (.inRegion ops₀ (i₀ :: rest₀) :: k₀) :: cs)) w S Q := by
  have hF : AtRel w w := atRel_refl _
  have hL := eqLoop (c1 := c1) (c2 := c2) (b₀ := b₀) (a₀ := a₀) (ops₀ := ops₀) (i₀ := i₀) (rest₀ := rest₀) (k₀ := k₀) (cs := cs) hn h1 h2 hQ n 0 (by omega)
  clear h1 h2 hQ
  refine Gets.silent 60 ?_
  simp only [body10, Try.f10, Option.getD_some]
  repeat w_bar at_rl
  u_c stepG_loop at_rl hF
  exact Goes.stop (fun w₁ r₁ => hL _ ⟨_, _, _, _, _, _, _, _, _, _, _, _, _, _, _, _, _, _, _, _, _, _, rfl⟩ _ (at_rl hF r₁))
end
end Go.Proofs.Ytpkiojchlficcaa.Crew
