/- The walks: Fold; the document's Fold. -/
import Derived.Test.YtpkiojchlficcaaWo
set_option linter.unusedSimpArgs false
namespace Go.Proofs.Ytpkiojchlficcaa.Crew
open Go Go.Conc Go.ConcN Go.RowKit Go.Conc.Lib Go.ConcR.Gen
open Go.ConcM (OsLater goes_pad goes_le)
open Go.ConcR (KK wgBlock WgAt stA smA rd wr mk DC0)
/-- What all are put together. -/
def foldZ (β : Int → Int → Int) (u : Nat → Int) : Nat → Int
  | 0 => 0
  | 1 => u 0
  | n + 2 => β (foldZ β u (n + 1)) (u (n + 1))
def accOk (β : Int → Int → Int) (u : Nat → Int) (i : Nat) (acc : Int) : Prop := acc = foldZ β u i
/-- A FUNCTION OF TWO NUMBERS, silent, that captures nothing. -/
def Bin (fb : FuncId) (β : Int → Int → Int) : Prop := ∃ (fn : Func) (c : Code), Try.prog.funcs[fb]? = some fn ∧ (fn.name == "runtime.NumGoroutine") = false ∧ fn.body = some c ∧
  ∀ (x y : Int) (b₀ : Frame) (a₀ : Act) (ops₀ : Array Oper) (i₀ : Nat) (rest₀ : List Nat) (k₀ : List Item) (cs : List Frame) (F : World → Prop) (Stop : Goroutine → World → Prop) (m : Nat), (∀ {w w₁}, F w → AtRel w w₁ → F w₁) →
    (∀ w, F w → Goes Try.prog true AtRel DC0 Stop m (G (b₀.at (a₀.put ((ops₀[i₀]?).bind (·.dst)) (.int .i64 (β x y))) (.inRegion ops₀ rest₀ :: k₀)) cs) w) → ∀ w, F w → Goes Try.prog true AtRel DC0 Stop (m + 60) (G ((base fb).at ⟨#[.int .i64 x, .int .i64 y] ++ #[] ++ Array.replicate (fn.ntmps - (#[Value.int .i64 x, .int .i64 y] ++ #[]).size) undef, []⟩ [.code c]) (b₀.at a₀ (.inRegion ops₀ (i₀ :: rest₀) :: k₀) :: cs)) w
section
variable {S : Nat → Prop} {Q : Goroutine → World → (Nat → Prop) → Prop} {b₀ : Frame} {a₀ : Act} {ops₀ : Array Oper} {i₀ : Nat} {rest₀ : List Nat} {k₀ : List Item} {cs : List Frame}
theorem nm36 : (Try.f36.name == "runtime.NumGoroutine") = false := by kernel_rfl
noncomputable def body19 : Code := Try.f19.body.getD .skip
noncomputable def LL19 : Code := (findLoop39 body19).getD .skip
noncomputable def END19 : Code := (s1' (s1' (s1' body19)))
theorem nm19 : (Try.f19.name == "runtime.NumGoroutine") = false := by kernel_rfl
def IsF19 (a : Option Addr) (n c g fb : Nat) (acc zi : Int) (b₀ : Frame) (a₀ : Act) (ops₀ : Array Oper) (i₀ : Nat) (rest₀ : List Nat) (k₀ : List Item) (cs : List Frame) (gg : Goroutine) : Prop :=
  ∃ j1 j2 j4 j5 j6 j7 j8 j9 j11 j12 j13 j14 j15 j19 j20 j21 j22 j23 j24 j25 j26 j27 j28 j29 j30 j31 j32 j33 j34 : Value, gg = G ((base 19).at ⟨#[.slice a n c, j1, j2, .func (.func fb) #[] #[], j4, j5, j6, j7, j8, j9, .int .i64 acc, j11, j12, j13, j14, j15, .slice (some ⟨g, 0, Option.none⟩) n n, .int .i64 (n : Int), .int .i64 zi, j19, j20, j21, j22, j23, j24, j25, j26, j27, j28, j29, j30, j31, j32, j33, j34], []⟩ [.code LL19, .inLoop LL19, .inBlock 0, .code END19]) (b₀.at a₀ (.inRegion ops₀ (i₀ :: rest₀) :: k₀) :: cs)
set_option maxRecDepth 100000 in
set_option maxHeartbeats 16000000 in
theorem foldLoop19 {w : World} {n c g fb : Nat} {a : Option Addr} {u : Nat → Int} {β : Int → Int → Int} (hn : n < 17592186044416) (hg : g < w.heap.size) (hgS : ¬ S g) (h1 : ∀ i, i < n → w.cell? ⟨g, i, Option.none⟩ = some (.int .i64 (u i))) (hβ : Bin fb β) (hQ : ∀ w₁, AtRel w w₁ → Gets (G (b₀.at (a₀.put ((ops₀[i₀]?).bind (·.dst)) (.tuple #[.int .i64 (foldZ β u n), .bool (decide (0 < n))])) (.inRegion ops₀ rest₀ :: k₀)) cs) w₁ S Q) :
    ∀ r i, i + r = n → ∀ acc, accOk β u i acc → ∀ gg, IsF19 a n c g fb acc (i : Int) b₀ a₀ ops₀ i₀ rest₀ k₀ cs gg → ∀ w₁, AtRel w w₁ → Gets gg w₁ S Q := by
  intro r
  induction r with
  | zero =>
    rintro i hi acc hacc gg ⟨j1, j2, j4, j5, j6, j7, j8, j9, j11, j12, j13, j14, j15, j19, j20, j21, j22, j23, j24, j25, j26, j27, j28, j29, j30, j31, j32, j33, j34, rfl⟩ w₁ hF
    have hi' : ¬ i < n := by omega
    obtain rfl : i = n := by omega
    rw [show acc = foldZ β u i from hacc] at *
    clear h1 hi hacc hβ
    refine Gets.silent 60 ?_
    simp only [LL19, END19, body19, findLoop39, s0', s1', Try.f19, Option.getD_some]
    repeat w_go at_rl
    u_in at_rl hF
    refine goes_leave2 rfl rfl Try.func19 rfl ⟨by u_nil, ?_⟩
    walk_nrm
    exact Goes.stop (fun w₁ r₁ => hQ _ (at_rl hF r₁))
  | succ r ih =>
    rintro i hi acc hacc gg ⟨j1, j2, j4, j5, j6, j7, j8, j9, j11, j12, j13, j14, j15, j19, j20, j21, j22, j23, j24, j25, j26, j27, j28, j29, j30, j31, j32, j33, j34, rfl⟩ w₁ hF
    have hi' : i < n := by omega
    have x1 := h1 i hi'
    refine Gets.silent 40 ?_
    simp only [LL19, END19, body19, findLoop39, s0', s1', Try.f19, Option.getD_some]
    repeat w_go at_rl
    refine Goes.stop (fun w₁ r₁ => ?_)
    replace hF := at_rl hF r₁
    clear r₁
    refine Gets.val w.heap.size rfl rfl (by k_ne) fun w₂ r₂ => ?_
    replace hF := at_rl hF r₂
    have hc : w₂.cell? ⟨g, i, Option.none⟩ = some (.int .i64 (u i)) := by obtain ⟨dd, rfl⟩ := hF; exact x1
    refine ⟨.int .i64 (u i), w₂, by simp [go_sem, execOp, Act.eval, hc], ?_, ?_⟩
    · intro ev hev; simp [go_sem, execOp, Act.eval, hc] at hev; subst hev; exact evL_plain _ _ hgS hg
    clear hc r₂
    obtain ⟨zi', hz'⟩ : ∃ z : Int, Hide (((i + 1 : Nat) : Int) = z) := ⟨_, hide rfl⟩
    have hI := ih (i + 1) (by omega)
    rw [show ((i + 1 : Nat) : Int) = zi' from hz'] at hI
    have e2 : IntKind.i64.wrap ((i : Int) + 1) = zi' := by
      have h1 : ((i + 1 : Nat) : Int) = zi' := hz'
      rw [IntKind.wrap_i64]; omega
    rcases Nat.eq_zero_or_pos i with h0 | h0
    · have e0 : (((i : Nat) : Int) == 0) = true := by rw [beq_iff_eq]; omega
      have hI := hI (u i) (by subst h0; rfl)
      clear ih h1 hQ hz' x1 hi hi' hacc h0
      generalize u i = ui at hI ⊢
      generalize (i : Int) = zi at e2 e0 ⊢
      refine Gets.silent 60 ?_
      walk_nrm
      repeat w_nl at_rl
      u_c stepG_inLoop at_rl hF
      exact Goes.stop (fun w₁ r₁ => hI _ ⟨_, _, _, _, _, _, _, _, _, _, _, _, _, _, _, _, _, _, _, _, _, _, _, _, _, _, _, _, _, rfl⟩ _ (at_rl hF r₁))
    · have e0 : (((i : Nat) : Int) == 0) = false := by rw [beq_eq_false_iff_ne]; omega
      have hI := hI (β acc (u i)) (by
        obtain ⟨k, rfl⟩ : ∃ k, i = k + 1 := ⟨i - 1, by omega⟩
        rw [show acc = foldZ β u (k + 1) from hacc]; rfl)
      obtain ⟨fn, cb, b1, b2, b3, b4⟩ := hβ
      clear ih h1 hQ hz' x1 hi hi' hacc h0
      generalize u i = ui at hI ⊢
      generalize (i : Int) = zi at e2 e0 ⊢
      refine Gets.silent 160 ?_
      walk_nrm
      repeat w_go at_rl
      u_in at_rl hF
      refine goes_callv (x := .tmp 26) rfl rfl (by k_ne) rfl rfl b1 b2 b3 ⟨by u_nil, ?_⟩
      simp only [List.map_toArray, List.map_cons, List.map_nil, Act.eval, Array.getD_eq_getD_getElem?, List.getElem?_toArray, List.getElem?_cons_succ, List.getElem?_cons_zero, Option.getD_some]
      refine goes_le (show 40 + 60 ≤ _ by omega) (b4 acc ui _ _ _ _ _ _ _ (fun w₁ => AtRel w w₁) _ 40 at_rl (fun w₂ hF => ?_) _ hF)
      walk_nrm
      repeat w_nl at_rl
      u_c stepG_inLoop at_rl hF
      exact Goes.stop (fun w₁ r₁ => hI _ ⟨_, _, _, _, _, _, _, _, _, _, _, _, _, _, _, _, _, _, _, _, _, _, _, _, _, _, _, _, _, rfl⟩ _ (at_rl hF r₁))
set_option maxRecDepth 100000 in
set_option maxHeartbeats 16000000 in
/-- ████ Fold. ████ -/
theorem foldGets19 {w : World} {n c fb : Nat} {a : Option Addr} {f : Nat → Int} {wk : Int} {fd : FuncId} {cap : Array Value} {φ : Int → Int} {β : Int → Int → Int} (hn : n < 17592186044416) (hS : ∀ b, S b → b < w.heap.size) (h1 : Ints S w a n f) (hM : Fun S w (.func (.func fd) #[] cap) (fun z => .int .i64 (φ z))) (hβ : Bin fb β)
    (h : ∀ w' S', Kept w S w' S' → Gets (G (b₀.at (a₀.put ((ops₀[i₀]?).bind (·.dst)) (.tuple #[.int .i64 (foldZ β (fun i => φ (f i)) n), .bool (decide (0 < n))])) (.inRegion ops₀ rest₀ :: k₀)) cs) w' S' Q) :
    Gets (G ((base 19).at ⟨#[.slice a n c, .int .i64 wk, .func (.func fd) #[] cap, .func (.func fb) #[] #[], undef, undef, undef, undef, undef, undef, undef, undef, undef, undef, undef, undef, undef, undef, undef, undef, undef, undef, undef, undef, undef, undef, undef, undef, undef, undef, undef, undef, undef, undef, undef], []⟩ [.code body19]) (b₀.at a₀ (.inRegion ops₀ (i₀ :: rest₀) :: k₀) :: cs)) w S Q := by
  have hF : AtRel w w := atRel_refl _
  refine Gets.silent 40 ?_
  simp only [body19, Try.f19, Option.getD_some]
  repeat w_go at_rl
  u_call Try.func11 nm11 Try.f11 at_rl hF
  refine Goes.stop (fun w₁ r₁ => ?_)
  replace hF := at_rl hF r₁
  clear r₁
  have hK : Kept w S w₁ S := (Kept.refl w S).rely hF
  refine enter11 (n := n) hn (hK.bound hS) (h1.rely hF) (hM.rely hF) fun w₅ S₅ hk hlt hnS hc => ?_
  replace hK := hK.trans hk
  clear hk hF
  have hL := foldLoop19 (S := S₅) (a := a) (c := c) (b₀ := b₀) (a₀ := a₀) (ops₀ := ops₀) (i₀ := i₀) (rest₀ := rest₀) (k₀ := k₀) (cs := cs) (Q := Q) hn hlt hnS hc hβ (fun w₆ r => h _ _ (hK.rely r)) n 0 (by omega) 0 rfl
  clear hc hnS hlt h h1 hM hβ
  generalize w₁.heap.size + 2 = g at hL ⊢
  have hF := atRel_refl w₅
  refine Gets.silent 40 ?_
  walk_nrm
  repeat w_bar at_rl
  u_c stepG_loop at_rl hF
  exact Goes.stop (fun w₁ r₁ => hL _ ⟨_, _, _, _, _, _, _, _, _, _, _, _, _, _, _, _, _, _, _, _, _, _, _, _, _, _, _, _, _, rfl⟩ _ (at_rl hF r₁))
noncomputable def body22 : Code := Try.f22.body.getD .skip
noncomputable def LL22 : Code := (findLoop39 body22).getD .skip
noncomputable def END22 : Code := (s1' (s1' (s1' body22)))
theorem nm22 : (Try.f22.name == "runtime.NumGoroutine") = false := by kernel_rfl
def IsF22 (a : Option Addr) (n c g fb : Nat) (acc zi : Int) (b₀ : Frame) (a₀ : Act) (ops₀ : Array Oper) (i₀ : Nat) (rest₀ : List Nat) (k₀ : List Item) (cs : List Frame) (gg : Goroutine) : Prop :=
  ∃ j1 j2 j4 j5 j6 j7 j8 j9 j11 j12 j13 j14 j15 j19 j20 j21 j22 j23 j24 j25 j26 j27 j28 j29 j30 j31 j32 j33 j34 : Value, gg = G ((base 22).at ⟨#[.slice a n c, j1, j2, .func (.func fb) #[] #[], j4, j5, j6, j7, j8, j9, .int .i64 acc, j11, j12, j13, j14, j15, .slice (some ⟨g, 0, Option.none⟩) n n, .int .i64 (n : Int), .int .i64 zi, j19, j20, j21, j22, j23, j24, j25, j26, j27, j28, j29, j30, j31, j32, j33, j34], []⟩ [.code LL22, .inLoop LL22, .inBlock 0, .code END22]) (b₀.at a₀ (.inRegion ops₀ (i₀ :: rest₀) :: k₀) :: cs)
set_option maxRecDepth 100000 in
set_option maxHeartbeats 16000000 in
theorem foldLoop22 {w : World} {n c g fb : Nat} {a : Option Addr} {u : Nat → Int} {β : Int → Int → Int} (hn : n < 17592186044416) (hg : g < w.heap.size) (hgS : ¬ S g) (h1 : ∀ i, i < n → w.cell? ⟨g, i, Option.none⟩ = some (.int .i64 (u i))) (hβ : Bin fb β) (hQ : ∀ w₁, AtRel w w₁ → Gets (G (b₀.at (a₀.put ((ops₀[i₀]?).bind (·.dst)) (.tuple #[.int .i64 (foldZ β u n), .bool (decide (0 < n))])) (.inRegion ops₀ rest₀ :: k₀)) cs) w₁ S Q) :
    ∀ r i, i + r = n → ∀ acc, accOk β u i acc → ∀ gg, IsF22 a n c g fb acc (i : Int) b₀ a₀ ops₀ i₀ rest₀ k₀ cs gg → ∀ w₁, AtRel w w₁ → Gets gg w₁ S Q := by
  intro r
  induction r with
  | zero =>
    rintro i hi acc hacc gg ⟨j1, j2, j4, j5, j6, j7, j8, j9, j11, j12, j13, j14, j15, j19, j20, j21, j22, j23, j24, j25, j26, j27, j28, j29, j30, j31, j32, j33, j34, rfl⟩ w₁ hF
    have hi' : ¬ i < n := by omega
    obtain rfl : i = n := by omega
    rw [show acc = foldZ β u i from hacc] at *
    clear h1 hi hacc hβ
    refine Gets.silent 60 ?_
    simp only [LL22, END22, body22, findLoop39, s0', s1', Try.f22, Option.getD_some]
    repeat w_go at_rl
    u_in at_rl hF
    refine goes_leave2 rfl rfl Try.func22 rfl ⟨by u_nil, ?_⟩
    walk_nrm
    exact Goes.stop (fun w₁ r₁ => hQ _ (at_rl hF r₁))
  | succ r ih =>
    rintro i hi acc hacc gg ⟨j1, j2, j4, j5, j6, j7, j8, j9, j11, j12, j13, j14, j15, j19, j20, j21, j22, j23, j24, j25, j26, j27, j28, j29, j30, j31, j32, j33, j34, rfl⟩ w₁ hF
    have hi' : i < n := by omega
    have x1 := h1 i hi'
    refine Gets.silent 40 ?_
    simp only [LL22, END22, body22, findLoop39, s0', s1', Try.f22, Option.getD_some]
    repeat w_go at_rl
    refine Goes.stop (fun w₁ r₁ => ?_)
    replace hF := at_rl hF r₁
    clear r₁
    refine Gets.val w.heap.size rfl rfl (by k_ne) fun w₂ r₂ => ?_
    replace hF := at_rl hF r₂
    have hc : w₂.cell? ⟨g, i, Option.none⟩ = some (.int .i64 (u i)) := by obtain ⟨dd, rfl⟩ := hF; exact x1
    refine ⟨.int .i64 (u i), w₂, by simp [go_sem, execOp, Act.eval, hc], ?_, ?_⟩
    · intro ev hev; simp [go_sem, execOp, Act.eval, hc] at hev; subst hev; exact evL_plain _ _ hgS hg
    clear hc r₂
    obtain ⟨zi', hz'⟩ : ∃ z : Int, Hide (((i + 1 : Nat) : Int) = z) := ⟨_, hide rfl⟩
    have hI := ih (i + 1) (by omega)
    rw [show ((i + 1 : Nat) : Int) = zi' from hz'] at hI
    have e2 : IntKind.i64.wrap ((i : Int) + 1) = zi' := by
      have h1 : ((i + 1 : Nat) : Int) = zi' := hz'
      rw [IntKind.wrap_i64]; omega
    rcases Nat.eq_zero_or_pos i with h0 | h0
    · have e0 : (((i : Nat) : Int) == 0) = true := by rw [beq_iff_eq]; omega
      have hI := hI (u i) (by subst h0; rfl)
      clear ih h1 hQ hz' x1 hi hi' hacc h0
      generalize u i = ui at hI ⊢
      generalize (i : Int) = zi at e2 e0 ⊢
      refine Gets.silent 60 ?_
      walk_nrm
      repeat w_nl at_rl
      u_c stepG_inLoop at_rl hF
      exact Goes.stop (fun w₁ r₁ => hI _ ⟨_, _, _, _, _, _, _, _, _, _, _, _, _, _, _, _, _, _, _, _, _, _, _, _, _, _, _, _, _, rfl⟩ _ (at_rl hF r₁))
    · have e0 : (((i : Nat) : Int) == 0) = false := by rw [beq_eq_false_iff_ne]; omega
      have hI := hI (β acc (u i)) (by
        obtain ⟨k, rfl⟩ : ∃ k, i = k + 1 := ⟨i - 1, by omega⟩
        rw [show acc = foldZ β u (k + 1) from hacc]; rfl)
      obtain ⟨fn, cb, b1, b2, b3, b4⟩ := hβ
      clear ih h1 hQ hz' x1 hi hi' hacc h0
      generalize u i = ui at hI ⊢
      generalize (i : Int) = zi at e2 e0 ⊢
      refine Gets.silent 160 ?_
      walk_nrm
      repeat w_go at_rl
      u_in at_rl hF
      refine goes_callv (x := .tmp 26) rfl rfl (by k_ne) rfl rfl b1 b2 b3 ⟨by u_nil, ?_⟩
      simp only [List.map_toArray, List.map_cons, List.map_nil, Act.eval, Array.getD_eq_getD_getElem?, List.getElem?_toArray, List.getElem?_cons_succ, List.getElem?_cons_zero, Option.getD_some]
      refine goes_le (show 40 + 60 ≤ _ by omega) (b4 acc ui _ _ _ _ _ _ _ (fun w₁ => AtRel w w₁) _ 40 at_rl (fun w₂ hF => ?_) _ hF)
      walk_nrm
      repeat w_nl at_rl
      u_c stepG_inLoop at_rl hF
      exact Goes.stop (fun w₁ r₁ => hI _ ⟨_, _, _, _, _, _, _, _, _, _, _, _, _, _, _, _, _, _, _, _, _, _, _, _, _, _, _, _, _, rfl⟩ _ (at_rl hF r₁))
set_option maxRecDepth 100000 in
set_option maxHeartbeats 16000000 in
/-- ████ Fold. ████ -/
theorem foldGets22 {w : World} {n c fb : Nat} {a : Option Addr} {f : Nat → Int} {wk : Int} {fd : FuncId} {cap : Array Value} {φ : Int → Int} {β : Int → Int → Int} (hn : n < 17592186044416) (hS : ∀ b, S b → b < w.heap.size) (h1 : Ints S w a n f) (hM : Fun S w (.func (.func fd) #[] cap) (fun z => .int .i64 (φ z))) (hβ : Bin fb β)
    (h : ∀ w' S', Kept w S w' S' → Gets (G (b₀.at (a₀.put ((ops₀[i₀]?).bind (·.dst)) (.tuple #[.int .i64 (foldZ β (fun i => φ (f i)) n), .bool (decide (0 < n))])) (.inRegion ops₀ rest₀ :: k₀)) cs) w' S' Q) :
    Gets (G ((base 22).at ⟨#[.slice a n c, .int .i64 wk, .func (.func fd) #[] cap, .func (.func fb) #[] #[], undef, undef, undef, undef, undef, undef, undef, undef, undef, undef, undef, undef, undef, undef, undef, undef, undef, undef, undef, undef, undef, undef, undef, undef, undef, undef, undef, undef, undef, undef, undef], []⟩ [.code body22]) (b₀.at a₀ (.inRegion ops₀ (i₀ :: rest₀) :: k₀) :: cs)) w S Q := by
  have hF : AtRel w w := atRel_refl _
  refine Gets.silent 40 ?_
  simp only [body22, Try.f22, Option.getD_some]
  repeat w_go at_rl
  u_call Try.func36 nm36 Try.f36 at_rl hF
  refine Goes.stop (fun w₁ r₁ => ?_)
  replace hF := at_rl hF r₁
  clear r₁
  have hK : Kept w S w₁ S := (Kept.refl w S).rely hF
  refine enter36 (n := n) hn (hK.bound hS) (h1.rely hF) (hM.rely hF) fun w₅ S₅ hk hlt hnS hc => ?_
  replace hK := hK.trans hk
  clear hk hF
  have hL := foldLoop22 (S := S₅) (a := a) (c := c) (b₀ := b₀) (a₀ := a₀) (ops₀ := ops₀) (i₀ := i₀) (rest₀ := rest₀) (k₀ := k₀) (cs := cs) (Q := Q) hn hlt hnS hc hβ (fun w₆ r => h _ _ (hK.rely r)) n 0 (by omega) 0 rfl
  clear hc hnS hlt h h1 hM hβ
  generalize w₁.heap.size + 2 = g at hL ⊢
  have hF := atRel_refl w₅
  refine Gets.silent 40 ?_
  walk_nrm
  repeat w_bar at_rl
  u_c stepG_loop at_rl hF
  exact Goes.stop (fun w₁ r₁ => hL _ ⟨_, _, _, _, _, _, _, _, _, _, _, _, _, _, _, _, _, _, _, _, _, _, _, _, _, _, _, _, _, rfl⟩ _ (at_rl hF r₁))
noncomputable def body21 : Code := Try.f21.body.getD .skip
noncomputable def LL21 : Code := (findLoop39 body21).getD .skip
noncomputable def END21 : Code := (s1' (s1' (s1' (s1' body21))))
theorem nm21 : (Try.f21.name == "runtime.NumGoroutine") = false := by kernel_rfl
def IsF21 (a : Option Addr) (n c : Nat) (kd acc zi : Int) (b₀ : Frame) (a₀ : Act) (ops₀ : Array Oper) (i₀ : Nat) (rest₀ : List Nat) (k₀ : List Item) (cs : List Frame) (gg : Goroutine) : Prop :=
  ∃ j2 j3 j4 j5 j8 j9 j10 j11 j12 j13 j14 j15 j16 j17 j18 j19 j20 j21 j22 j23 j24 j25 j26 j27 j28 j29 j30 : Value, gg = G ((base 21).at ⟨#[.slice a n c, .int .u8 kd, j2, j3, j4, j5, .int .i64 acc, .int .i64 zi, j8, j9, j10, j11, j12, j13, j14, j15, j16, j17, j18, j19, j20, j21, j22, j23, j24, j25, j26, j27, j28, j29, j30], []⟩ [.code LL21, .inLoop LL21, .inBlock 0, .code END21]) (b₀.at a₀ (.inRegion ops₀ (i₀ :: rest₀) :: k₀) :: cs)
set_option maxRecDepth 100000 in
set_option maxHeartbeats 16000000 in
theorem refFoldLoop {w : World} {n c : Nat} {a : Option Addr} {f : Nat → Int} {kd : Int} (hn : n < 17592186044416) (h1 : Ints S w a n f) (hQ : ∀ w₁, AtRel w w₁ → Gets (G (b₀.at (a₀.put ((ops₀[i₀]?).bind (·.dst)) (.tuple #[.int .i64 (foldZ bothZ (fun i => doesZ kd (f i)) n), .bool (decide (0 < n))])) (.inRegion ops₀ rest₀ :: k₀)) cs) w₁ S Q) :
    ∀ r i, 0 < i → i + r = n → ∀ acc, accOk bothZ (fun i => doesZ kd (f i)) i acc → ∀ gg, IsF21 a n c kd acc (i : Int) b₀ a₀ ops₀ i₀ rest₀ k₀ cs gg → ∀ w₁, AtRel w w₁ → Gets gg w₁ S Q := by
  intro r
  induction r with
  | zero =>
    rintro i hp hi acc hacc gg ⟨j2, j3, j4, j5, j8, j9, j10, j11, j12, j13, j14, j15, j16, j17, j18, j19, j20, j21, j22, j23, j24, j25, j26, j27, j28, j29, j30, rfl⟩ w₁ hF
    have hi' : ¬ i < n := by omega
    obtain rfl : i = n := by omega
    rw [show acc = foldZ bothZ (fun i => doesZ kd (f i)) i from hacc] at *
    rw [show decide (0 < i) = true from decide_eq_true hp] at hQ
    clear h1 hi hacc
    refine Gets.silent 60 ?_
    simp only [LL21, END21, body21, findLoop39, s0', s1', Try.f21, Option.getD_some]
    repeat w_go at_rl
    u_in at_rl hF
    refine goes_leave2 rfl rfl Try.func21 rfl ⟨by u_nil, ?_⟩
    walk_nrm
    exact Goes.stop (fun w₁ r₁ => hQ _ (at_rl hF r₁))
  | succ r ih =>
    rintro i hp hi acc hacc gg ⟨j2, j3, j4, j5, j8, j9, j10, j11, j12, j13, j14, j15, j16, j17, j18, j19, j20, j21, j22, j23, j24, j25, j26, j27, j28, j29, j30, rfl⟩ w₁ hF
    have hi' : i < n := by omega
    obtain ⟨ad, rfl, x1, x2, x3⟩ := h1 i hi'
    refine Gets.silent 40 ?_
    simp only [LL21, END21, body21, findLoop39, s0', s1', Try.f21, Option.getD_some]
    repeat w_go at_rl
    refine Goes.stop (fun w₁ r₁ => ?_)
    replace hF := at_rl hF r₁
    clear r₁
    refine Gets.val w.heap.size rfl rfl (by k_ne) fun w₂ r₂ => ?_
    replace hF := at_rl hF r₂
    have hc : w₂.cell? (ad.add i) = some (.int .i64 (f i)) := by obtain ⟨dd, rfl⟩ := hF; exact x1
    refine ⟨.int .i64 (f i), w₂, by simp [go_sem, execOp, Act.eval, hc], ?_, ?_⟩
    · intro ev hev; simp [go_sem, execOp, Act.eval, hc] at hev; subst hev; exact evL_plain _ _ (by rw [addB]; exact x3) (by rw [addB]; exact x2)
    clear hc r₂
    obtain ⟨zi', hz'⟩ : ∃ z : Int, Hide (((i + 1 : Nat) : Int) = z) := ⟨_, hide rfl⟩
    have hI := ih (i + 1) (by omega) (by omega)
    rw [show ((i + 1 : Nat) : Int) = zi' from hz'] at hI
    have e2 : IntKind.i64.wrap ((i : Int) + 1) = zi' := by
      have h1 : ((i + 1 : Nat) : Int) = zi' := hz'
      rw [IntKind.wrap_i64]; omega
    have hI := hI (bothZ acc (doesZ kd (f i))) (by
      obtain ⟨k, rfl⟩ : ∃ k, i = k + 1 := ⟨i - 1, by omega⟩
      rw [show acc = foldZ bothZ (fun i => doesZ kd (f i)) (k + 1) from hacc]; rfl)
    clear ih h1 hQ hz' x1 x2 x3 hi hi' hacc hp
    generalize f i = fi at hI ⊢
    generalize (i : Int) = zi at e2 ⊢
    refine Gets.silent 400 ?_
    walk_nrm
    repeat w_go at_rl
    u_call Try.func31 nm31 Try.f31 at_rl hF
    refine goes_le (show 250 + 60 ≤ _ by omega) (does31 (R := AtRel) (F := fun w₁ => AtRel w w₁) at_rl (m := 250) kd fi (fun w₂ hF => ?_) _ hF)
    generalize doesZ kd fi = di at hI ⊢
    walk_nrm
    repeat w_go at_rl
    u_call Try.func20 nm20 Try.f20 at_rl hF
    refine goes_le (show 100 + 60 ≤ _ by omega) (both20 (R := AtRel) (F := fun w₁ => AtRel w w₁) at_rl (m := 100) acc di (fun w₂ hF => ?_) _ hF)
    walk_nrm
    repeat w_nl at_rl
    u_c stepG_inLoop at_rl hF
    exact Goes.stop (fun w₁ r₁ => hI _ ⟨_, _, _, _, _, _, _, _, _, _, _, _, _, _, _, _, _, _, _, _, _, _, _, _, _, _, _, rfl⟩ _ (at_rl hF r₁))
set_option maxRecDepth 100000 in
set_option maxHeartbeats 16000000 in
/-- ████ THE DOCUMENT's Fold. ████ -/
theorem refFold {w : World} {n c : Nat} {a : Option Addr} {f : Nat → Int} {kd : Int} (hn : n < 17592186044416) (h1 : Ints S w a n f) (hQ : ∀ w₁, AtRel w w₁ → Gets (G (b₀.at (a₀.put ((ops₀[i₀]?).bind (·.dst)) (.tuple #[.int .i64 (foldZ bothZ (fun i => doesZ kd (f i)) n), .bool (decide (0 < n))])) (.inRegion ops₀ rest₀ :: k₀)) cs) w₁ S Q) :
    Gets (G ((base 21).at ⟨#[.slice a n c, .int .u8 kd, undef, undef, undef, undef, undef, undef, undef, undef, undef, undef, undef, undef, undef, undef, undef, undef, undef, undef, undef, undef, undef, undef, undef, undef, undef, undef, undef, undef, undef], []⟩ [.code body21]) (b₀.at a₀ (.inRegion ops₀ (i₀ :: rest₀) :: k₀) :: cs)) w S Q := by
  have hF : AtRel w w := atRel_refl _
  rcases Nat.eq_zero_or_pos n with h0 | h0
  · subst h0
    have e0 : (((0 : Nat) : Int) == 0) = true := rfl
    clear h1
    refine Gets.silent 60 ?_
    simp only [body21, Try.f21, Option.getD_some]
    repeat w_go at_rl
    u_in at_rl hF
    refine goes_leave2 rfl rfl Try.func21 rfl ⟨by u_nil, ?_⟩
    walk_nrm
    exact Goes.stop (fun w₁ r₁ => hQ _ (at_rl hF r₁))
  have hL := refFoldLoop (c := c) (kd := kd) (b₀ := b₀) (a₀ := a₀) (ops₀ := ops₀) (i₀ := i₀) (rest₀ := rest₀) (k₀ := k₀) (cs := cs) hn h1 hQ (n - 1) 1 (by omega) (by omega) (doesZ kd (f 0)) rfl
  obtain ⟨ad, rfl, x1, x2, x3⟩ := h1 0 h0
  have e0 : ((n : Int) == 0) = false := by rw [beq_eq_false_iff_ne]; omega
  clear h1 hQ
  refine Gets.silent 60 ?_
  simp only [body21, Try.f21, Option.getD_some]
  repeat w_go at_rl
  refine Goes.stop (fun w₁ r₁ => ?_)
  replace hF := at_rl hF r₁
  clear r₁
  have ea : ad.add 0 = ad := Addr.add_zero' ad
  rw [ea] at x1
  refine Gets.val w.heap.size rfl rfl (by k_ne) fun w₂ r₂ => ?_
  replace hF := at_rl hF r₂
  have hc : w₂.cell? ad = some (.int .i64 (f 0)) := by obtain ⟨dd, rfl⟩ := hF; exact x1
  refine ⟨.int .i64 (f 0), w₂, by simp [go_sem, execOp, Act.eval, hc], ?_, ?_⟩
  · intro ev hev; simp [go_sem, execOp, Act.eval, hc] at hev; subst hev; exact evL_plain _ _ x3 x2
  clear hc r₂ ea
  clear x1 x2 x3 h0 e0
  generalize f 0 = fi at hL ⊢
  refine Gets.silent 200 ?_
  walk_nrm
  repeat w_go at_rl
  u_call Try.func31 nm31 Try.f31 at_rl hF
  refine goes_le (show 80 + 60 ≤ _ by omega) (does31 (R := AtRel) (F := fun w₁ => AtRel w w₁) at_rl (m := 80) kd fi (fun w₂ hF => ?_) _ hF)
  generalize doesZ kd fi = di at hL ⊢
  walk_nrm
  repeat w_bar at_rl
  u_c stepG_loop at_rl hF
  exact Goes.stop (fun w₁ r₁ => hL _ ⟨_, _, _, _, _, _, _, _, _, _, _, _, _, _, _, _, _, _, _, _, _, _, _, _, _, _, _, rfl⟩ _ (at_rl hF r₁))
set_option maxRecDepth 100000 in
set_option maxHeartbeats 16000000 in
theorem bin20 : Bin 20 bothZ := by
  refine ⟨Try.f20, body20, Try.func20, nm20, by kernel_rfl, fun x y b₀ a₀ ops₀ i₀ rest₀ k₀ cs F Stop m rl hT w hF => ?_⟩
  exact both20 (R := AtRel) (F := F) rl (m := m) x y hT w hF
noncomputable def body24 : Code := Try.f24.body.getD .skip
theorem nm24 : (Try.f24.name == "runtime.NumGoroutine") = false := by kernel_rfl
set_option maxRecDepth 100000 in
set_option maxHeartbeats 16000000 in
theorem bin24 : Bin 24 (fun x y => IntKind.i64.wrap (x - y)) := by
  refine ⟨Try.f24, body24, Try.func24, nm24, by kernel_rfl, fun x y b₀ a₀ ops₀ i₀ rest₀ k₀ cs F Stop m rl hT w hF => ?_⟩
  simp only [body24, Try.f24, Option.getD_some]
  walk_nrm
  repeat w_go rl
  u_leave1 Try.func24 rl hF
  exact goes_pad (hT _ hF) _
noncomputable def body25 : Code := Try.f25.body.getD .skip
theorem nm25 : (Try.f25.name == "runtime.NumGoroutine") = false := by kernel_rfl
set_option maxRecDepth 100000 in
set_option maxHeartbeats 16000000 in
theorem bin25 : Bin 25 (fun x y => bits .xor .i64 (IntKind.i64.wrap (x * 5)) y) := by
  refine ⟨Try.f25, body25, Try.func25, nm25, by kernel_rfl, fun x y b₀ a₀ ops₀ i₀ rest₀ k₀ cs F Stop m rl hT w hF => ?_⟩
  simp only [body25, Try.f25, Option.getD_some]
  walk_nrm
  repeat w_go rl
  u_leave1 Try.func25 rl hF
  exact goes_pad (hT _ hF) _
noncomputable def body26 : Code := Try.f26.body.getD .skip
theorem nm26 : (Try.f26.name == "runtime.NumGoroutine") = false := by kernel_rfl
set_option maxRecDepth 100000 in
set_option maxHeartbeats 16000000 in
theorem bin26 : Bin 26 (fun x y => bits .xor .i64 (IntKind.i64.wrap (x * 5)) y) := by
  refine ⟨Try.f26, body26, Try.func26, nm26, by kernel_rfl, fun x y b₀ a₀ ops₀ i₀ rest₀ k₀ cs F Stop m rl hT w hF => ?_⟩
  simp only [body26, Try.f26, Option.getD_some]
  walk_nrm
  repeat w_go rl
  u_leave1 Try.func26 rl hF
  exact goes_pad (hT _ hF) _
end
end Go.Proofs.Ytpkiojchlficcaa.Crew
