/- The walks: the document's First and All; All. -/
import Derived.Test.YtpkiojchlficcaaWo
set_option linter.unusedSimpArgs false
namespace Go.Proofs.Ytpkiojchlficcaa.Crew
open Go Go.Conc Go.ConcN Go.RowKit Go.Conc.Lib Go.ConcR.Gen
open Go.ConcM (OsLater goes_pad goes_le)
open Go.ConcR (KK wgBlock WgAt stA smA rd wr mk DC0)
section
variable {S : Nat → Prop} {Q : Goroutine → World → (Nat → Prop) → Prop} {b₀ : Frame} {a₀ : Act} {ops₀ : Array Oper} {i₀ : Nat} {rest₀ : List Nat} {k₀ : List Item} {cs : List Frame}
noncomputable def body16 : Code := Try.f16.body.getD .skip
noncomputable def LL16 : Code := (findLoop39 body16).getD .skip
noncomputable def END16 : Code := (s1' (s1' body16))
theorem nm16 : (Try.f16.name == "runtime.NumGoroutine") = false := by kernel_rfl
def IsR16 (a : Option Addr) (n c : Nat) (kd zi : Int) (b₀ : Frame) (a₀ : Act) (ops₀ : Array Oper) (i₀ : Nat) (rest₀ : List Nat) (k₀ : List Item) (cs : List Frame) (g : Goroutine) : Prop :=
  ∃ j2 j3 j4 j6 j7 j8 j9 j10 j11 j12 j13 j14 j15 j16 j17 j18 : Value, g = G ((base 16).at ⟨#[.slice a n c, .int .u8 kd, j2, j3, j4, .int .i64 zi, j6, j7, j8, j9, j10, j11, j12, j13, j14, j15, j16, j17, j18], []⟩ [.code LL16, .inLoop LL16, .inBlock 0, .code END16]) (b₀.at a₀ (.inRegion ops₀ (i₀ :: rest₀) :: k₀) :: cs)
set_option maxRecDepth 100000 in
set_option maxHeartbeats 16000000 in
theorem refLoop16 {w : World} {n c : Nat} {a : Option Addr} {f : Nat → Int} {kd : Int} (hn : n < 17592186044416) (h1 : Ints S w a n f) (hQ : ∀ w₁, AtRel w w₁ → Gets (G (b₀.at (a₀.put ((ops₀[i₀]?).bind (·.dst)) (.int .i64 (firstZ (fun i => isZ kd (f i)) 0 n))) (.inRegion ops₀ rest₀ :: k₀)) cs) w₁ S Q) :
    ∀ r i, i + r = n → firstZ (fun i => isZ kd (f i)) i r = firstZ (fun i => isZ kd (f i)) 0 n → ∀ g, IsR16 a n c kd (i : Int) b₀ a₀ ops₀ i₀ rest₀ k₀ cs g → ∀ w₁, AtRel w w₁ → Gets g w₁ S Q := by
  intro r
  induction r with
  | zero =>
    rintro i hi hz g ⟨j2, j3, j4, j6, j7, j8, j9, j10, j11, j12, j13, j14, j15, j16, j17, j18, rfl⟩ w₁ hF
    have hi' : ¬ i < n := by omega
    rw [← hz] at hQ
    clear hz h1
    refine Gets.silent 40 ?_
    simp only [LL16, END16, body16, findLoop39, s0', s1', Try.f16, Option.getD_some]
    repeat w_go at_rl
    u_leave1 Try.func16 at_rl hF
    exact Goes.stop (fun w₁ r₁ => hQ _ (at_rl hF r₁))
  | succ r ih =>
    rintro i hi hz g ⟨j2, j3, j4, j6, j7, j8, j9, j10, j11, j12, j13, j14, j15, j16, j17, j18, rfl⟩ w₁ hF
    have hi' : i < n := by omega
    obtain ⟨ad, rfl, x1, x2, x3⟩ := h1 i hi'
    refine Gets.silent 40 ?_
    simp only [LL16, END16, body16, findLoop39, s0', s1', Try.f16, Option.getD_some]
    repeat w_go at_rl
    refine Goes.stop (fun w₁ r₁ => ?_)
    replace hF := at_rl hF r₁
    clear r₁
    refine Gets.val w.heap.size rfl rfl (by k_ne) fun w₂ r₂ => ?_
    replace hF := at_rl hF r₂
    have hc : w₂.cell? (ad.add i) = some (.int .i64 (f i)) := by obtain ⟨dd, rfl⟩ := hF; exact x1
    refine ⟨.int .i64 (f i), w₂, by simp [go_sem, execOp, Act.eval, hc], ?_, ?_⟩
    · intro ev hev; simp [go_sem, execOp, Act.eval, hc] at hev; subst hev; exact evL_plain _ _ (by rw [addB]; exact x3) (by rw [addB]; exact x2)
    clear hc r₂
    have hyc : (isZ kd (f i)) = true ∨ (isZ kd (f i)) = false := by cases (isZ kd (f i)) <;> simp
    rcases hyc with hyi | hyi
    · rw [show firstZ (fun i => isZ kd (f i)) i (r + 1) = (i : Int) from by simp only [firstZ, hyi, if_true]] at hz
      rw [← hz] at hQ
      skip
      skip
      clear hz ih h1 x1 x2 x3
      refine Gets.silent 200 ?_
      walk_nrm
      repeat w_go at_rl
      u_call Try.func34 nm34 Try.f34 at_rl hF
      refine goes_le (show 80 + 60 ≤ _ by omega) (is34 (R := AtRel) (F := fun w₁ => AtRel w w₁) at_rl (m := 80) kd (f i) (fun w₂ hF => ?_) _ hF)
      rw [hyi]
      walk_nrm
      repeat w_go at_rl
      u_leave1 Try.func16 at_rl hF
      exact Goes.stop (fun w₁ r₁ => hQ _ (at_rl hF r₁))
    · rw [show firstZ (fun i => isZ kd (f i)) i (r + 1) = firstZ (fun i => isZ kd (f i)) (i + 1) r from by simp only [firstZ, hyi, Bool.false_eq_true, if_false]] at hz
      have hI := ih (i + 1) (by omega) hz
      skip
      obtain ⟨zi', hz'⟩ : ∃ z : Int, Hide (((i + 1 : Nat) : Int) = z) := ⟨_, hide rfl⟩
      rw [show ((i + 1 : Nat) : Int) = zi' from hz'] at hI
      have e2 : IntKind.i64.wrap ((i : Int) + 1) = zi' := by
        have h1 : ((i + 1 : Nat) : Int) = zi' := hz'
        rw [IntKind.wrap_i64]; omega
      clear ih h1 hQ hz hz' x1 x2 x3 hi hi'
      generalize f i = fi at hyi ⊢
      generalize (i : Int) = zi at e2 ⊢
      refine Gets.silent 200 ?_
      walk_nrm
      repeat w_go at_rl
      u_call Try.func34 nm34 Try.f34 at_rl hF
      refine goes_le (show 80 + 60 ≤ _ by omega) (is34 (R := AtRel) (F := fun w₁ => AtRel w w₁) at_rl (m := 80) kd fi (fun w₂ hF => ?_) _ hF)
      rw [hyi]
      walk_nrm
      repeat w_nl at_rl
      u_c stepG_inLoop at_rl hF
      exact Goes.stop (fun w₁ r₁ => hI _ ⟨_, _, _, _, _, _, _, _, _, _, _, _, _, _, _, _, rfl⟩ _ (at_rl hF r₁))
set_option maxRecDepth 100000 in
set_option maxHeartbeats 16000000 in
/-- ████ THE DOCUMENT's First. ████ -/
theorem refFirst {w : World} {n c : Nat} {a : Option Addr} {f : Nat → Int} {kd : Int} (hn : n < 17592186044416) (h1 : Ints S w a n f) (hQ : ∀ w₁, AtRel w w₁ → Gets (G (b₀.at (a₀.put ((ops₀[i₀]?).bind (·.dst)) (.int .i64 (firstZ (fun i => isZ kd (f i)) 0 n))) (.inRegion ops₀ rest₀ :: k₀)) cs) w₁ S Q) :
    Gets (G ((base 16).at ⟨#[.slice a n c, .int .u8 kd, undef, undef, undef, undef, undef, undef, undef, undef, undef, undef, undef, undef, undef, undef, undef, undef, undef], []⟩ [.code body16]) (b₀.at a₀ (.inRegion ops₀ (i₀ :: rest₀) :: k₀) :: cs)) w S Q := by
  have hF : AtRel w w := atRel_refl _
  have hL := refLoop16 (c := c) (kd := kd) (b₀ := b₀) (a₀ := a₀) (ops₀ := ops₀) (i₀ := i₀) (rest₀ := rest₀) (k₀ := k₀) (cs := cs) hn h1 hQ n 0 (by omega) rfl
  clear h1 hQ
  refine Gets.silent 60 ?_
  simp only [body16, Try.f16, Option.getD_some]
  repeat w_bar at_rl
  u_c stepG_loop at_rl hF
  exact Goes.stop (fun w₁ r₁ => hL _ ⟨_, _, _, _, _, _, _, _, _, _, _, _, _, _, _, _, rfl⟩ _ (at_rl hF r₁))
noncomputable def body18 : Code := Try.f18.body.getD .skip
noncomputable def LL18 : Code := (findLoop39 body18).getD .skip
noncomputable def END18 : Code := (s1' (s1' body18))
theorem nm18 : (Try.f18.name == "runtime.NumGoroutine") = false := by kernel_rfl
def IsR18 (a : Option Addr) (n c : Nat) (kd zi : Int) (b₀ : Frame) (a₀ : Act) (ops₀ : Array Oper) (i₀ : Nat) (rest₀ : List Nat) (k₀ : List Item) (cs : List Frame) (g : Goroutine) : Prop :=
  ∃ j2 j3 j4 j6 j7 j8 j9 j10 j11 j12 j13 j14 j15 j16 j17 j18 : Value, g = G ((base 18).at ⟨#[.slice a n c, .int .u8 kd, j2, j3, j4, .int .i64 zi, j6, j7, j8, j9, j10, j11, j12, j13, j14, j15, j16, j17, j18], []⟩ [.code LL18, .inLoop LL18, .inBlock 0, .code END18]) (b₀.at a₀ (.inRegion ops₀ (i₀ :: rest₀) :: k₀) :: cs)
set_option maxRecDepth 100000 in
set_option maxHeartbeats 16000000 in
theorem refLoop18 {w : World} {n c : Nat} {a : Option Addr} {f : Nat → Int} {kd : Int} (hn : n < 17592186044416) (h1 : Ints S w a n f) (hQ : ∀ w₁, AtRel w w₁ → Gets (G (b₀.at (a₀.put ((ops₀[i₀]?).bind (·.dst)) (.bool (decide (firstZ (fun i => !isZ kd (f i)) 0 n < 0)))) (.inRegion ops₀ rest₀ :: k₀)) cs) w₁ S Q) :
    ∀ r i, i + r = n → firstZ (fun i => !isZ kd (f i)) i r = firstZ (fun i => !isZ kd (f i)) 0 n → ∀ g, IsR18 a n c kd (i : Int) b₀ a₀ ops₀ i₀ rest₀ k₀ cs g → ∀ w₁, AtRel w w₁ → Gets g w₁ S Q := by
  intro r
  induction r with
  | zero =>
    rintro i hi hz g ⟨j2, j3, j4, j6, j7, j8, j9, j10, j11, j12, j13, j14, j15, j16, j17, j18, rfl⟩ w₁ hF
    have hi' : ¬ i < n := by omega
    rw [← hz] at hQ
    clear hz h1
    refine Gets.silent 40 ?_
    simp only [LL18, END18, body18, findLoop39, s0', s1', Try.f18, Option.getD_some]
    repeat w_go at_rl
    u_leave1 Try.func18 at_rl hF
    exact Goes.stop (fun w₁ r₁ => hQ _ (at_rl hF r₁))
  | succ r ih =>
    rintro i hi hz g ⟨j2, j3, j4, j6, j7, j8, j9, j10, j11, j12, j13, j14, j15, j16, j17, j18, rfl⟩ w₁ hF
    have hi' : i < n := by omega
    obtain ⟨ad, rfl, x1, x2, x3⟩ := h1 i hi'
    refine Gets.silent 40 ?_
    simp only [LL18, END18, body18, findLoop39, s0', s1', Try.f18, Option.getD_some]
    repeat w_go at_rl
    refine Goes.stop (fun w₁ r₁ => ?_)
    replace hF := at_rl hF r₁
    clear r₁
    refine Gets.val w.heap.size rfl rfl (by k_ne) fun w₂ r₂ => ?_
    replace hF := at_rl hF r₂
    have hc : w₂.cell? (ad.add i) = some (.int .i64 (f i)) := by obtain ⟨dd, rfl⟩ := hF; exact x1
    refine ⟨.int .i64 (f i), w₂, by simp [go_sem, execOp, Act.eval, hc], ?_, ?_⟩
    · intro ev hev; simp [go_sem, execOp, Act.eval, hc] at hev; subst hev; exact evL_plain _ _ (by rw [addB]; exact x3) (by rw [addB]; exact x2)
    clear hc r₂
    have hyc : (!isZ kd (f i)) = true ∨ (!isZ kd (f i)) = false := by cases (!isZ kd (f i)) <;> simp
    rcases hyc with hyi | hyi
    · rw [show firstZ (fun i => !isZ kd (f i)) i (r + 1) = (i : Int) from by simp only [firstZ, hyi, if_true]] at hz
      rw [← hz] at hQ
      rw [show decide ((i : Int) < 0) = false from by rw [decide_eq_false_iff_not]; omega] at hQ
      replace hyi : isZ kd (f i) = false := by simpa using hyi
      clear hz ih h1 x1 x2 x3
      refine Gets.silent 200 ?_
      walk_nrm
      repeat w_go at_rl
      u_call Try.func34 nm34 Try.f34 at_rl hF
      refine goes_le (show 80 + 60 ≤ _ by omega) (is34 (R := AtRel) (F := fun w₁ => AtRel w w₁) at_rl (m := 80) kd (f i) (fun w₂ hF => ?_) _ hF)
      rw [hyi]
      walk_nrm
      repeat w_go at_rl
      u_leave1 Try.func18 at_rl hF
      exact Goes.stop (fun w₁ r₁ => hQ _ (at_rl hF r₁))
    · rw [show firstZ (fun i => !isZ kd (f i)) i (r + 1) = firstZ (fun i => !isZ kd (f i)) (i + 1) r from by simp only [firstZ, hyi, Bool.false_eq_true, if_false]] at hz
      have hI := ih (i + 1) (by omega) hz
      replace hyi : isZ kd (f i) = true := by simpa using hyi
      obtain ⟨zi', hz'⟩ : ∃ z : Int, Hide (((i + 1 : Nat) : Int) = z) := ⟨_, hide rfl⟩
      rw [show ((i + 1 : Nat) : Int) = zi' from hz'] at hI
      have e2 : IntKind.i64.wrap ((i : Int) + 1) = zi' := by
        have h1 : ((i + 1 : Nat) : Int) = zi' := hz'
        rw [IntKind.wrap_i64]; omega
      clear ih h1 hQ hz hz' x1 x2 x3 hi hi'
      generalize f i = fi at hyi ⊢
      generalize (i : Int) = zi at e2 ⊢
      refine Gets.silent 200 ?_
      walk_nrm
      repeat w_go at_rl
      u_call Try.func34 nm34 Try.f34 at_rl hF
      refine goes_le (show 80 + 60 ≤ _ by omega) (is34 (R := AtRel) (F := fun w₁ => AtRel w w₁) at_rl (m := 80) kd fi (fun w₂ hF => ?_) _ hF)
      rw [hyi]
      walk_nrm
      repeat w_nl at_rl
      u_c stepG_inLoop at_rl hF
      exact Goes.stop (fun w₁ r₁ => hI _ ⟨_, _, _, _, _, _, _, _, _, _, _, _, _, _, _, _, rfl⟩ _ (at_rl hF r₁))
set_option maxRecDepth 100000 in
set_option maxHeartbeats 16000000 in
/-- ████ THE DOCUMENT's All. ████ -/
theorem refAll {w : World} {n c : Nat} {a : Option Addr} {f : Nat → Int} {kd : Int} (hn : n < 17592186044416) (h1 : Ints S w a n f) (hQ : ∀ w₁, AtRel w w₁ → Gets (G (b₀.at (a₀.put ((ops₀[i₀]?).bind (·.dst)) (.bool (decide (firstZ (fun i => !isZ kd (f i)) 0 n < 0)))) (.inRegion ops₀ rest₀ :: k₀)) cs) w₁ S Q) :
    Gets (G ((base 18).at ⟨#[.slice a n c, .int .u8 kd, undef, undef, undef, undef, undef, undef, undef, undef, undef, undef, undef, undef, undef, undef, undef, undef, undef], []⟩ [.code body18]) (b₀.at a₀ (.inRegion ops₀ (i₀ :: rest₀) :: k₀) :: cs)) w S Q := by
  have hF : AtRel w w := atRel_refl _
  have hL := refLoop18 (c := c) (kd := kd) (b₀ := b₀) (a₀ := a₀) (ops₀ := ops₀) (i₀ := i₀) (rest₀ := rest₀) (k₀ := k₀) (cs := cs) hn h1 hQ n 0 (by omega) rfl
  clear h1 hQ
  refine Gets.silent 60 ?_
  simp only [body18, Try.f18, Option.getD_some]
  repeat w_bar at_rl
  u_c stepG_loop at_rl hF
  exact Goes.stop (fun w₁ r₁ => hL _ ⟨_, _, _, _, _, _, _, _, _, _, _, _, _, _, _, _, rfl⟩ _ (at_rl hF r₁))
noncomputable def body17 : Code := Try.f17.body.getD .skip
set_option maxRecDepth 100000 in
set_option maxHeartbeats 16000000 in
/-- ████ All. ████ -/
theorem allGets {w : World} {n c : Nat} {a : Option Addr} {f : Nat → Int} {wk : Int} {fd : FuncId} {cap : Array Value} {p : Int → Bool} (hn : n < 17592186044416) (hS : ∀ b, S b → b < w.heap.size) (h1 : Ints S w a n f) (hM : Fun S w (.func (.func fd) #[] cap) (fun z => .bool (p z)))
    (h : ∀ w' S', Kept w S w' S' → Gets (G (b₀.at (a₀.put ((ops₀[i₀]?).bind (·.dst)) (.bool (decide (firstZ (fun i => !p (f i)) 0 n < 0)))) (.inRegion ops₀ rest₀ :: k₀)) cs) w' S' Q) :
    Gets (G ((base 17).at ⟨#[.slice a n c, .int .i64 wk, .func (.func fd) #[] cap, undef, undef, undef, undef, undef, undef, undef, undef, undef], []⟩ [.code body17]) (b₀.at a₀ (.inRegion ops₀ (i₀ :: rest₀) :: k₀) :: cs)) w S Q := by
  have hF : Grew w w [] := .refl w
  generalize hw : w = wx at hF h hS h1 hM ⊢
  subst hw
  refine Gets.silent 9 ?_
  simp only [body17, Try.f17, Option.getD_some]
  repeat w_go Grew.rely
  refine Goes.stop (fun w₁ r₁ => ?_)
  replace hF := hF.rely r₁
  clear r₁
  refine Gets.val 0 rfl rfl (by k_ne) fun w₁ r => ⟨.pointer (some ⟨w.heap.size, 0, Option.none⟩), w₁.alloc (.cells #[.func (.func fd) #[] cap] 31), by simp [go_sem, execOp, Act.eval, (hF.rely r).size], by simp [go_sem, execOp], ?_⟩
  replace hF := (hF.rely r).alloc (.cells #[.func (.func fd) #[] cap] 31)
  clear r
  refine Gets.silent 30 ?_
  walk_nrm
  repeat w_go Grew.rely
  u_call Try.func14 nm14 Try.f14 Grew.rely hF
  refine Goes.stop (fun w₁ r₁ => ?_)
  replace hF := hF.rely r₁
  clear r₁
  have hk := hF.kept S
  have hf : Fun S w₁ (.func (.func 35) #[] #[.pointer (some ⟨w.heap.size, 0, Option.none⟩)]) (fun z => .bool (!p z)) := fun C W hv hh =>
    maps35 (hv _ _ (hF.cell (k := 0) rfl 0) (by rw [hF.size]; simp) (fun hb => by have := hS _ hb; simp at this)) (hM.kept hk C W hv hh)
  refine enter14 hn (hk.bound hS) (h1.kept hk) hf fun w₇ S₇ hk' => ?_
  have hK := hk.trans hk'
  clear hk hk' hF hf h1 hM
  have hF := atRel_refl w₇
  refine Gets.silent 30 ?_
  walk_nrm
  repeat w_go at_rl
  u_leave1 Try.func17 at_rl hF
  exact Goes.stop (fun w₁ r₁ => h _ _ (hK.rely (at_rl hF r₁)))
end
end Go.Proofs.Ytpkiojchlficcaa.Crew
