/- The mutex's word, reckoned: what lockSlow's and unlockSlow's registers hold. -/
import Derived.Test.YtpkiojchlficcaaSpec
namespace Go.Proofs.Ytpkiojchlficcaa.Crew
open Go Go.Conc
theorem bz_le (b : Bool) : 0 ≤ bz b ∧ bz b ≤ 1 := by cases b <;> simp [bz]
theorem muZ_eq (l w s : Bool) (n : Nat) : muZ ⟨l, w, s, n⟩ = bz l + 2 * bz w + 4 * bz s + 8 * (n : Int) := rfl
theorem muZ_inj {m m' : Wd} (h : muZ m = muZ m') : m = m' := by
  obtain ⟨l, w, s, n⟩ := m
  obtain ⟨l', w', s', n'⟩ := m'
  simp only [muZ_eq] at h
  cases l <;> cases w <;> cases s <;> cases l' <;> cases w' <;> cases s' <;> simp [bz] at h ⊢ <;> omega
theorem muZ_lo (m : Wd) : 0 ≤ muZ m := by
  have := bz_le m.l; have := bz_le m.w; have := bz_le m.s
  simp only [muZ]; omega
theorem muZ_hi {m : Wd} (h : m.n ≤ 18) : muZ m ≤ 151 := by
  have := bz_le m.l; have := bz_le m.w; have := bz_le m.s
  simp only [muZ]; omega
theorem muZ_div (m : Wd) : muZ m / 8 = (m.n : Int) := by
  have := bz_le m.l; have := bz_le m.w; have := bz_le m.s
  simp only [muZ]; omega
/-- The expanded wrap of a small number. -/
theorem wr_small {z : Int} (h1 : -2147483648 ≤ z) (h2 : z ≤ 2147483647) : (z + 2147483648) % 4294967296 - 2147483648 = z := by omega
theorem wrap_small {z : Int} (h1 : -2147483648 ≤ z) (h2 : z ≤ 2147483647) : IntKind.i32.wrap z = z := by rw [IntKind.wrap_i32]; omega
section
variable {m : Wd}
theorem and1_all : ∀ (i : Fin 19) (l w s : Bool), bits .and .i32 (muZ ⟨l, w, s, i.1⟩) 1 = bz l := by decide
theorem and2_all : ∀ (i : Fin 19) (l w s : Bool), bits .and .i32 (muZ ⟨l, w, s, i.1⟩) 2 = 2 * bz w := by decide
theorem and3_all : ∀ (i : Fin 19) (l w s : Bool), bits .and .i32 (muZ ⟨l, w, s, i.1⟩) 3 = bz l + 2 * bz w := by decide
theorem and4_all : ∀ (i : Fin 19) (l w s : Bool), bits .and .i32 (muZ ⟨l, w, s, i.1⟩) 4 = 4 * bz s := by decide
theorem and5_all : ∀ (i : Fin 19) (l w s : Bool), bits .and .i32 (muZ ⟨l, w, s, i.1⟩) 5 = bz l + 4 * bz s := by decide
theorem and7_all : ∀ (i : Fin 19) (l w s : Bool), bits .and .i32 (muZ ⟨l, w, s, i.1⟩) 7 = bz l + 2 * bz w + 4 * bz s := by decide
theorem or1_all : ∀ (i : Fin 19) (l w s : Bool), bits .or .i32 (muZ ⟨l, w, s, i.1⟩) 1 = muZ ⟨true, w, s, i.1⟩ := by decide
theorem or2_all : ∀ (i : Fin 19) (l w s : Bool), bits .or .i32 (muZ ⟨l, w, s, i.1⟩) 2 = muZ ⟨l, true, s, i.1⟩ := by decide
theorem or4_all : ∀ (i : Fin 19) (l w s : Bool), bits .or .i32 (muZ ⟨l, w, s, i.1⟩) 4 = muZ ⟨l, w, true, i.1⟩ := by decide
theorem no2_all : ∀ (i : Fin 19) (l w s : Bool), bits .andNot .i32 (muZ ⟨l, w, s, i.1⟩) 2 = muZ ⟨l, false, s, i.1⟩ := by decide
theorem z_and1 (h : m.n ≤ 18) : bits .and .i32 (muZ m) 1 = bz m.l := and1_all ⟨m.n, by omega⟩ m.l m.w m.s
theorem z_and2 (h : m.n ≤ 18) : bits .and .i32 (muZ m) 2 = 2 * bz m.w := and2_all ⟨m.n, by omega⟩ m.l m.w m.s
theorem z_and3 (h : m.n ≤ 18) : bits .and .i32 (muZ m) 3 = bz m.l + 2 * bz m.w := and3_all ⟨m.n, by omega⟩ m.l m.w m.s
theorem z_and4 (h : m.n ≤ 18) : bits .and .i32 (muZ m) 4 = 4 * bz m.s := and4_all ⟨m.n, by omega⟩ m.l m.w m.s
theorem z_and5 (h : m.n ≤ 18) : bits .and .i32 (muZ m) 5 = bz m.l + 4 * bz m.s := and5_all ⟨m.n, by omega⟩ m.l m.w m.s
theorem z_and7 (h : m.n ≤ 18) : bits .and .i32 (muZ m) 7 = bz m.l + 2 * bz m.w + 4 * bz m.s := and7_all ⟨m.n, by omega⟩ m.l m.w m.s
theorem z_or1 (h : m.n ≤ 18) : bits .or .i32 (muZ m) 1 = muZ { m with l := true } := or1_all ⟨m.n, by omega⟩ m.l m.w m.s
theorem z_or2 (h : m.n ≤ 18) : bits .or .i32 (muZ m) 2 = muZ { m with w := true } := or2_all ⟨m.n, by omega⟩ m.l m.w m.s
theorem z_or4 (h : m.n ≤ 18) : bits .or .i32 (muZ m) 4 = muZ { m with s := true } := or4_all ⟨m.n, by omega⟩ m.l m.w m.s
theorem z_no2 (h : m.n ≤ 18) : bits .andNot .i32 (muZ m) 2 = muZ { m with w := false } := no2_all ⟨m.n, by omega⟩ m.l m.w m.s
theorem z_add8 (h : m.n ≤ 18) : (muZ m + 8 + 2147483648) % 4294967296 - 2147483648 = muZ { m with n := m.n + 1 } := by
  have := muZ_lo m; have := muZ_hi h
  rw [wr_small (by omega) (by omega)]; simp only [muZ]; omega
theorem z_sub8 (h : m.n ≤ 18) (h0 : m.n ≠ 0) : (muZ m - 8 + 2147483648) % 4294967296 - 2147483648 = muZ { m with n := m.n - 1 } := by
  have := muZ_lo m; have := muZ_hi h
  rw [wr_small (by omega) (by omega)]; simp only [muZ]; omega
theorem z_unl (h : m.n ≤ 18) (hl : m.l = true) : IntKind.i32.wrap (muZ m + -1) = muZ { m with l := false } := by
  have := muZ_lo m; have := muZ_hi h
  rw [wrap_small (by omega) (by omega)]; simp only [muZ, hl, bz, if_true]; simp; omega
/-- unlockSlow: the word was locked. -/
theorem z_was (h : m.n ≤ 18) (hl : m.l = false) : (bits .and .i32 ((muZ m + 1 + 2147483648) % 4294967296 - 2147483648) 1 == 0) = false := by
  have := muZ_lo m; have := muZ_hi h
  have e : muZ m + 1 = muZ { m with l := true } := by simp only [muZ, hl, bz]; simp; omega
  rw [wr_small (by omega) (by omega), e, z_and1 (m := { m with l := true }) h]; rfl
/-- The starving waiter takes the lock. -/
theorem z_take (h : m.n ≤ 18) (hl : m.l = false) (hs : m.s = true) (h0 : m.n ≠ 0) (b : Bool) : IntKind.i32.wrap (muZ m + (if b then -7 else -11)) = muZ { l := true, w := m.w, s := b, n := m.n - 1 } := by
  have := muZ_lo m; have := muZ_hi h
  have h1 : (8 : Int) ≤ muZ m := by simp only [muZ]; have := bz_le m.l; have := bz_le m.w; have := bz_le m.s; omega
  cases b <;> simp only [if_true, if_false, Bool.false_eq_true] <;> rw [wrap_small (by omega) (by omega)] <;> simp only [muZ, hl, hs, bz, if_true] <;> simp <;> omega
theorem y_and4e (h : m.n ≤ 18) : (bits .and .i32 (muZ m) 4 == 0) = !m.s := by rw [z_and4 h]; cases m.s <;> rfl
theorem y_and4n (h : m.n ≤ 18) : (bits .and .i32 (muZ m) 4 != 0) = m.s := by rw [z_and4 h]; cases m.s <;> rfl
theorem y_and5_1 (h : m.n ≤ 18) : (bits .and .i32 (muZ m) 5 == 1) = (m.l && !m.s) := by rw [z_and5 h]; cases m.l <;> cases m.s <;> rfl
theorem y_and5_0 (h : m.n ≤ 18) : (bits .and .i32 (muZ m) 5 == 0) = (!m.l && !m.s) := by rw [z_and5 h]; cases m.l <;> cases m.s <;> rfl
theorem y_and5_n (h : m.n ≤ 18) : (bits .and .i32 (muZ m) 5 != 0) = (m.l || m.s) := by rw [z_and5 h]; cases m.l <;> cases m.s <;> rfl
theorem y_and1n (h : m.n ≤ 18) : (bits .and .i32 (muZ m) 1 != 0) = m.l := by rw [z_and1 h]; cases m.l <;> rfl
theorem y_and2e (h : m.n ≤ 18) : (bits .and .i32 (muZ m) 2 == 0) = !m.w := by rw [z_and2 h]; cases m.w <;> rfl
theorem y_and3n (h : m.n ≤ 18) : (bits .and .i32 (muZ m) 3 != 0) = (m.l || m.w) := by rw [z_and3 h]; cases m.l <;> cases m.w <;> rfl
end
end Go.Proofs.Ytpkiojchlficcaa.Crew
