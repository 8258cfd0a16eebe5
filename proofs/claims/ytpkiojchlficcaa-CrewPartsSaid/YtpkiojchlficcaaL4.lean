/- The walks: lockSlow: how its word is reckoned: by cases. -/
import Derived.Test.YtpkiojchlficcaaL2
set_option linter.unusedSimpArgs false
namespace Go.Proofs.Ytpkiojchlficcaa.Crew
open Go Go.Conc Go.ConcN Go.RowKit Go.Conc.Lib Go.ConcR.Gen
open Go.ConcM (OsLater goes_pad goes_le)
open Go.ConcR (KK wgBlock WgAt stA smA rd wr mk DC0)
section
variable [Cap] {C : Cf} {W : World}
variable {b₁ : Frame} {a₁ : Act} {ops₁ : Array Oper} {i₁ : Nat} {rest₁ : List Nat} {k₁ : List Item} {cs₁ : List Frame}
set_option maxRecDepth 100000 in
set_option maxHeartbeats 16000000 in
theorem tail1000 (hP : C.P = Try.prog) (Ge : Geo C) (hT : ∀ k', ∃ m, ∀ w, KW C W w → GD C k' (at_ .o2) m (G (b₁.at (a₁.put ((ops₁[i₁]?).bind (·.dst)) (.tuple #[])) (.inRegion ops₁ rest₁ :: k₁)) cs₁) w) (k : Nat) (ih : ∀ k', k' < k → ∀ (T : Th) (wst : Int), T.old.n ≤ 16 → T.it ≤ 4 → (hd T).pc ≠ .bad → PosAt C W b₁ a₁ ops₁ i₁ rest₁ k₁ cs₁ [.code LL80, .inLoop LL80, .inBlock 0, .code REST80] k' (hd T) T wst) (pc : Pc) (w : Bool) (n it : Nat) (wst : Int) (hn16 : n ≤ 16) (hit : it ≤ 4) : PosAt C W b₁ a₁ ops₁ i₁ rest₁ k₁ cs₁ (IT80 TAIL80) k { (⟨pc, ⟨true, w, false, n⟩, false, false, it⟩ : Th) with pc := .c2 } ⟨pc, ⟨true, w, false, n⟩, false, false, it⟩ wst := by
  obtain ⟨mC, hC⟩ := c2Go hP Ge hT k ih ⟨pc, ⟨true, w, false, n⟩, false, false, it⟩ wst ⟨true, w, false, n + 1⟩ (by simp [nwd]) hn16 hit
  have hn : n ≤ 18 := by omega
  have f4 : (bits BinOp.and IntKind.i32 (muZ ⟨true, w, false, n⟩) 4 == 0) = true := y_and4e (m := ⟨true, w, false, n⟩) hn
  have f6 : bits BinOp.or IntKind.i32 (muZ ⟨true, w, false, n⟩) 1 = muZ ⟨true, w, false, n⟩ := z_or1 (m := ⟨true, w, false, n⟩) hn
  have f5 : (bits BinOp.and IntKind.i32 (muZ ⟨true, w, false, n⟩) 5 != 0) = true := y_and5_n (m := ⟨true, w, false, n⟩) hn
  have f7 : (muZ ⟨true, w, false, n⟩ + 8 + 2147483648) % 4294967296 - 2147483648 = muZ ⟨true, w, false, n + 1⟩ := z_add8 (m := ⟨true, w, false, n⟩) hn
  clear hn hn16 hit
  refine ⟨mC + 120, fun j1 j7 j8 j9 j10 j11 j12 j13 j14 j15 j16 j17 j18 j19 j20 j21 j22 j23 j24 j25 j26 j27 j28 j29 j30 j31 j32 j33 j34 j35 j36 j37 j38 j39 j40 j41 j42 j43 j44 j45 j46 j47 j48 j49 j50 j51 j52 j53 j54 j55 j56 j57 j58 j59 j60 j61 j62 j63 j64 j65 j66 j67 j68 j69 j70 j71 j72 j73 j74 j75 j76 j77 j78 j79 j80 j81 j82 j83 j84 j85 j86 j87 j88 j89 j90 j91 j92 j93 j94 j95 j96 j97 j98 j99 j100 j101 j102 j103 j104 j105 j106 j107 j108 j109 j110 j111 j112 j113 j114 j115 j116 j117 j118 j119 j120 j121 j122 j123 j124 j125 j126 j127 j128 j129 j130 j131 j132 j133 j134 j135 j136 j137 j138 w₁ hF => ?_⟩
  simp only [LL80, REST80, TAIL80, SPIN80, S1N80, R2N80, C2N80, IT80, body80, s0, s1, Try.f80, Option.getD_some]
  repeat (first | (exact goes_pad (hC _ _ _ _ _ _ _ _ _ _ _ _ _ _ _ _ _ _ _ _ _ _ _ _ _ _ _ _ _ _ _ _ _ _ _ _ _ _ _ _ _ _ _ _ _ _ _ _ _ _ _ _ _ _ _ _ _ _ _ _ _ _ _ _ _ _ _ _ _ _ _ _ _ _ _ _ _ _ _ _ _ _ _ _ _ _ _ _ _ _ _ _ _ _ _ _ _ _ _ _ _ _ _ _ _ _ _ _ _ _ _ _ _ _ _ _ _ _ _ _ _ _ _ _ _ _ _ _ _ _ _ _ _ hF) _) | w_go KW.rely | simp only [f4, f5])

set_option maxRecDepth 100000 in
set_option maxHeartbeats 16000000 in
theorem tail1001 (hP : C.P = Try.prog) (Ge : Geo C) (hT : ∀ k', ∃ m, ∀ w, KW C W w → GD C k' (at_ .o2) m (G (b₁.at (a₁.put ((ops₁[i₁]?).bind (·.dst)) (.tuple #[])) (.inRegion ops₁ rest₁ :: k₁)) cs₁) w) (k : Nat) (ih : ∀ k', k' < k → ∀ (T : Th) (wst : Int), T.old.n ≤ 16 → T.it ≤ 4 → (hd T).pc ≠ .bad → PosAt C W b₁ a₁ ops₁ i₁ rest₁ k₁ cs₁ [.code LL80, .inLoop LL80, .inBlock 0, .code REST80] k' (hd T) T wst) (pc : Pc) (n it : Nat) (wst : Int) (hn16 : n ≤ 16) (hit : it ≤ 4) : PosAt C W b₁ a₁ ops₁ i₁ rest₁ k₁ cs₁ (IT80 TAIL80) k { (⟨pc, ⟨true, true, false, n⟩, true, false, it⟩ : Th) with pc := .c2 } ⟨pc, ⟨true, true, false, n⟩, true, false, it⟩ wst := by
  obtain ⟨mC, hC⟩ := c2Go hP Ge hT k ih ⟨pc, ⟨true, true, false, n⟩, true, false, it⟩ wst ⟨true, false, false, n + 1⟩ (by simp [nwd]) hn16 hit
  have hn : n ≤ 18 := by omega
  have f4 : (bits BinOp.and IntKind.i32 (muZ ⟨true, true, false, n⟩) 4 == 0) = true := y_and4e (m := ⟨true, true, false, n⟩) hn
  have f6 : bits BinOp.or IntKind.i32 (muZ ⟨true, true, false, n⟩) 1 = muZ ⟨true, true, false, n⟩ := z_or1 (m := ⟨true, true, false, n⟩) hn
  have f5 : (bits BinOp.and IntKind.i32 (muZ ⟨true, true, false, n⟩) 5 != 0) = true := y_and5_n (m := ⟨true, true, false, n⟩) hn
  have f7 : (muZ ⟨true, true, false, n⟩ + 8 + 2147483648) % 4294967296 - 2147483648 = muZ ⟨true, true, false, n + 1⟩ := z_add8 (m := ⟨true, true, false, n⟩) hn
  have f2 : (bits BinOp.and IntKind.i32 (muZ ⟨true, true, false, n + 1⟩) 2 == 0) = false := y_and2e (m := ⟨true, true, false, n + 1⟩) (by show n + 1 ≤ 18; omega)
  have f9 : bits BinOp.andNot IntKind.i32 (muZ ⟨true, true, false, n + 1⟩) 2 = muZ ⟨true, false, false, n + 1⟩ := z_no2 (m := ⟨true, true, false, n + 1⟩) (by show n + 1 ≤ 18; omega)
  clear hn hn16 hit
  refine ⟨mC + 120, fun j1 j7 j8 j9 j10 j11 j12 j13 j14 j15 j16 j17 j18 j19 j20 j21 j22 j23 j24 j25 j26 j27 j28 j29 j30 j31 j32 j33 j34 j35 j36 j37 j38 j39 j40 j41 j42 j43 j44 j45 j46 j47 j48 j49 j50 j51 j52 j53 j54 j55 j56 j57 j58 j59 j60 j61 j62 j63 j64 j65 j66 j67 j68 j69 j70 j71 j72 j73 j74 j75 j76 j77 j78 j79 j80 j81 j82 j83 j84 j85 j86 j87 j88 j89 j90 j91 j92 j93 j94 j95 j96 j97 j98 j99 j100 j101 j102 j103 j104 j105 j106 j107 j108 j109 j110 j111 j112 j113 j114 j115 j116 j117 j118 j119 j120 j121 j122 j123 j124 j125 j126 j127 j128 j129 j130 j131 j132 j133 j134 j135 j136 j137 j138 w₁ hF => ?_⟩
  simp only [LL80, REST80, TAIL80, SPIN80, S1N80, R2N80, C2N80, IT80, body80, s0, s1, Try.f80, Option.getD_some]
  repeat (first | (exact goes_pad (hC _ _ _ _ _ _ _ _ _ _ _ _ _ _ _ _ _ _ _ _ _ _ _ _ _ _ _ _ _ _ _ _ _ _ _ _ _ _ _ _ _ _ _ _ _ _ _ _ _ _ _ _ _ _ _ _ _ _ _ _ _ _ _ _ _ _ _ _ _ _ _ _ _ _ _ _ _ _ _ _ _ _ _ _ _ _ _ _ _ _ _ _ _ _ _ _ _ _ _ _ _ _ _ _ _ _ _ _ _ _ _ _ _ _ _ _ _ _ _ _ _ _ _ _ _ _ _ _ _ _ _ _ _ hF) _) | w_go KW.rely | simp only [f4, f5, f2])

set_option maxRecDepth 100000 in
set_option maxHeartbeats 16000000 in
theorem tail1010 (hP : C.P = Try.prog) (Ge : Geo C) (hT : ∀ k', ∃ m, ∀ w, KW C W w → GD C k' (at_ .o2) m (G (b₁.at (a₁.put ((ops₁[i₁]?).bind (·.dst)) (.tuple #[])) (.inRegion ops₁ rest₁ :: k₁)) cs₁) w) (k : Nat) (ih : ∀ k', k' < k → ∀ (T : Th) (wst : Int), T.old.n ≤ 16 → T.it ≤ 4 → (hd T).pc ≠ .bad → PosAt C W b₁ a₁ ops₁ i₁ rest₁ k₁ cs₁ [.code LL80, .inLoop LL80, .inBlock 0, .code REST80] k' (hd T) T wst) (pc : Pc) (w : Bool) (n it : Nat) (wst : Int) (hn16 : n ≤ 16) (hit : it ≤ 4) : PosAt C W b₁ a₁ ops₁ i₁ rest₁ k₁ cs₁ (IT80 TAIL80) k { (⟨pc, ⟨true, w, false, n⟩, false, true, it⟩ : Th) with pc := .c2 } ⟨pc, ⟨true, w, false, n⟩, false, true, it⟩ wst := by
  obtain ⟨mC, hC⟩ := c2Go hP Ge hT k ih ⟨pc, ⟨true, w, false, n⟩, false, true, it⟩ wst ⟨true, w, true, n + 1⟩ (by simp [nwd]) hn16 hit
  have hn : n ≤ 18 := by omega
  have f4 : (bits BinOp.and IntKind.i32 (muZ ⟨true, w, false, n⟩) 4 == 0) = true := y_and4e (m := ⟨true, w, false, n⟩) hn
  have f6 : bits BinOp.or IntKind.i32 (muZ ⟨true, w, false, n⟩) 1 = muZ ⟨true, w, false, n⟩ := z_or1 (m := ⟨true, w, false, n⟩) hn
  have f5 : (bits BinOp.and IntKind.i32 (muZ ⟨true, w, false, n⟩) 5 != 0) = true := y_and5_n (m := ⟨true, w, false, n⟩) hn
  have f7 : (muZ ⟨true, w, false, n⟩ + 8 + 2147483648) % 4294967296 - 2147483648 = muZ ⟨true, w, false, n + 1⟩ := z_add8 (m := ⟨true, w, false, n⟩) hn
  have f1 : (bits BinOp.and IntKind.i32 (muZ ⟨true, w, false, n⟩) 1 != 0) = true := y_and1n (m := ⟨true, w, false, n⟩) hn
  have f8 : bits BinOp.or IntKind.i32 (muZ ⟨true, w, false, n + 1⟩) 4 = muZ ⟨true, w, true, n + 1⟩ := z_or4 (m := ⟨true, w, false, n + 1⟩) (by show n + 1 ≤ 18; omega)
  clear hn hn16 hit
  refine ⟨mC + 120, fun j1 j7 j8 j9 j10 j11 j12 j13 j14 j15 j16 j17 j18 j19 j20 j21 j22 j23 j24 j25 j26 j27 j28 j29 j30 j31 j32 j33 j34 j35 j36 j37 j38 j39 j40 j41 j42 j43 j44 j45 j46 j47 j48 j49 j50 j51 j52 j53 j54 j55 j56 j57 j58 j59 j60 j61 j62 j63 j64 j65 j66 j67 j68 j69 j70 j71 j72 j73 j74 j75 j76 j77 j78 j79 j80 j81 j82 j83 j84 j85 j86 j87 j88 j89 j90 j91 j92 j93 j94 j95 j96 j97 j98 j99 j100 j101 j102 j103 j104 j105 j106 j107 j108 j109 j110 j111 j112 j113 j114 j115 j116 j117 j118 j119 j120 j121 j122 j123 j124 j125 j126 j127 j128 j129 j130 j131 j132 j133 j134 j135 j136 j137 j138 w₁ hF => ?_⟩
  simp only [LL80, REST80, TAIL80, SPIN80, S1N80, R2N80, C2N80, IT80, body80, s0, s1, Try.f80, Option.getD_some]
  repeat (first | (exact goes_pad (hC _ _ _ _ _ _ _ _ _ _ _ _ _ _ _ _ _ _ _ _ _ _ _ _ _ _ _ _ _ _ _ _ _ _ _ _ _ _ _ _ _ _ _ _ _ _ _ _ _ _ _ _ _ _ _ _ _ _ _ _ _ _ _ _ _ _ _ _ _ _ _ _ _ _ _ _ _ _ _ _ _ _ _ _ _ _ _ _ _ _ _ _ _ _ _ _ _ _ _ _ _ _ _ _ _ _ _ _ _ _ _ _ _ _ _ _ _ _ _ _ _ _ _ _ _ _ _ _ _ _ _ _ _ hF) _) | w_go KW.rely | simp only [f4, f5, f1])

set_option maxRecDepth 100000 in
set_option maxHeartbeats 16000000 in
theorem tail1011 (hP : C.P = Try.prog) (Ge : Geo C) (hT : ∀ k', ∃ m, ∀ w, KW C W w → GD C k' (at_ .o2) m (G (b₁.at (a₁.put ((ops₁[i₁]?).bind (·.dst)) (.tuple #[])) (.inRegion ops₁ rest₁ :: k₁)) cs₁) w) (k : Nat) (ih : ∀ k', k' < k → ∀ (T : Th) (wst : Int), T.old.n ≤ 16 → T.it ≤ 4 → (hd T).pc ≠ .bad → PosAt C W b₁ a₁ ops₁ i₁ rest₁ k₁ cs₁ [.code LL80, .inLoop LL80, .inBlock 0, .code REST80] k' (hd T) T wst) (pc : Pc) (n it : Nat) (wst : Int) (hn16 : n ≤ 16) (hit : it ≤ 4) : PosAt C W b₁ a₁ ops₁ i₁ rest₁ k₁ cs₁ (IT80 TAIL80) k { (⟨pc, ⟨true, true, false, n⟩, true, true, it⟩ : Th) with pc := .c2 } ⟨pc, ⟨true, true, false, n⟩, true, true, it⟩ wst := by
  obtain ⟨mC, hC⟩ := c2Go hP Ge hT k ih ⟨pc, ⟨true, true, false, n⟩, true, true, it⟩ wst ⟨true, false, true, n + 1⟩ (by simp [nwd]) hn16 hit
  have hn : n ≤ 18 := by omega
  have f4 : (bits BinOp.and IntKind.i32 (muZ ⟨true, true, false, n⟩) 4 == 0) = true := y_and4e (m := ⟨true, true, false, n⟩) hn
  have f6 : bits BinOp.or IntKind.i32 (muZ ⟨true, true, false, n⟩) 1 = muZ ⟨true, true, false, n⟩ := z_or1 (m := ⟨true, true, false, n⟩) hn
  have f5 : (bits BinOp.and IntKind.i32 (muZ ⟨true, true, false, n⟩) 5 != 0) = true := y_and5_n (m := ⟨true, true, false, n⟩) hn
  have f7 : (muZ ⟨true, true, false, n⟩ + 8 + 2147483648) % 4294967296 - 2147483648 = muZ ⟨true, true, false, n + 1⟩ := z_add8 (m := ⟨true, true, false, n⟩) hn
  have f1 : (bits BinOp.and IntKind.i32 (muZ ⟨true, true, false, n⟩) 1 != 0) = true := y_and1n (m := ⟨true, true, false, n⟩) hn
  have f8 : bits BinOp.or IntKind.i32 (muZ ⟨true, true, false, n + 1⟩) 4 = muZ ⟨true, true, true, n + 1⟩ := z_or4 (m := ⟨true, true, false, n + 1⟩) (by show n + 1 ≤ 18; omega)
  have f2 : (bits BinOp.and IntKind.i32 (muZ ⟨true, true, true, n + 1⟩) 2 == 0) = false := y_and2e (m := ⟨true, true, true, n + 1⟩) (by show n + 1 ≤ 18; omega)
  have f9 : bits BinOp.andNot IntKind.i32 (muZ ⟨true, true, true, n + 1⟩) 2 = muZ ⟨true, false, true, n + 1⟩ := z_no2 (m := ⟨true, true, true, n + 1⟩) (by show n + 1 ≤ 18; omega)
  clear hn hn16 hit
  refine ⟨mC + 120, fun j1 j7 j8 j9 j10 j11 j12 j13 j14 j15 j16 j17 j18 j19 j20 j21 j22 j23 j24 j25 j26 j27 j28 j29 j30 j31 j32 j33 j34 j35 j36 j37 j38 j39 j40 j41 j42 j43 j44 j45 j46 j47 j48 j49 j50 j51 j52 j53 j54 j55 j56 j57 j58 j59 j60 j61 j62 j63 j64 j65 j66 j67 j68 j69 j70 j71 j72 j73 j74 j75 j76 j77 j78 j79 j80 j81 j82 j83 j84 j85 j86 j87 j88 j89 j90 j91 j92 j93 j94 j95 j96 j97 j98 j99 j100 j101 j102 j103 j104 j105 j106 j107 j108 j109 j110 j111 j112 j113 j114 j115 j116 j117 j118 j119 j120 j121 j122 j123 j124 j125 j126 j127 j128 j129 j130 j131 j132 j133 j134 j135 j136 j137 j138 w₁ hF => ?_⟩
  simp only [LL80, REST80, TAIL80, SPIN80, S1N80, R2N80, C2N80, IT80, body80, s0, s1, Try.f80, Option.getD_some]
  repeat (first | (exact goes_pad (hC _ _ _ _ _ _ _ _ _ _ _ _ _ _ _ _ _ _ _ _ _ _ _ _ _ _ _ _ _ _ _ _ _ _ _ _ _ _ _ _ _ _ _ _ _ _ _ _ _ _ _ _ _ _ _ _ _ _ _ _ _ _ _ _ _ _ _ _ _ _ _ _ _ _ _ _ _ _ _ _ _ _ _ _ _ _ _ _ _ _ _ _ _ _ _ _ _ _ _ _ _ _ _ _ _ _ _ _ _ _ _ _ _ _ _ _ _ _ _ _ _ _ _ _ _ _ _ _ _ _ _ _ _ hF) _) | w_go KW.rely | simp only [f4, f5, f1, f2])

set_option maxRecDepth 100000 in
set_option maxHeartbeats 16000000 in
theorem tail1100 (hP : C.P = Try.prog) (Ge : Geo C) (hT : ∀ k', ∃ m, ∀ w, KW C W w → GD C k' (at_ .o2) m (G (b₁.at (a₁.put ((ops₁[i₁]?).bind (·.dst)) (.tuple #[])) (.inRegion ops₁ rest₁ :: k₁)) cs₁) w) (k : Nat) (ih : ∀ k', k' < k → ∀ (T : Th) (wst : Int), T.old.n ≤ 16 → T.it ≤ 4 → (hd T).pc ≠ .bad → PosAt C W b₁ a₁ ops₁ i₁ rest₁ k₁ cs₁ [.code LL80, .inLoop LL80, .inBlock 0, .code REST80] k' (hd T) T wst) (pc : Pc) (w : Bool) (n it : Nat) (wst : Int) (hn16 : n ≤ 16) (hit : it ≤ 4) : PosAt C W b₁ a₁ ops₁ i₁ rest₁ k₁ cs₁ (IT80 TAIL80) k { (⟨pc, ⟨true, w, true, n⟩, false, false, it⟩ : Th) with pc := .c2 } ⟨pc, ⟨true, w, true, n⟩, false, false, it⟩ wst := by
  obtain ⟨mC, hC⟩ := c2Go hP Ge hT k ih ⟨pc, ⟨true, w, true, n⟩, false, false, it⟩ wst ⟨true, w, true, n + 1⟩ (by simp [nwd]) hn16 hit
  have hn : n ≤ 18 := by omega
  have f4 : (bits BinOp.and IntKind.i32 (muZ ⟨true, w, true, n⟩) 4 == 0) = false := y_and4e (m := ⟨true, w, true, n⟩) hn
  have f5 : (bits BinOp.and IntKind.i32 (muZ ⟨true, w, true, n⟩) 5 != 0) = true := y_and5_n (m := ⟨true, w, true, n⟩) hn
  have f7 : (muZ ⟨true, w, true, n⟩ + 8 + 2147483648) % 4294967296 - 2147483648 = muZ ⟨true, w, true, n + 1⟩ := z_add8 (m := ⟨true, w, true, n⟩) hn
  clear hn hn16 hit
  refine ⟨mC + 120, fun j1 j7 j8 j9 j10 j11 j12 j13 j14 j15 j16 j17 j18 j19 j20 j21 j22 j23 j24 j25 j26 j27 j28 j29 j30 j31 j32 j33 j34 j35 j36 j37 j38 j39 j40 j41 j42 j43 j44 j45 j46 j47 j48 j49 j50 j51 j52 j53 j54 j55 j56 j57 j58 j59 j60 j61 j62 j63 j64 j65 j66 j67 j68 j69 j70 j71 j72 j73 j74 j75 j76 j77 j78 j79 j80 j81 j82 j83 j84 j85 j86 j87 j88 j89 j90 j91 j92 j93 j94 j95 j96 j97 j98 j99 j100 j101 j102 j103 j104 j105 j106 j107 j108 j109 j110 j111 j112 j113 j114 j115 j116 j117 j118 j119 j120 j121 j122 j123 j124 j125 j126 j127 j128 j129 j130 j131 j132 j133 j134 j135 j136 j137 j138 w₁ hF => ?_⟩
  simp only [LL80, REST80, TAIL80, SPIN80, S1N80, R2N80, C2N80, IT80, body80, s0, s1, Try.f80, Option.getD_some]
  repeat (first | (exact goes_pad (hC _ _ _ _ _ _ _ _ _ _ _ _ _ _ _ _ _ _ _ _ _ _ _ _ _ _ _ _ _ _ _ _ _ _ _ _ _ _ _ _ _ _ _ _ _ _ _ _ _ _ _ _ _ _ _ _ _ _ _ _ _ _ _ _ _ _ _ _ _ _ _ _ _ _ _ _ _ _ _ _ _ _ _ _ _ _ _ _ _ _ _ _ _ _ _ _ _ _ _ _ _ _ _ _ _ _ _ _ _ _ _ _ _ _ _ _ _ _ _ _ _ _ _ _ _ _ _ _ _ _ _ _ _ hF) _) | w_go KW.rely | simp only [f4, f5])

set_option maxRecDepth 100000 in
set_option maxHeartbeats 16000000 in
theorem tail1101 (hP : C.P = Try.prog) (Ge : Geo C) (hT : ∀ k', ∃ m, ∀ w, KW C W w → GD C k' (at_ .o2) m (G (b₁.at (a₁.put ((ops₁[i₁]?).bind (·.dst)) (.tuple #[])) (.inRegion ops₁ rest₁ :: k₁)) cs₁) w) (k : Nat) (ih : ∀ k', k' < k → ∀ (T : Th) (wst : Int), T.old.n ≤ 16 → T.it ≤ 4 → (hd T).pc ≠ .bad → PosAt C W b₁ a₁ ops₁ i₁ rest₁ k₁ cs₁ [.code LL80, .inLoop LL80, .inBlock 0, .code REST80] k' (hd T) T wst) (pc : Pc) (n it : Nat) (wst : Int) (hn16 : n ≤ 16) (hit : it ≤ 4) : PosAt C W b₁ a₁ ops₁ i₁ rest₁ k₁ cs₁ (IT80 TAIL80) k { (⟨pc, ⟨true, true, true, n⟩, true, false, it⟩ : Th) with pc := .c2 } ⟨pc, ⟨true, true, true, n⟩, true, false, it⟩ wst := by
  obtain ⟨mC, hC⟩ := c2Go hP Ge hT k ih ⟨pc, ⟨true, true, true, n⟩, true, false, it⟩ wst ⟨true, false, true, n + 1⟩ (by simp [nwd]) hn16 hit
  have hn : n ≤ 18 := by omega
  have f4 : (bits BinOp.and IntKind.i32 (muZ ⟨true, true, true, n⟩) 4 == 0) = false := y_and4e (m := ⟨true, true, true, n⟩) hn
  have f5 : (bits BinOp.and IntKind.i32 (muZ ⟨true, true, true, n⟩) 5 != 0) = true := y_and5_n (m := ⟨true, true, true, n⟩) hn
  have f7 : (muZ ⟨true, true, true, n⟩ + 8 + 2147483648) % 4294967296 - 2147483648 = muZ ⟨true, true, true, n + 1⟩ := z_add8 (m := ⟨true, true, true, n⟩) hn
  have f2 : (bits BinOp.and IntKind.i32 (muZ ⟨true, true, true, n + 1⟩) 2 == 0) = false := y_and2e (m := ⟨true, true, true, n + 1⟩) (by show n + 1 ≤ 18; omega)
  have f9 : bits BinOp.andNot IntKind.i32 (muZ ⟨true, true, true, n + 1⟩) 2 = muZ ⟨true, false, true, n + 1⟩ := z_no2 (m := ⟨true, true, true, n + 1⟩) (by show n + 1 ≤ 18; omega)
  clear hn hn16 hit
  refine ⟨mC + 120, fun j1 j7 j8 j9 j10 j11 j12 j13 j14 j15 j16 j17 j18 j19 j20 j21 j22 j23 j24 j25 j26 j27 j28 j29 j30 j31 j32 j33 j34 j35 j36 j37 j38 j39 j40 j41 j42 j43 j44 j45 j46 j47 j48 j49 j50 j51 j52 j53 j54 j55 j56 j57 j58 j59 j60 j61 j62 j63 j64 j65 j66 j67 j68 j69 j70 j71 j72 j73 j74 j75 j76 j77 j78 j79 j80 j81 j82 j83 j84 j85 j86 j87 j88 j89 j90 j91 j92 j93 j94 j95 j96 j97 j98 j99 j100 j101 j102 j103 j104 j105 j106 j107 j108 j109 j110 j111 j112 j113 j114 j115 j116 j117 j118 j119 j120 j121 j122 j123 j124 j125 j126 j127 j128 j129 j130 j131 j132 j133 j134 j135 j136 j137 j138 w₁ hF => ?_⟩
  simp only [LL80, REST80, TAIL80, SPIN80, S1N80, R2N80, C2N80, IT80, body80, s0, s1, Try.f80, Option.getD_some]
  repeat (first | (exact goes_pad (hC _ _ _ _ _ _ _ _ _ _ _ _ _ _ _ _ _ _ _ _ _ _ _ _ _ _ _ _ _ _ _ _ _ _ _ _ _ _ _ _ _ _ _ _ _ _ _ _ _ _ _ _ _ _ _ _ _ _ _ _ _ _ _ _ _ _ _ _ _ _ _ _ _ _ _ _ _ _ _ _ _ _ _ _ _ _ _ _ _ _ _ _ _ _ _ _ _ _ _ _ _ _ _ _ _ _ _ _ _ _ _ _ _ _ _ _ _ _ _ _ _ _ _ _ _ _ _ _ _ _ _ _ _ hF) _) | w_go KW.rely | simp only [f4, f5, f2])

set_option maxRecDepth 100000 in
set_option maxHeartbeats 16000000 in
theorem tail1110 (hP : C.P = Try.prog) (Ge : Geo C) (hT : ∀ k', ∃ m, ∀ w, KW C W w → GD C k' (at_ .o2) m (G (b₁.at (a₁.put ((ops₁[i₁]?).bind (·.dst)) (.tuple #[])) (.inRegion ops₁ rest₁ :: k₁)) cs₁) w) (k : Nat) (ih : ∀ k', k' < k → ∀ (T : Th) (wst : Int), T.old.n ≤ 16 → T.it ≤ 4 → (hd T).pc ≠ .bad → PosAt C W b₁ a₁ ops₁ i₁ rest₁ k₁ cs₁ [.code LL80, .inLoop LL80, .inBlock 0, .code REST80] k' (hd T) T wst) (pc : Pc) (w : Bool) (n it : Nat) (wst : Int) (hn16 : n ≤ 16) (hit : it ≤ 4) : PosAt C W b₁ a₁ ops₁ i₁ rest₁ k₁ cs₁ (IT80 TAIL80) k { (⟨pc, ⟨true, w, true, n⟩, false, true, it⟩ : Th) with pc := .c2 } ⟨pc, ⟨true, w, true, n⟩, false, true, it⟩ wst := by
  obtain ⟨mC, hC⟩ := c2Go hP Ge hT k ih ⟨pc, ⟨true, w, true, n⟩, false, true, it⟩ wst ⟨true, w, true, n + 1⟩ (by simp [nwd]) hn16 hit
  have hn : n ≤ 18 := by omega
  have f4 : (bits BinOp.and IntKind.i32 (muZ ⟨true, w, true, n⟩) 4 == 0) = false := y_and4e (m := ⟨true, w, true, n⟩) hn
  have f5 : (bits BinOp.and IntKind.i32 (muZ ⟨true, w, true, n⟩) 5 != 0) = true := y_and5_n (m := ⟨true, w, true, n⟩) hn
  have f7 : (muZ ⟨true, w, true, n⟩ + 8 + 2147483648) % 4294967296 - 2147483648 = muZ ⟨true, w, true, n + 1⟩ := z_add8 (m := ⟨true, w, true, n⟩) hn
  have f1 : (bits BinOp.and IntKind.i32 (muZ ⟨true, w, true, n⟩) 1 != 0) = true := y_and1n (m := ⟨true, w, true, n⟩) hn
  have f8 : bits BinOp.or IntKind.i32 (muZ ⟨true, w, true, n + 1⟩) 4 = muZ ⟨true, w, true, n + 1⟩ := z_or4 (m := ⟨true, w, true, n + 1⟩) (by show n + 1 ≤ 18; omega)
  clear hn hn16 hit
  refine ⟨mC + 120, fun j1 j7 j8 j9 j10 j11 j12 j13 j14 j15 j16 j17 j18 j19 j20 j21 j22 j23 j24 j25 j26 j27 j28 j29 j30 j31 j32 j33 j34 j35 j36 j37 j38 j39 j40 j41 j42 j43 j44 j45 j46 j47 j48 j49 j50 j51 j52 j53 j54 j55 j56 j57 j58 j59 j60 j61 j62 j63 j64 j65 j66 j67 j68 j69 j70 j71 j72 j73 j74 j75 j76 j77 j78 j79 j80 j81 j82 j83 j84 j85 j86 j87 j88 j89 j90 j91 j92 j93 j94 j95 j96 j97 j98 j99 j100 j101 j102 j103 j104 j105 j106 j107 j108 j109 j110 j111 j112 j113 j114 j115 j116 j117 j118 j119 j120 j121 j122 j123 j124 j125 j126 j127 j128 j129 j130 j131 j132 j133 j134 j135 j136 j137 j138 w₁ hF => ?_⟩
  simp only [LL80, REST80, TAIL80, SPIN80, S1N80, R2N80, C2N80, IT80, body80, s0, s1, Try.f80, Option.getD_some]
  repeat (first | (exact goes_pad (hC _ _ _ _ _ _ _ _ _ _ _ _ _ _ _ _ _ _ _ _ _ _ _ _ _ _ _ _ _ _ _ _ _ _ _ _ _ _ _ _ _ _ _ _ _ _ _ _ _ _ _ _ _ _ _ _ _ _ _ _ _ _ _ _ _ _ _ _ _ _ _ _ _ _ _ _ _ _ _ _ _ _ _ _ _ _ _ _ _ _ _ _ _ _ _ _ _ _ _ _ _ _ _ _ _ _ _ _ _ _ _ _ _ _ _ _ _ _ _ _ _ _ _ _ _ _ _ _ _ _ _ _ _ hF) _) | w_go KW.rely | simp only [f4, f5, f1])

set_option maxRecDepth 100000 in
set_option maxHeartbeats 16000000 in
theorem tail1111 (hP : C.P = Try.prog) (Ge : Geo C) (hT : ∀ k', ∃ m, ∀ w, KW C W w → GD C k' (at_ .o2) m (G (b₁.at (a₁.put ((ops₁[i₁]?).bind (·.dst)) (.tuple #[])) (.inRegion ops₁ rest₁ :: k₁)) cs₁) w) (k : Nat) (ih : ∀ k', k' < k → ∀ (T : Th) (wst : Int), T.old.n ≤ 16 → T.it ≤ 4 → (hd T).pc ≠ .bad → PosAt C W b₁ a₁ ops₁ i₁ rest₁ k₁ cs₁ [.code LL80, .inLoop LL80, .inBlock 0, .code REST80] k' (hd T) T wst) (pc : Pc) (n it : Nat) (wst : Int) (hn16 : n ≤ 16) (hit : it ≤ 4) : PosAt C W b₁ a₁ ops₁ i₁ rest₁ k₁ cs₁ (IT80 TAIL80) k { (⟨pc, ⟨true, true, true, n⟩, true, true, it⟩ : Th) with pc := .c2 } ⟨pc, ⟨true, true, true, n⟩, true, true, it⟩ wst := by
  obtain ⟨mC, hC⟩ := c2Go hP Ge hT k ih ⟨pc, ⟨true, true, true, n⟩, true, true, it⟩ wst ⟨true, false, true, n + 1⟩ (by simp [nwd]) hn16 hit
  have hn : n ≤ 18 := by omega
  have f4 : (bits BinOp.and IntKind.i32 (muZ ⟨true, true, true, n⟩) 4 == 0) = false := y_and4e (m := ⟨true, true, true, n⟩) hn
  have f5 : (bits BinOp.and IntKind.i32 (muZ ⟨true, true, true, n⟩) 5 != 0) = true := y_and5_n (m := ⟨true, true, true, n⟩) hn
  have f7 : (muZ ⟨true, true, true, n⟩ + 8 + 2147483648) % 4294967296 - 2147483648 = muZ ⟨true, true, true, n + 1⟩ := z_add8 (m := ⟨true, true, true, n⟩) hn
  have f1 : (bits BinOp.and IntKind.i32 (muZ ⟨true, true, true, n⟩) 1 != 0) = true := y_and1n (m := ⟨true, true, true, n⟩) hn
  have f8 : bits BinOp.or IntKind.i32 (muZ ⟨true, true, true, n + 1⟩) 4 = muZ ⟨true, true, true, n + 1⟩ := z_or4 (m := ⟨true, true, true, n + 1⟩) (by show n + 1 ≤ 18; omega)
  have f2 : (bits BinOp.and IntKind.i32 (muZ ⟨true, true, true, n + 1⟩) 2 == 0) = false := y_and2e (m := ⟨true, true, true, n + 1⟩) (by show n + 1 ≤ 18; omega)
  have f9 : bits BinOp.andNot IntKind.i32 (muZ ⟨true, true, true, n + 1⟩) 2 = muZ ⟨true, false, true, n + 1⟩ := z_no2 (m := ⟨true, true, true, n + 1⟩) (by show n + 1 ≤ 18; omega)
  clear hn hn16 hit
  refine ⟨mC + 120, fun j1 j7 j8 j9 j10 j11 j12 j13 j14 j15 j16 j17 j18 j19 j20 j21 j22 j23 j24 j25 j26 j27 j28 j29 j30 j31 j32 j33 j34 j35 j36 j37 j38 j39 j40 j41 j42 j43 j44 j45 j46 j47 j48 j49 j50 j51 j52 j53 j54 j55 j56 j57 j58 j59 j60 j61 j62 j63 j64 j65 j66 j67 j68 j69 j70 j71 j72 j73 j74 j75 j76 j77 j78 j79 j80 j81 j82 j83 j84 j85 j86 j87 j88 j89 j90 j91 j92 j93 j94 j95 j96 j97 j98 j99 j100 j101 j102 j103 j104 j105 j106 j107 j108 j109 j110 j111 j112 j113 j114 j115 j116 j117 j118 j119 j120 j121 j122 j123 j124 j125 j126 j127 j128 j129 j130 j131 j132 j133 j134 j135 j136 j137 j138 w₁ hF => ?_⟩
  simp only [LL80, REST80, TAIL80, SPIN80, S1N80, R2N80, C2N80, IT80, body80, s0, s1, Try.f80, Option.getD_some]
  repeat (first | (exact goes_pad (hC _ _ _ _ _ _ _ _ _ _ _ _ _ _ _ _ _ _ _ _ _ _ _ _ _ _ _ _ _ _ _ _ _ _ _ _ _ _ _ _ _ _ _ _ _ _ _ _ _ _ _ _ _ _ _ _ _ _ _ _ _ _ _ _ _ _ _ _ _ _ _ _ _ _ _ _ _ _ _ _ _ _ _ _ _ _ _ _ _ _ _ _ _ _ _ _ _ _ _ _ _ _ _ _ _ _ _ _ _ _ _ _ _ _ _ _ _ _ _ _ _ _ _ _ _ _ _ _ _ _ _ _ _ hF) _) | w_go KW.rely | simp only [f4, f5, f1, f2])
end
end Go.Proofs.Ytpkiojchlficcaa.Crew
