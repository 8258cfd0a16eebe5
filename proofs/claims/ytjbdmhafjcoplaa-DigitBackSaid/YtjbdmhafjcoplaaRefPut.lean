/- The walk of the reference's Put: it answers the short form, by induction on the number of bytes. -/
import Derived.Test.YtjbdmhafjcoplaaPut
import Derived.Deep.RegionWith
namespace Go.Proofs.Ytjbdmhafjcoplaa
open Go.RowKit

def byteS (x : Int) : ByteArray := ⟨#[UInt8.ofNat x.toNat]⟩
theorem byteS_size (x : Int) : (byteS x).size = 1 := rfl
noncomputable def convElse (w : World) (b : Nat) : Result Value := (convert 42 9 (.slice (some ⟨b, 0, none⟩) 1 1)).run Try.prog w
/-- a slice of one byte as a text, whatever the world: what its cell holds -/
theorem conv1 (w : World) (b : Nat) : (convert 42 9 (.slice (some ⟨b, 0, none⟩) 1 1)).run Try.prog w =
    match w.cell? ⟨b, 0, none⟩ with
    | some (.int .u8 x) => .ok (.string (byteS x)) w
    | _ => convElse w b := by
  split
  · rename_i x h
    rw [run_convert_bytes_arg w 42 5 (by kernel_rfl) (by kernel_rfl) b 0 1 1 [x] rfl (fun i hi => by
      obtain rfl : i = 0 := by omega
      exact h) 9 (by kernel_rfl)]
    rfl
  · rfl
theorem bcell {W w1 : World} {B : Nat} (hb : Below B W w1) : (∀ b o, b < B → w1.cell? ⟨b, o, none⟩ = W.cell? ⟨b, o, none⟩) ∧ (∀ b o, b < B → w1.frozen? ⟨b, o, none⟩ = W.frozen? ⟨b, o, none⟩) :=
  ⟨fun b o h => hb.cell (p := ⟨b, o, none⟩) h, fun b o h => hb.frozen (p := ⟨b, o, none⟩) h⟩

set_option maxRecDepth 100000 in
set_option maxHeartbeats 400000 in
theorem refPut_any (f : Nat) (hf : f ≤ 9) : ∀ (n : Int) (_ : 0 ≤ n) (_ : n < 128 ^ (f + 1)) (_ : n < 18446744073709551616) (w : World),
    Calls Try.prog 12 #[.int .u64 n] w fun e w' => e = .returned (.string ⟨(sh f n.toNat).toArray⟩) ∧ Below w.heap.size w w' := by
  have hcv := conv1
  have hbs := byteS_size
  induction f with
  | zero =>
    intro n h0 hn h1 w
    have hn1 : n < 128 := by simpa using hn
    clear hn h1
    go_enter Try.func12, Try.ntmps12
    go_wp2_with fail
    go_ret
    exact ⟨rfl, (Below.refl _ _).alloc (Nat.le_refl _) _⟩
  | succ f ih =>
    intro n h0 hn h1 w
    by_cases hl : n < 128
    · clear ih hn h1
      go_enter Try.func12, Try.ntmps12
      go_wp2_with fail
      go_ret
      refine ⟨?_, (Below.refl _ _).alloc (Nat.le_refl _) _⟩
      rw [sh, if_pos (by omega)]; rfl
    · have ih2 := fun w => ih (by omega) (n / 128) (by omega) (by rw [Int.pow_succ] at hn; omega) (by omega) w
      have hs := (sh_length f (n / 128).toNat).2
      clear ih hn
      go_enter Try.func12, Try.ntmps12
      go_wp2_with fail
      have e0 : n.tdiv 128 = n / 128 := Int.tdiv_eq_ediv_of_nonneg h0
      have e1 : n.tmod 128 = n % 128 := Int.tmod_eq_emod_of_nonneg h0
      have e2 : IntKind.u64.wrap (n % 128 + 128) = n % 128 + 128 := by simp [IntKind.wrap, IntKind.bits, IntKind.signed]; omega
      have e3 : IntKind.u8.wrap (n % 128 + 128) = n % 128 + 128 := by simp [IntKind.wrap, IntKind.bits, IntKind.signed]; omega
      have e4 : IntKind.u64.wrap (n / 128) = n / 128 := by simp [IntKind.wrap, IntKind.bits, IntKind.signed]; omega
      have heq : (byteS (n % 128 + 128) ++ { data := (sh f (n / 128).toNat).toArray } : ByteArray) = ⟨(sh (f + 1) n.toNat).toArray⟩ := by
        rw [sh, if_neg (by omega)]
        unfold byteS
        rw [show ((n / 128).toNat) = n.toNat / 128 from by omega, show (n % 128 + 128).toNat = n.toNat % 128 + 128 from by omega]
        apply ByteArray.ext
        simp [ByteArray.data_append]
      have HEQ := Lib.hid heq
      clear heq
      clear h1
      go_region_with (go_at_call 12; refine (ih2 _).mono ?_; rintro e w' ⟨rfl, hb⟩; obtain ⟨hc, hfz⟩ := bcell hb)
      all_goals (go_wp2; go_ret; refine ⟨congrArg (fun s => Ending.returned (Value.string s)) HEQ.out, ?_⟩)
      all_goals first
        | exact (((Below.refl _ _).alloc (Nat.le_refl _) _).drew).trans (hb.mono (by simp))
        | exact ((Below.refl _ _).drew.trans hb).alloc hb.size _
end Go.Proofs.Ytjbdmhafjcoplaa
