/- The reference's least number. -/
import Derived.Test.YtnjcbedjhokfhaaDoorScJ
namespace Go.Gx
open Go.Proofs Go.Sp
set_option linter.unusedVariables false

def Γ6 : Tab := ⟨tys, (87, readCtr [true] wordsS) :: Γ5.ctr, [0], gh⟩
theorem Γ6_ok : TabOk Tryd.prog Γ6 := Γ5_ok.cons words_ok

theorem and16 {a : Int} (ha : InR .u64 a) : andI .u64 a 65535 = a % 65536 := and_mask 16 (by omega) ha
theorem shr16 (a : Int) : shrI .u64 a 16 = a / 65536 := shrI_u64 a 16 (by omega)

def vc68 (a0 a1 a2 a3 : Int) (K : SV → Prop) (Q : Nat → List Pv → Prop) : Prop := fnVc Γ6 Tryd.f68 [] [.arr .u64 4 true [a0, a1, a2, a3]] gh K Q
theorem vc68_eq : ∀ (a0 a1 a2 a3 : Int) (K : SV → Prop) (Q : Nat → List Pv → Prop), vc68 a0 a1 a2 a3 K Q = ∀ (x1 : Int), x1 = andI IntKind.u64 a0 (65535 : Int) → InR IntKind.u64 x1 → ∀ (x2 : Int), x2 = shrI IntKind.u64 a0 (16 : Int) → InR IntKind.u64 x2 → ∀ (x3 : Int), x3 = andI IntKind.u64 x2 (65535 : Int) → InR IntKind.u64 x3 → ∀ (x4 : Int), x4 = shrI IntKind.u64 a0 (32 : Int) → InR IntKind.u64 x4 → ∀ (x5 : Int), x5 = andI IntKind.u64 x4 (65535 : Int) → InR IntKind.u64 x5 → ∀ (x6 : Int), x6 = shrI IntKind.u64 a0 (48 : Int) → InR IntKind.u64 x6 → Need (↑([] ++ List.take (4 : Nat) (List.drop (0 : Nat) [x1, x3, x5, x6])).length * (8 : Int) ≤ (70368744177664 : Int)) ∧ Need ((4 : Int) ≤ ↑[x1, x3, x5, x6].length) ∧ ∀ (x7 : List Int), x7 = [] ++ List.take (4 : Nat) (List.drop (0 : Nat) [x1, x3, x5, x6]) → AllR IntKind.u64 x7 → ∀ (x8 : Int), x8 = ↑([] ++ List.take (4 : Nat) (List.drop (0 : Nat) [x1, x3, x5, x6])).length → (0 : Int) ≤ x8 → InR IntKind.i64 x8 → ∀ (x9 : Int), x9 = andI IntKind.u64 a1 (65535 : Int) → InR IntKind.u64 x9 → ∀ (x10 : Int), x10 = shrI IntKind.u64 a1 (16 : Int) → InR IntKind.u64 x10 → ∀ (x11 : Int), x11 = andI IntKind.u64 x10 (65535 : Int) → InR IntKind.u64 x11 → ∀ (x12 : Int), x12 = shrI IntKind.u64 a1 (32 : Int) → InR IntKind.u64 x12 → ∀ (x13 : Int), x13 = andI IntKind.u64 x12 (65535 : Int) → InR IntKind.u64 x13 → ∀ (x14 : Int), x14 = shrI IntKind.u64 a1 (48 : Int) → InR IntKind.u64 x14 → Need (↑(x7 ++ List.take (4 : Nat) (List.drop (0 : Nat) [x9, x11, x13, x14])).length * (8 : Int) ≤ (70368744177664 : Int)) ∧ Need (x8 = ↑x7.length) ∧ Need ((4 : Int) ≤ ↑[x9, x11, x13, x14].length) ∧ ∀ (x15 : List Int), x15 = x7 ++ List.take (4 : Nat) (List.drop (0 : Nat) [x9, x11, x13, x14]) → AllR IntKind.u64 x15 → ∀ (x16 : Int), x16 = ↑(x7 ++ List.take (4 : Nat) (List.drop (0 : Nat) [x9, x11, x13, x14])).length → (0 : Int) ≤ x16 → InR IntKind.i64 x16 → ∀ (x17 : Int), x17 = andI IntKind.u64 a2 (65535 : Int) → InR IntKind.u64 x17 → ∀ (x18 : Int), x18 = shrI IntKind.u64 a2 (16 : Int) → InR IntKind.u64 x18 → ∀ (x19 : Int), x19 = andI IntKind.u64 x18 (65535 : Int) → InR IntKind.u64 x19 → ∀ (x20 : Int), x20 = shrI IntKind.u64 a2 (32 : Int) → InR IntKind.u64 x20 → ∀ (x21 : Int), x21 = andI IntKind.u64 x20 (65535 : Int) → InR IntKind.u64 x21 → ∀ (x22 : Int), x22 = shrI IntKind.u64 a2 (48 : Int) → InR IntKind.u64 x22 → Need (↑(x15 ++ List.take (4 : Nat) (List.drop (0 : Nat) [x17, x19, x21, x22])).length * (8 : Int) ≤ (70368744177664 : Int)) ∧ Need (x16 = ↑x15.length) ∧ Need ((4 : Int) ≤ ↑[x17, x19, x21, x22].length) ∧ ∀ (x23 : List Int), x23 = x15 ++ List.take (4 : Nat) (List.drop (0 : Nat) [x17, x19, x21, x22]) → AllR IntKind.u64 x23 → ∀ (x24 : Int), x24 = ↑(x15 ++ List.take (4 : Nat) (List.drop (0 : Nat) [x17, x19, x21, x22])).length → (0 : Int) ≤ x24 → InR IntKind.i64 x24 → ∀ (x25 : Int), x25 = andI IntKind.u64 a3 (65535 : Int) → InR IntKind.u64 x25 → ∀ (x26 : Int), x26 = shrI IntKind.u64 a3 (16 : Int) → InR IntKind.u64 x26 → ∀ (x27 : Int), x27 = andI IntKind.u64 x26 (65535 : Int) → InR IntKind.u64 x27 → ∀ (x28 : Int), x28 = shrI IntKind.u64 a3 (32 : Int) → InR IntKind.u64 x28 → ∀ (x29 : Int), x29 = andI IntKind.u64 x28 (65535 : Int) → InR IntKind.u64 x29 → ∀ (x30 : Int), x30 = shrI IntKind.u64 a3 (48 : Int) → InR IntKind.u64 x30 → Need (↑(x23 ++ List.take (4 : Nat) (List.drop (0 : Nat) [x25, x27, x29, x30])).length * (8 : Int) ≤ (70368744177664 : Int)) ∧ Need (x24 = ↑x23.length) ∧ Need ((4 : Int) ≤ ↑[x25, x27, x29, x30].length) ∧ ∀ (x31 : List Int), x31 = x23 ++ List.take (4 : Nat) (List.drop (0 : Nat) [x25, x27, x29, x30]) → AllR IntKind.u64 x31 → ∀ (x32 : Int), x32 = ↑(x23 ++ List.take (4 : Nat) (List.drop (0 : Nat) [x25, x27, x29, x30])).length → (0 : Int) ≤ x32 → InR IntKind.i64 x32 → Need ((0 : Int) + x32 ≤ ↑x31.length) ∧ Need (∀ (z : Int), z ∈ List.take x32.toNat (List.drop (0 : Nat) x31) → z < (65536 : Int)) ∧ ∀ (x33 : Int), x33 = w0 (valW (List.take x32.toNat (List.drop (0 : Nat) x31)) % (7237005577332262213973186563042994240857116359379907606001950938285454250989 : Int)) → InR IntKind.u64 x33 → ∀ (x34 : Int), x34 = w1 (valW (List.take x32.toNat (List.drop (0 : Nat) x31)) % (7237005577332262213973186563042994240857116359379907606001950938285454250989 : Int)) → InR IntKind.u64 x34 → ∀ (x35 : Int), x35 = w2 (valW (List.take x32.toNat (List.drop (0 : Nat) x31)) % (7237005577332262213973186563042994240857116359379907606001950938285454250989 : Int)) → InR IntKind.u64 x35 → ∀ (x36 : Int), x36 = w3 (valW (List.take x32.toNat (List.drop (0 : Nat) x31)) % (7237005577332262213973186563042994240857116359379907606001950938285454250989 : Int)) → InR IntKind.u64 x36 → K (SV.arr IntKind.u64 (4 : Nat) true [x33, x34, x35, x36]) := by
  intros
  kernel_rfl


def rleastS : List SV → Option (List Prop × SV)
  | [.arr .u64 4 _ l] => some ([], .arr .u64 4 true (words4 (val4 l % ell)))
  | _ => none

theorem rleast_ok : CallOk Tryd.prog gh 68 (pureCtr rleastS) := by
  refine call_pure (fn := Tryd.f68) Γ6_ok rfl (by kernel_rfl) (by kernel_rfl) (by kernel_rfl) rleastS fun args p y hs hp hf => ?_
  unfold rleastS at hs
  split at hs
  · rename_i e1 l
    simp only [Option.some.injEq, Prod.mk.injEq] at hs
    obtain ⟨rfl, rfl⟩ := hs
    simp only [FactVs, FactV] at hf
    obtain ⟨⟨hl, h1⟩, _⟩ := hf
    obtain ⟨a0, a1, a2, a3, rfl⟩ := len4 hl
    have i0 := h1 a0 (by simp); have i1 := h1 a1 (by simp); have i2 := h1 a2 (by simp); have i3 := h1 a3 (by simp)
    refine ⟨[.arr .u64 4 true [a0, a1, a2, a3]], [], _, ⟨rfl, trivial⟩, Nat.le_of_ble_eq_true (by kernel_rfl), vc_noloops ?_⟩
    show vc68 a0 a1 a2 a3 _ _
    rw [vc68_eq]
    intro x1 e1 r1 x2 e2 r2 x3 e3 r3 x4 e4 r4 x5 e5 r5 x6 e6 r6
    refine ⟨by unfold Need; simp, by unfold Need; simp, fun x7 e7 q7 x8 e8 p8 r8 x9 e9 r9 x10 e10 r10 x11 e11 r11 x12 e12 r12 x13 e13 r13 x14 e14 r14 => ?_⟩
    have f7 : x7 = [x1, x3, x5, x6] := by simpa using e7
    have f8 : x8 = 4 := by rw [e8]; simp
    refine ⟨by unfold Need; rw [f7]; simp, by unfold Need; rw [f8, f7]; simp, by unfold Need; simp, fun x15 e15 q15 x16 e16 p16 r16 x17 e17 r17 x18 e18 r18 x19 e19 r19 x20 e20 r20 x21 e21 r21 x22 e22 r22 => ?_⟩
    have f15 : x15 = [x1, x3, x5, x6, x9, x11, x13, x14] := by rw [e15, f7]; simp
    have f16 : x16 = 8 := by rw [e16, f7]; simp
    refine ⟨by unfold Need; rw [f15]; simp, by unfold Need; rw [f16, f15]; simp, by unfold Need; simp, fun x23 e23 q23 x24 e24 p24 r24 x25 e25 r25 x26 e26 r26 x27 e27 r27 x28 e28 r28 x29 e29 r29 x30 e30 r30 => ?_⟩
    have f23 : x23 = [x1, x3, x5, x6, x9, x11, x13, x14, x17, x19, x21, x22] := by rw [e23, f15]; simp
    have f24 : x24 = 12 := by rw [e24, f15]; simp
    refine ⟨by unfold Need; rw [f23]; simp, by unfold Need; rw [f24, f23]; simp, by unfold Need; simp, fun x31 e31 q31 x32 e32 p32 r32 => ?_⟩
    have f31 : x31 = [x1, x3, x5, x6, x9, x11, x13, x14, x17, x19, x21, x22, x25, x27, x29, x30] := by rw [e31, f23]; simp
    have f32 : x32 = 16 := by rw [e32, f23]; simp
    have hview : List.take x32.toNat (List.drop 0 x31) = x31 := by rw [f32, f31]; rfl
    rw [hview]
    rw [and16 i0] at e1; rw [and16 i1] at e9; rw [and16 i2] at e17; rw [and16 i3] at e25
    rw [shr16] at e2 e10 e18 e26
    rw [shr32] at e4 e12 e20 e28
    rw [shr48] at e6 e14 e22 e30
    rw [and16 r2] at e3; rw [and16 r4] at e5; rw [and16 r10] at e11; rw [and16 r12] at e13; rw [and16 r18] at e19; rw [and16 r20] at e21; rw [and16 r26] at e27; rw [and16 r28] at e29
    simp only [InR] at i0 i1 i2 i3
    have hv : valW x31 = val4 [a0, a1, a2, a3] := by
      rw [f31]; simp only [valW, val4]; omega
    rw [hv]
    refine ⟨by unfold Need; rw [f32, f31]; simp, ?_, fun x33 e33 r33 x34 e34 r34 x35 e35 r35 x36 e36 r36 => ?_⟩
    · unfold Need
      rw [f31]
      intro z hz
      simp only [List.mem_cons, List.not_mem_nil, or_false] at hz
      rcases hz with rfl | rfl | rfl | rfl | rfl | rfl | rfl | rfl | rfl | rfl | rfl | rfl | rfl | rfl | rfl | rfl <;> omega
    · show [x33, x34, x35, x36] = words4 (val4 [a0, a1, a2, a3] % ell)
      rw [e33, e34, e35, e36]; rfl
  · cases hs

end Go.Gx
