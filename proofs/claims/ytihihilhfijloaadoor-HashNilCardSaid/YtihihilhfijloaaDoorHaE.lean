/- The long product; Size. -/
import Derived.Test.YtihihilhfijloaaDoorHaD
namespace Go.Gx
open Go.Proofs Go.Sp
set_option linter.unusedVariables false

theorem wrap_u64 (x : Int) : IntKind.u64.wrap x = x % 18446744073709551616 := by
  simp [IntKind.wrap, IntKind.signed, IntKind.bits]

theorem toBv {a : Int} (h : 0 ≤ a) (h' : a < 18446744073709551616) : (BitVec.ofInt 64 a).toNat = a.toNat := by
  simp [BitVec.toNat_ofInt]; omega

theorem andI_u64 {a m : Int} (ha : InR .u64 a) (hm : InR .u64 m) : andI .u64 a m = ((a.toNat &&& m.toNat : Nat) : Int) := by
  simp only [InR] at ha hm
  unfold andI
  rw [wrap_u64]
  have : (BitVec.ofInt IntKind.u64.bits a &&& BitVec.ofInt IntKind.u64.bits m).toNat = a.toNat &&& m.toNat := by
    show (BitVec.ofInt 64 a &&& BitVec.ofInt 64 m).toNat = _
    rw [BitVec.toNat_and, toBv ha.1 ha.2, toBv hm.1 hm.2]
  rw [this]
  have hle : a.toNat &&& m.toNat ≤ a.toNat := Nat.and_le_left
  omega

theorem and_mask {a : Int} (k : Nat) (hk : k ≤ 64) (ha : InR .u64 a) : andI .u64 a ((2 ^ k - 1 : Nat) : Int) = a % ((2 ^ k : Nat) : Int) := by
  have hk' : 2 ^ k ≤ 2 ^ 64 := Nat.pow_le_pow_right (by omega) hk
  have hpos : 0 < 2 ^ k := Nat.two_pow_pos k
  rw [andI_u64 ha ⟨by omega, by omega⟩]
  have : ((2 ^ k - 1 : Nat) : Int).toNat = 2 ^ k - 1 := by omega
  rw [this, Nat.and_two_pow_sub_one_eq_mod]
  simp only [InR] at ha
  rw [Int.natCast_emod]
  congr 1
  omega

theorem and32 {a : Int} (ha : InR .u64 a) : andI .u64 a 4294967295 = a % 4294967296 := and_mask 32 (by omega) ha

theorem shrI_u64 (a : Int) (k : Nat) (hk : k ≤ 64) : shrI .u64 a (k : Int) = a / ((2 ^ k : Nat) : Int) := by
  unfold shrI
  have : min ((k : Int).toNat) IntKind.u64.bits = k := by simp [IntKind.bits]; omega
  rw [this, Int.fdiv_eq_ediv_of_nonneg]
  · simp
  · exact_mod_cast Nat.zero_le (2 ^ k)
theorem shr32 (a : Int) : shrI .u64 a 32 = a / 4294967296 := shrI_u64 a 32 (by omega)

def mul64S : List SV → Option (List Prop × SV)
  | [.i .u64 x, .i .u64 y] => some ([], .tup [.i .u64 ⟨false, x.z * y.z / 18446744073709551616⟩, .i .u64 ⟨false, x.z * y.z % 18446744073709551616⟩])
  | _ => none

/-- The law of the long product. -/
theorem mul64_law {a b x1 x2 x3 x4 x5 x6 x7 x8 x9 x10 x11 x12 x13 x14 x15 x16 : Int} (ha : 0 ≤ a ∧ a < 18446744073709551616) (hb : 0 ≤ b ∧ b < 18446744073709551616) (e1 : x1 = a % 4294967296) (e2 : x2 = a / 4294967296) (e3 : x3 = b % 4294967296) (e4 : x4 = b / 4294967296)
    (e5 : x5 = x1 * x3 % 18446744073709551616) (e6 : x6 = x2 * x3 % 18446744073709551616) (e7 : x7 = x5 / 4294967296) (e8 : x8 = (x6 + x7) % 18446744073709551616) (e9 : x9 = x8 % 4294967296) (e10 : x10 = x8 / 4294967296)
    (e11 : x11 = x1 * x4 % 18446744073709551616) (e12 : x12 = (x9 + x11) % 18446744073709551616) (e13 : x13 = x2 * x4 % 18446744073709551616) (e14 : x14 = (x13 + x10) % 18446744073709551616) (e15 : x15 = x12 / 4294967296) (e16 : x16 = (x14 + x15) % 18446744073709551616) :
    x16 = a * b / 18446744073709551616 := by
  have h1 : 0 ≤ x1 ∧ x1 ≤ 4294967295 := by omega
  have h2 : 0 ≤ x2 ∧ x2 ≤ 4294967295 := by omega
  have h3 : 0 ≤ x3 ∧ x3 ≤ 4294967295 := by omega
  have h4 : 0 ≤ x4 ∧ x4 ≤ 4294967295 := by omega
  have bd : ∀ {p q : Int}, 0 ≤ p ∧ p ≤ 4294967295 → 0 ≤ q ∧ q ≤ 4294967295 → 0 ≤ p * q ∧ p * q ≤ 18446744065119617025 := fun {p q} hp hq =>
    ⟨Int.mul_nonneg hp.1 hq.1, Int.le_trans (Int.mul_le_mul hp.2 hq.2 hq.1 (by omega)) (by decide)⟩
  have p13 := bd h1 h3
  have p23 := bd h2 h3
  have p14 := bd h1 h4
  have p24 := bd h2 h4
  have hab : a * b = 18446744073709551616 * (x2 * x4) + 4294967296 * (x2 * x3 + x1 * x4) + x1 * x3 := by
    have ea : a = 4294967296 * x2 + x1 := by omega
    have eb : b = 4294967296 * x4 + x3 := by omega
    rw [ea, eb]
    simp only [Int.add_mul, Int.mul_add, Int.mul_assoc, Int.mul_left_comm x2 4294967296, Int.mul_left_comm x1 4294967296]
    omega
  rw [hab]
  generalize x1 * x3 = A at *
  generalize x2 * x3 = B at *
  generalize x1 * x4 = C at *
  generalize x2 * x4 = D at *
  omega

def vc42 (a b : Int) (K : SV → Prop) (Q : Nat → List Pv → Prop) : Prop := fnVc Γ3 Tryd.f42 [] [.i .u64 ⟨false, a⟩, .i .u64 ⟨false, b⟩] gh K Q
theorem vc42_eq : ∀ (a b : Int) (K : SV → Prop) (Q : Nat → List Pv → Prop), vc42 a b K Q = ∀ (x1 : Int), x1 = andI IntKind.u64 a (4294967295 : Int) → InR IntKind.u64 x1 → ∀ (x2 : Int), x2 = shrI IntKind.u64 a (32 : Int) → InR IntKind.u64 x2 → ∀ (x3 : Int), x3 = andI IntKind.u64 b (4294967295 : Int) → InR IntKind.u64 x3 → ∀ (x4 : Int), x4 = shrI IntKind.u64 b (32 : Int) → InR IntKind.u64 x4 → ∀ (x5 : Int), x5 = IntKind.u64.wrap (x1 * x3) → InR IntKind.u64 x5 → ∀ (x6 : Int), x6 = IntKind.u64.wrap (x2 * x3) → InR IntKind.u64 x6 → ∀ (x7 : Int), x7 = shrI IntKind.u64 x5 (32 : Int) → InR IntKind.u64 x7 → ∀ (x8 : Int), x8 = IntKind.u64.wrap (x6 + x7) → InR IntKind.u64 x8 → ∀ (x9 : Int), x9 = andI IntKind.u64 x8 (4294967295 : Int) → InR IntKind.u64 x9 → ∀ (x10 : Int), x10 = shrI IntKind.u64 x8 (32 : Int) → InR IntKind.u64 x10 → ∀ (x11 : Int), x11 = IntKind.u64.wrap (x1 * x4) → InR IntKind.u64 x11 → ∀ (x12 : Int), x12 = IntKind.u64.wrap (x9 + x11) → InR IntKind.u64 x12 → ∀ (x13 : Int), x13 = IntKind.u64.wrap (x2 * x4) → InR IntKind.u64 x13 → ∀ (x14 : Int), x14 = IntKind.u64.wrap (x13 + x10) → InR IntKind.u64 x14 → ∀ (x15 : Int), x15 = shrI IntKind.u64 x12 (32 : Int) → InR IntKind.u64 x15 → ∀ (x16 : Int), x16 = IntKind.u64.wrap (x14 + x15) → InR IntKind.u64 x16 → ∀ (x17 : Int), x17 = IntKind.u64.wrap (a * b) → InR IntKind.u64 x17 → K (SV.tup [SV.i IntKind.u64 { st := false, z := x16 }, SV.i IntKind.u64 { st := false, z := x17 }]) := by
  intros
  kernel_rfl

theorem mul64_ok : CallOk Tryd.prog gh 42 (pureCtr mul64S) := by
  refine call_pure (fn := Tryd.f42) Γ3_ok rfl (by kernel_rfl) (by kernel_rfl) (by kernel_rfl) mul64S fun args p y hs hp hf => ?_
  unfold mul64S at hs
  split at hs
  · rename_i a b
    simp only [Option.some.injEq, Prod.mk.injEq] at hs
    obtain ⟨rfl, rfl⟩ := hs
    simp only [FactVs, FactV] at hf
    obtain ⟨ha, hb, _⟩ := hf
    refine ⟨[.i .u64 ⟨false, a.z⟩, .i .u64 ⟨false, b.z⟩], [], _, ⟨rfl, rfl, trivial⟩, Nat.le_of_ble_eq_true (by kernel_rfl), vc_noloops ?_⟩
    show vc42 a.z b.z _ _
    rw [vc42_eq]
    intro x1 e1 r1 x2 e2 r2 x3 e3 r3 x4 e4 r4 x5 e5 r5 x6 e6 r6 x7 e7 r7 x8 e8 r8 x9 e9 r9 x10 e10 r10 x11 e11 r11 x12 e12 r12 x13 e13 r13 x14 e14 r14 x15 e15 r15 x16 e16 r16 x17 e17 r17
    rw [and32 ha] at e1
    rw [and32 hb] at e3
    rw [and32 r8] at e9
    rw [shr32] at e2 e4 e7 e10 e15
    rw [wrap_u64] at e5 e6 e8 e11 e12 e13 e14 e16 e17
    exact ⟨mul64_law ha hb e1 e2 e3 e4 e5 e6 e7 e8 e9 e10 e11 e12 e13 e14 e15 e16, e17, trivial⟩
  · cases hs


def Γ4 : Tab := ⟨tys, [(42, pureCtr mul64S)] ++ Γ3.ctr, [0, 2], gh⟩
theorem Γ4_ok : TabOk Tryd.prog Γ4 := Γ3_ok.cons mul64_ok
end Go.Gx
