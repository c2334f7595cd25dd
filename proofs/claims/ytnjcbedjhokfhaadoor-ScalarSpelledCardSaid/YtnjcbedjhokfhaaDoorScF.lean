/- The reference's difference. -/
import Derived.Test.YtnjcbedjhokfhaaDoorScE
namespace Go.Gx
open Go.Proofs Go.Sp
set_option linter.unusedVariables false

/-- The loop of the reference's difference, at its head. -/
def L76 : Loops := [(4, ⟨[.any, .any, .p 1000 0, .p 1001 0, .p 1002 0, .any, .p 1004 0, .i .u64 ⟨false, 0⟩, .i .i64 ⟨false, 0⟩] ++ reps .any 33,
  gh ++ [(1000, .segs false [.arr .u64 4 false []]), (1001, .segs false [.arr .u64 4 false []]), (1002, .segs false [.arr .u64 4 false []]), (1004, .segs false [.arr .u64 4 false []])], 1010⟩)]
def vc76 (a0 a1 a2 a3 b0 b1 b2 b3 : Int) (K : SV → Prop) (Q : Nat → List Pv → Prop) : Prop := fnVc Γ3 Tryd.f76 L76 [.arr .u64 4 true [a0, a1, a2, a3], .arr .u64 4 true [b0, b1, b2, b3]] gh K Q
theorem vc76_eq : ∀ (a0 a1 a2 a3 b0 b1 b2 b3 : Int) (K : SV → Prop) (Q : Nat → List Pv → Prop), vc76 a0 a1 a2 a3 b0 b1 b2 b3 K Q = (Same Tryd.f76 (4 : Nat) (itemsOf Tryd.f76 (4 : Nat)) ∧ Q (4 : Nat) [Pv.z (0 : Int), Pv.z (0 : Int), Pv.l [a0, a1, a2, a3], Pv.l [b0, b1, b2, b3], Pv.l [(0 : Int), (0 : Int), (0 : Int), (0 : Int)], Pv.l [(0 : Int), (0 : Int), (0 : Int), (0 : Int)]]) := by
  intros
  kernel_rfl


def lc76 (c i : Int) (a b r o : List Int) (K : SV → Prop) (Q : Nat → List Pv → Prop) : Prop := loopVc Γ3 Tryd.f76 L76 4 [.z c, .z i, .l a, .l b, .l r, .l o] K Q
theorem lc76_eq : ∀ (c i : Int) (a b r o : List Int) (K : SV → Prop) (Q : Nat → List Pv → Prop), lc76 c i a b r o K Q = ((decide (i < (4 : Int)) = true → Need ((0 : Int) ≤ i ∧ i < (4 : Int)) ∧ Need ((0 : Int) ≤ i ∧ i < (4 : Int)) ∧ ∀ (x1 : Int), x1 = a.getD i.toNat (0 : Int) → InR IntKind.u64 x1 → Need ((0 : Int) ≤ i ∧ i < (4 : Int)) ∧ Need ((0 : Int) ≤ i ∧ i < (4 : Int)) ∧ ∀ (x2 : Int), x2 = b.getD i.toNat (0 : Int) → InR IntKind.u64 x2 → ∀ (x3 : Int), x3 = IntKind.u64.wrap (x1 - x2) → InR IntKind.u64 x3 → Need ((0 : Int) ≤ i ∧ i < (4 : Int)) ∧ Need ((0 : Int) ≤ i ∧ i < (4 : Int)) ∧ ∀ (x4 : Int), x4 = a.getD i.toNat (0 : Int) → InR IntKind.u64 x4 → Need ((0 : Int) ≤ i ∧ i < (4 : Int)) ∧ Need ((0 : Int) ≤ i ∧ i < (4 : Int)) ∧ ∀ (x5 : Int), x5 = b.getD i.toNat (0 : Int) → InR IntKind.u64 x5 → (decide (x4 < x5) = true → ∀ (x6 : Int), x6 = IntKind.u64.wrap (x3 - c) → InR IntKind.u64 x6 → (decide (x3 < c) = true → Need ((0 : Int) ≤ i ∧ i < (4 : Int)) ∧ Need ((0 : Int) ≤ i ∧ i < (4 : Int)) ∧ ∀ (x7 : List Int), x7 = o.set i.toNat x6 → x7.length = (4 : Nat) → AllR IntKind.u64 x7 → ∀ (x8 : Int), x8 = IntKind.i64.wrap (i + (1 : Int)) → InR IntKind.i64 x8 → Same Tryd.f76 (4 : Nat) (itemsOf Tryd.f76 (4 : Nat)) ∧ Q (4 : Nat) [Pv.z (1 : Int), Pv.z x8, Pv.l a, Pv.l b, Pv.l r, Pv.l x7]) ∧ (decide (x3 < c) = false → Need ((0 : Int) ≤ i ∧ i < (4 : Int)) ∧ Need ((0 : Int) ≤ i ∧ i < (4 : Int)) ∧ ∀ (x9 : List Int), x9 = o.set i.toNat x6 → x9.length = (4 : Nat) → AllR IntKind.u64 x9 → ∀ (x10 : Int), x10 = IntKind.i64.wrap (i + (1 : Int)) → InR IntKind.i64 x10 → Same Tryd.f76 (4 : Nat) (itemsOf Tryd.f76 (4 : Nat)) ∧ Q (4 : Nat) [Pv.z (1 : Int), Pv.z x10, Pv.l a, Pv.l b, Pv.l r, Pv.l x9])) ∧ (decide (x4 < x5) = false → ∀ (x11 : Int), x11 = IntKind.u64.wrap (x3 - c) → InR IntKind.u64 x11 → (decide (x3 < c) = true → Need ((0 : Int) ≤ i ∧ i < (4 : Int)) ∧ Need ((0 : Int) ≤ i ∧ i < (4 : Int)) ∧ ∀ (x12 : List Int), x12 = o.set i.toNat x11 → x12.length = (4 : Nat) → AllR IntKind.u64 x12 → ∀ (x13 : Int), x13 = IntKind.i64.wrap (i + (1 : Int)) → InR IntKind.i64 x13 → Same Tryd.f76 (4 : Nat) (itemsOf Tryd.f76 (4 : Nat)) ∧ Q (4 : Nat) [Pv.z (1 : Int), Pv.z x13, Pv.l a, Pv.l b, Pv.l r, Pv.l x12]) ∧ (decide (x3 < c) = false → Need ((0 : Int) ≤ i ∧ i < (4 : Int)) ∧ Need ((0 : Int) ≤ i ∧ i < (4 : Int)) ∧ ∀ (x14 : List Int), x14 = o.set i.toNat x11 → x14.length = (4 : Nat) → AllR IntKind.u64 x14 → ∀ (x15 : Int), x15 = IntKind.i64.wrap (i + (1 : Int)) → InR IntKind.i64 x15 → Same Tryd.f76 (4 : Nat) (itemsOf Tryd.f76 (4 : Nat)) ∧ Q (4 : Nat) [Pv.z (0 : Int), Pv.z x15, Pv.l a, Pv.l b, Pv.l r, Pv.l x14]))) ∧ (decide (i < (4 : Int)) = false → K (SV.tup [SV.arr IntKind.u64 (4 : Nat) false o, SV.i IntKind.u64 { st := false, z := c }]))) := by
  intros
  kernel_rfl


theorem wrap_i64 {x : Int} (h : -9223372036854775808 ≤ x ∧ x < 9223372036854775808) : IntKind.i64.wrap x = x := wrap_of_InR h

/-- One round. -/
theorem round76 {c i : Int} {a b r o : List Int} {K : SV → Prop} {Q : Nat → List Pv → Prop} (hi : 0 ≤ i ∧ i < 4) (hc : c = 0 ∨ c = 1)
    (h : ∀ c' o', (c' = 0 ∨ c' = 1) → InR .u64 o' → o' = a.getD i.toNat 0 - b.getD i.toNat 0 - c + c' * 18446744073709551616 → Q 4 [.z c', .z (i + 1), .l a, .l b, .l r, .l (o.set i.toNat o')]) : lc76 c i a b r o K Q := by
  rw [lc76_eq]
  have hw : IntKind.i64.wrap (i + 1) = i + 1 := wrap_i64 (by omega)
  refine ⟨fun _ => ⟨hi, hi, fun x1 e1 r1 => ⟨hi, hi, fun x2 e2 r2 x3 e3 r3 => ⟨hi, hi, fun x4 e4 r4 => ⟨hi, hi, fun x5 e5 r5 => ?_⟩⟩⟩⟩, fun hn => ?_⟩
  · rw [wrap_u64] at e3
    rw [← e1] at e4
    rw [← e2] at e5
    subst e4 e5
    rw [← e1, ← e2] at h
    simp only [InR] at r1 r2
    refine ⟨fun hlt x6 e6 r6 => ?_, fun hge x6 e6 r6 => ?_⟩
    · have hlt := of_decide_eq_true hlt
      rw [wrap_u64] at e6
      have key : x6 = x4 - x5 - c + 1 * 18446744073709551616 := by omega
      refine ⟨fun _ => ⟨hi, hi, fun y ey _ _ z ez _ => ⟨rfl, ?_⟩⟩, fun _ => ⟨hi, hi, fun y ey _ _ z ez _ => ⟨rfl, ?_⟩⟩⟩ <;>
        (rw [ez, hw, ey]; exact h 1 x6 (.inr rfl) r6 key)
    · have hge := of_decide_eq_false hge
      rw [wrap_u64] at e6
      refine ⟨fun hb => ⟨hi, hi, fun y ey _ _ z ez _ => ⟨rfl, ?_⟩⟩, fun hb => ⟨hi, hi, fun y ey _ _ z ez _ => ⟨rfl, ?_⟩⟩⟩
      · have hb := of_decide_eq_true hb
        rw [ez, hw, ey]; exact h 1 x6 (.inr rfl) r6 (by omega)
      · have hb := of_decide_eq_false hb
        rw [ez, hw, ey]; exact h 0 x6 (.inl rfl) r6 (by omega)
  · have hn := of_decide_eq_false hn
    omega

def inv76 (a0 a1 a2 a3 b0 b1 b2 b3 : Int) (key : Nat) (ps : List Pv) (m : Nat) : Prop :=
  key = 4 ∧ ∃ c i o0 o1 o2 o3, ps = [.z c, .z i, .l [a0, a1, a2, a3], .l [b0, b1, b2, b3], .l [0, 0, 0, 0], .l [o0, o1, o2, o3]] ∧ (m : Int) = 4 - i ∧ (c = 0 ∨ c = 1) ∧ InR .u64 o0 ∧ InR .u64 o1 ∧ InR .u64 o2 ∧ InR .u64 o3 ∧
    ((i = 0 ∧ c = 0) ∨ (i = 1 ∧ o0 = a0 - b0 + c * 18446744073709551616) ∨ (i = 2 ∧ o0 + 18446744073709551616 * o1 = a0 + 18446744073709551616 * a1 - (b0 + 18446744073709551616 * b1) + c * 340282366920938463463374607431768211456) ∨
      (i = 3 ∧ val4 [o0, o1, o2, 0] = val4 [a0, a1, a2, 0] - val4 [b0, b1, b2, 0] + c * 6277101735386680763835789423207666416102355444464034512896) ∨
      (i = 4 ∧ val4 [o0, o1, o2, o3] = val4 [a0, a1, a2, a3] - val4 [b0, b1, b2, b3] + c * 115792089237316195423570985008687907853269984665640564039457584007913129639936))

theorem refMinus_ok : CallOk Tryd.prog gh 76 (pureCtr minusS) := by
  refine call_pure (fn := Tryd.f76) Γ3_ok rfl (by kernel_rfl) (by kernel_rfl) (by kernel_rfl) minusS fun args p y hs hp hf => ?_
  unfold minusS at hs
  split at hs
  · rename_i e1 l e2 l'
    simp only [Option.some.injEq, Prod.mk.injEq] at hs
    obtain ⟨rfl, rfl⟩ := hs
    simp only [FactVs, FactV] at hf
    obtain ⟨⟨hl, h1⟩, ⟨hl', h2⟩, _⟩ := hf
    obtain ⟨a0, a1, a2, a3, rfl⟩ := len4 hl
    obtain ⟨b0, b1, b2, b3, rfl⟩ := len4 hl'
    have i0 := h1 a0 (by simp); have i1 := h1 a1 (by simp); have i2 := h1 a2 (by simp); have i3 := h1 a3 (by simp)
    have j0 := h2 b0 (by simp); have j1 := h2 b1 (by simp); have j2 := h2 b2 (by simp); have j3 := h2 b3 (by simp)
    refine ⟨[.arr .u64 4 true [a0, a1, a2, a3], .arr .u64 4 true [b0, b1, b2, b3]], L76, inv76 a0 a1 a2 a3 b0 b1 b2 b3, ⟨rfl, rfl, trivial⟩, Nat.le_of_ble_eq_true (by kernel_rfl), ?_, ?_, ?_⟩
    · intro k t ht g hg
      simp only [L76, List.mem_singleton, Prod.mk.injEq] at ht
      obtain ⟨rfl, rfl⟩ := ht
      simp only [Γ3, gh, keysOf, List.mem_singleton] at hg
      subst hg
      exact ⟨by omega, rfl⟩
    · rintro key ps m ⟨rfl, c, i, o0, o1, o2, o3, rfl, hm, hc, r0, r1, r2, r3, hcase⟩
      show lc76 c i [a0, a1, a2, a3] [b0, b1, b2, b3] [0, 0, 0, 0] [o0, o1, o2, o3] _ _
      rcases hcase with ⟨rfl, rfl⟩ | ⟨rfl, hv⟩ | ⟨rfl, hv⟩ | ⟨rfl, hv⟩ | ⟨rfl, hv⟩
      · refine round76 (by omega) hc fun c' o' hc' ho' ho => ⟨m - 1, by omega, rfl, c', 1, o', o1, o2, o3, rfl, by omega, hc', ho', r1, r2, r3, .inr (.inl ⟨rfl, ?_⟩)⟩
        have ho : o' = a0 - b0 - 0 + c' * 18446744073709551616 := ho
        omega
      · refine round76 (by omega) hc fun c' o' hc' ho' ho => ⟨m - 1, by omega, rfl, c', 2, o0, o', o2, o3, rfl, by omega, hc', r0, ho', r2, r3, .inr (.inr (.inl ⟨rfl, ?_⟩))⟩
        have ho : o' = a1 - b1 - c + c' * 18446744073709551616 := ho
        omega
      · refine round76 (by omega) hc fun c' o' hc' ho' ho => ⟨m - 1, by omega, rfl, c', 3, o0, o1, o', o3, rfl, by omega, hc', r0, r1, ho', r3, .inr (.inr (.inr (.inl ⟨rfl, ?_⟩)))⟩
        have ho : o' = a2 - b2 - c + c' * 18446744073709551616 := ho
        simp only [val4]
        omega
      · refine round76 (by omega) hc fun c' o' hc' ho' ho => ⟨m - 1, by omega, rfl, c', 4, o0, o1, o2, o', rfl, by omega, hc', r0, r1, r2, ho', .inr (.inr (.inr (.inr ⟨rfl, ?_⟩)))⟩
        have ho : o' = a3 - b3 - c + c' * 18446744073709551616 := ho
        simp only [val4] at hv ⊢
        omega
      · rw [lc76_eq]
        refine ⟨fun h => by simp at h, fun _ => ?_⟩
        have hb := val4_bd r0 r1 r2 r3
        have ha := val4_bd i0 i1 i2 i3
        have hb' := val4_bd j0 j1 j2 j3
        refine ⟨?_, ?_, trivial⟩
        · show [o0, o1, o2, o3] = words4 (val4 [a0, a1, a2, a3] - val4 [b0, b1, b2, b3])
          rw [← words_val r0 r1 r2 r3, hv]
          simp only [words4, w0, w1, w2, w3, List.cons.injEq, and_true]
          refine ⟨?_, ?_, ?_, ?_⟩ <;> omega
        · show c = ltI (val4 [a0, a1, a2, a3]) (val4 [b0, b1, b2, b3])
          unfold ltI
          split <;> omega
    · show vc76 a0 a1 a2 a3 b0 b1 b2 b3 _ _
      rw [vc76_eq]
      exact ⟨rfl, 4, rfl, 0, 0, 0, 0, 0, 0, rfl, by omega, .inl rfl, inR_zero _, inR_zero _, inR_zero _, inR_zero _, .inl ⟨rfl, rfl⟩⟩
  · cases hs

end Go.Gx
