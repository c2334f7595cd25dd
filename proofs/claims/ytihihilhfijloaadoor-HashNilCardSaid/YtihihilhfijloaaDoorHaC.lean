/- One block taken in. -/
import Derived.Test.YtihihilhfijloaaDoorHaB
namespace Go.Sp
open Go.Gx
/-- k bytes of word t. -/
def partw (bl : List Int) (t : Nat) : Nat → Int
  | 0 => 0
  | k + 1 => orI .u64 (shlI .u64 (partw bl t k) 8) (IntKind.u64.wrap (bl.getD (8 * t + k) 0))
/-- The first t words. -/
def prew (bl : List Int) : Nat → List Int
  | 0 => List.replicate 80 0
  | t + 1 => (prew bl t).set t (partw bl t 8)
/-- Word t off the ones ahead of it. -/
def schw (w : List Int) (t : Nat) : Int :=
  IntKind.u64.wrap (IntKind.u64.wrap (IntKind.u64.wrap (xorI .u64 (xorI .u64 (rotL (w.getD (t - 2) 0) (-19)) (rotL (w.getD (t - 2) 0) (-61))) (shrI .u64 (w.getD (t - 2) 0) 6) + w.getD (t - 7) 0) +
    xorI .u64 (xorI .u64 (rotL (w.getD (t - 15) 0) (-1)) (rotL (w.getD (t - 15) 0) (-8))) (shrI .u64 (w.getD (t - 15) 0) 7)) + w.getD (t - 16) 0)
def schs (bl : List Int) : Nat → List Int
  | 0 => prew bl 16
  | i + 1 => (schs bl i).set (16 + i) (schw (schs bl i) (16 + i))
/-- One round. -/
def rndu (k w e f g h : Int) : Int :=
  IntKind.u64.wrap (IntKind.u64.wrap (IntKind.u64.wrap (IntKind.u64.wrap (h + xorI .u64 (xorI .u64 (rotL e (-14)) (rotL e (-18))) (rotL e (-41))) + xorI .u64 (andI .u64 e f) (andI .u64 (notI .u64 e) g)) + k) + w)
def rnda (u a b c : Int) : Int :=
  IntKind.u64.wrap (IntKind.u64.wrap (u + xorI .u64 (xorI .u64 (rotL a (-28)) (rotL a (-34))) (rotL a (-39))) + xorI .u64 (xorI .u64 (andI .u64 a b) (andI .u64 a c)) (andI .u64 b c))
def rnd (k w : Int) : List Int → List Int
  | [a, b, c, d, e, f, g, h] => [rnda (rndu k w e f g h) a b c, a, b, c, IntKind.u64.wrap (d + rndu k w e f g h), e, f, g]
  | l => l
def rnds (w ws : List Int) : Nat → List Int
  | 0 => ws
  | t + 1 => rnd (K80.getD t 0) (w.getD t 0) (rnds w ws t)
def addw : List Int → List Int → List Int
  | x :: r, y :: t => IntKind.u64.wrap (x + y) :: addw r t
  | _, _ => []
/-- The words behind a block. -/
def compr (ws bl : List Int) : List Int := addw ws (rnds (schs bl 64) ws 80)
end Go.Sp
namespace Go.Gx
open Go.Proofs Go.Sp
set_option linter.unusedVariables false

theorem len8 {l : List Int} (h : l.length = 8) : ∃ a b c d e f g i, l = [a, b, c, d, e, f, g, i] := by
  match l, h with
  | [a, b, c, d, e, f, g, i], _ => exact ⟨a, b, c, d, e, f, g, i, rfl⟩
theorem wrap_i64 {x : Int} (h : -9223372036854775808 ≤ x ∧ x < 9223372036854775808) : IntKind.i64.wrap x = x := wrap_of_InR h
theorem getD_set_same (l : List Int) (j : Nat) (x : Int) (h : j < l.length) : (l.set j x).getD j 0 = x := by
  rw [List.getD_eq_getElem?_getD, List.getElem?_set_self h]; rfl
theorem prew_len (bl : List Int) : ∀ t, (prew bl t).length = 80
  | 0 => List.length_replicate
  | t + 1 => by rw [prew, List.length_set, prew_len bl t]
theorem prew_zero (bl : List Int) : ∀ (t j : Nat), t ≤ j → j < 80 → (prew bl t)[j]? = some 0
  | 0, j, _, h => by rw [prew, List.getElem?_replicate, if_pos h]
  | t + 1, j, hj, h => by rw [prew, List.getElem?_set_ne (by omega)]; exact prew_zero bl t j (by omega) h
theorem prew_same (bl : List Int) (t : Nat) (h : t < 80) : (prew bl t).set t 0 = prew bl t := by
  apply List.ext_getElem?
  intro j
  by_cases e : t = j
  · subst e
    rw [List.getElem?_set_self (by rw [prew_len]; exact h), prew_zero bl t t (Nat.le_refl _) h]
  · rw [List.getElem?_set_ne e]
theorem schs_len (bl : List Int) : ∀ i, (schs bl i).length = 80
  | 0 => prew_len bl 16
  | i + 1 => by rw [schs, List.length_set, schs_len bl i]
theorem rnd_len (k w : Int) (l : List Int) (h : l.length = 8) : (rnd k w l).length = 8 := by
  obtain ⟨a, b, c, d, e, f, g, i, rfl⟩ := len8 h; rfl
theorem rnds_len (w ws : List Int) (h : ws.length = 8) : ∀ t, (rnds w ws t).length = 8
  | 0 => h
  | t + 1 => by rw [rnds]; exact rnd_len _ _ _ (rnds_len w ws h t)

def R41 : Heap := gh ++ [(600, .segs false [.arr .u64 8 false [], .arr .u8 128 false [], .one (.i .i64 ⟨false, 0⟩), .one (.b false false)]), (1000, .segs false [.arr .u64 80 false []])]
def L41 : Loops := [(2, ⟨[.p 600 0, .any, .p 1000 0] ++ reps .any 23 ++ [.i .i64 ⟨false, 0⟩] ++ reps .any 179, R41, 2000⟩),
  (5, ⟨[.p 600 0, .any, .p 1000 0, .i .i64 ⟨false, 0⟩] ++ reps .any 22 ++ [.i .i64 ⟨false, 0⟩] ++ reps .any 10 ++ [.sl 600 8 1 ⟨false, 0⟩ ⟨false, 0⟩, .i .i64 ⟨false, 0⟩, .i .i64 ⟨false, 0⟩] ++ reps .any 166, R41, 2000⟩),
  (11, ⟨[.p 600 0, .any, .p 1000 0, .any, .any, .any, .i .i64 ⟨false, 0⟩] ++ reps .any 199, R41, 2000⟩),
  (20, ⟨[.p 600 0, .any, .p 1000 0] ++ reps .any 9 ++ reps (.i .u64 ⟨false, 0⟩) 8 ++ reps .any 97 ++ [.i .i64 ⟨false, 0⟩] ++ reps .any 88, R41, 2000⟩)]
def vc41 (a0 a1 a2 a3 a4 a5 a6 a7 n : Int) (m : Bool) (l : List Int) (K : SV → List Seg → Prop) (Q : Nat → List Pv → Prop) : Prop := fnVcM Γ1 Tryd.f41 L41 [.p 600 0] (gh ++ [(600, .segs false [.arr .u64 8 true [a0, a1, a2, a3, a4, a5, a6, a7], .arr .u8 128 false l, .one (.i .i64 ⟨false, n⟩), .one (.b false m)])]) K Q
def lc41a (t n : Int) (m : Bool) (k ws bl w : List Int) (K : SV → List Seg → Prop) (Q : Nat → List Pv → Prop) : Prop := loopVcM Γ1 Tryd.f41 L41 2 [.z t, .l k, .l ws, .l bl, .z n, .b m, .l w] K Q
def lc41b (t t' off len ln j n : Int) (m : Bool) (k ws bl w : List Int) (K : SV → List Seg → Prop) (Q : Nat → List Pv → Prop) : Prop := loopVcM Γ1 Tryd.f41 L41 5 [.z t, .z t', .z off, .z len, .z ln, .z j, .l k, .l ws, .l bl, .z n, .b m, .l w] K Q
def lc41c (t n : Int) (m : Bool) (k ws bl w : List Int) (K : SV → List Seg → Prop) (Q : Nat → List Pv → Prop) : Prop := loopVcM Γ1 Tryd.f41 L41 11 [.z t, .l k, .l ws, .l bl, .z n, .b m, .l w] K Q
def lc41d (a b c d e f g h t n : Int) (m : Bool) (k ws bl w : List Int) (K : SV → List Seg → Prop) (Q : Nat → List Pv → Prop) : Prop := loopVcM Γ1 Tryd.f41 L41 20 [.z a, .z b, .z c, .z d, .z e, .z f, .z g, .z h, .z t, .l k, .l ws, .l bl, .z n, .b m, .l w] K Q
theorem vc41_eq : ∀ (a0 a1 a2 a3 a4 a5 a6 a7 n : Int) (m : Bool) (l : List Int) (K : SV → List Seg → Prop) (Q : Nat → List Pv → Prop), vc41 a0 a1 a2 a3 a4 a5 a6 a7 n m l K Q = (Same Tryd.f41 (2 : Nat) (itemsOf Tryd.f41 (2 : Nat)) ∧ Q (2 : Nat) [Pv.z (0 : Int), Pv.l K80, Pv.l [a0, a1, a2, a3, a4, a5, a6, a7], Pv.l l, Pv.z n, Pv.b m, Pv.l (List.replicate (80 : Nat) (0 : Int))]) := by
  intros
  kernel_rfl
theorem lc41a_eq : ∀ (t n : Int) (m : Bool) (k ws bl w : List Int) (K : SV → List Seg → Prop) (Q : Nat → List Pv → Prop), lc41a t n m k ws bl w K Q = ((decide (t < (16 : Int)) = true → ∀ (x1 : Int), x1 = IntKind.i64.wrap ((8 : Int) * t) → InR IntKind.i64 x1 → ∀ (x2 : Int), x2 = IntKind.i64.wrap ((8 : Int) * t) → InR IntKind.i64 x2 → ∀ (x3 : Int), x3 = IntKind.i64.wrap (x2 + (8 : Int)) → InR IntKind.i64 x3 → Need ((0 : Int) ≤ x1 ∧ x1 ≤ x3 ∧ x3 ≤ (128 : Int)) ∧ Same Tryd.f41 (5 : Nat) (itemsOf Tryd.f41 (5 : Nat)) ∧ Q (5 : Nat) [Pv.z t, Pv.z t, Pv.z x1, Pv.z (x3 - x1), Pv.z (x3 - x1), Pv.z (0 : Int), Pv.l k, Pv.l ws, Pv.l bl, Pv.z n, Pv.b m, Pv.l w]) ∧ (decide (t < (16 : Int)) = false → Same Tryd.f41 (11 : Nat) (itemsOf Tryd.f41 (11 : Nat)) ∧ Q (11 : Nat) [Pv.z (16 : Int), Pv.l k, Pv.l ws, Pv.l bl, Pv.z n, Pv.b m, Pv.l w])) := by
  intros
  kernel_rfl
theorem lc41b_eq : ∀ (t t' off len ln j n : Int) (m : Bool) (k ws bl w : List Int) (K : SV → List Seg → Prop) (Q : Nat → List Pv → Prop), lc41b t t' off len ln j n m k ws bl w K Q = ((decide (j < ln) = true → Need ((0 : Int) ≤ j ∧ j < len) ∧ Need ((0 : Int) ≤ off + j ∧ off + j < (128 : Int)) ∧ ∀ (x1 : Int), x1 = bl.getD (off + j).toNat (0 : Int) → InR IntKind.u8 x1 → Need ((0 : Int) ≤ t ∧ t < (80 : Int)) ∧ Need ((0 : Int) ≤ t ∧ t < (80 : Int)) ∧ ∀ (x2 : Int), x2 = w.getD t.toNat (0 : Int) → InR IntKind.u64 x2 → ∀ (x3 : Int), x3 = shlI IntKind.u64 x2 (8 : Int) → InR IntKind.u64 x3 → ∀ (x4 : Int), x4 = IntKind.u64.wrap x1 → InR IntKind.u64 x4 → ∀ (x5 : Int), x5 = orI IntKind.u64 x3 x4 → InR IntKind.u64 x5 → Need ((0 : Int) ≤ t ∧ t < (80 : Int)) ∧ Need ((0 : Int) ≤ t ∧ t < (80 : Int)) ∧ ∀ (x6 : List Int), x6 = w.set t.toNat x5 → x6.length = (80 : Nat) → AllR IntKind.u64 x6 → ∀ (x7 : Int), x7 = IntKind.i64.wrap (j + (1 : Int)) → InR IntKind.i64 x7 → Same Tryd.f41 (5 : Nat) (itemsOf Tryd.f41 (5 : Nat)) ∧ Q (5 : Nat) [Pv.z t, Pv.z t', Pv.z off, Pv.z len, Pv.z ln, Pv.z x7, Pv.l k, Pv.l ws, Pv.l bl, Pv.z n, Pv.b m, Pv.l x6]) ∧ (decide (j < ln) = false → ∀ (x8 : Int), x8 = IntKind.i64.wrap (t' + (1 : Int)) → InR IntKind.i64 x8 → Same Tryd.f41 (2 : Nat) (itemsOf Tryd.f41 (2 : Nat)) ∧ Q (2 : Nat) [Pv.z x8, Pv.l k, Pv.l ws, Pv.l bl, Pv.z n, Pv.b m, Pv.l w])) := by
  intros
  kernel_rfl
theorem lc41c_eq : ∀ (t n : Int) (m : Bool) (k ws bl w : List Int) (K : SV → List Seg → Prop) (Q : Nat → List Pv → Prop), lc41c t n m k ws bl w K Q = ((decide (t < (80 : Int)) = true → ∀ (x1 : Int), x1 = IntKind.i64.wrap (t - (2 : Int)) → InR IntKind.i64 x1 → Need ((0 : Int) ≤ x1 ∧ x1 < (80 : Int)) ∧ Need ((0 : Int) ≤ x1 ∧ x1 < (80 : Int)) ∧ ∀ (x2 : Int), x2 = w.getD x1.toNat (0 : Int) → InR IntKind.u64 x2 → ∀ (x3 : Int), x3 = IntKind.i64.wrap (t - (15 : Int)) → InR IntKind.i64 x3 → Need ((0 : Int) ≤ x3 ∧ x3 < (80 : Int)) ∧ Need ((0 : Int) ≤ x3 ∧ x3 < (80 : Int)) ∧ ∀ (x4 : Int), x4 = w.getD x3.toNat (0 : Int) → InR IntKind.u64 x4 → ∀ (x5 : Int), x5 = rotL x2 (-19 : Int) → InR IntKind.u64 x5 → ∀ (x6 : Int), x6 = rotL x2 (-61 : Int) → InR IntKind.u64 x6 → ∀ (x7 : Int), x7 = xorI IntKind.u64 x5 x6 → InR IntKind.u64 x7 → ∀ (x8 : Int), x8 = shrI IntKind.u64 x2 (6 : Int) → InR IntKind.u64 x8 → ∀ (x9 : Int), x9 = xorI IntKind.u64 x7 x8 → InR IntKind.u64 x9 → ∀ (x10 : Int), x10 = rotL x4 (-1 : Int) → InR IntKind.u64 x10 → ∀ (x11 : Int), x11 = rotL x4 (-8 : Int) → InR IntKind.u64 x11 → ∀ (x12 : Int), x12 = xorI IntKind.u64 x10 x11 → InR IntKind.u64 x12 → ∀ (x13 : Int), x13 = shrI IntKind.u64 x4 (7 : Int) → InR IntKind.u64 x13 → ∀ (x14 : Int), x14 = xorI IntKind.u64 x12 x13 → InR IntKind.u64 x14 → ∀ (x15 : Int), x15 = IntKind.i64.wrap (t - (7 : Int)) → InR IntKind.i64 x15 → Need ((0 : Int) ≤ x15 ∧ x15 < (80 : Int)) ∧ Need ((0 : Int) ≤ x15 ∧ x15 < (80 : Int)) ∧ ∀ (x16 : Int), x16 = w.getD x15.toNat (0 : Int) → InR IntKind.u64 x16 → ∀ (x17 : Int), x17 = IntKind.u64.wrap (x9 + x16) → InR IntKind.u64 x17 → ∀ (x18 : Int), x18 = IntKind.u64.wrap (x17 + x14) → InR IntKind.u64 x18 → ∀ (x19 : Int), x19 = IntKind.i64.wrap (t - (16 : Int)) → InR IntKind.i64 x19 → Need ((0 : Int) ≤ x19 ∧ x19 < (80 : Int)) ∧ Need ((0 : Int) ≤ x19 ∧ x19 < (80 : Int)) ∧ ∀ (x20 : Int), x20 = w.getD x19.toNat (0 : Int) → InR IntKind.u64 x20 → ∀ (x21 : Int), x21 = IntKind.u64.wrap (x18 + x20) → InR IntKind.u64 x21 → Need ((0 : Int) ≤ t ∧ t < (80 : Int)) ∧ Need ((0 : Int) ≤ t ∧ t < (80 : Int)) ∧ ∀ (x22 : List Int), x22 = w.set t.toNat x21 → x22.length = (80 : Nat) → AllR IntKind.u64 x22 → ∀ (x23 : Int), x23 = IntKind.i64.wrap (t + (1 : Int)) → InR IntKind.i64 x23 → Same Tryd.f41 (11 : Nat) (itemsOf Tryd.f41 (11 : Nat)) ∧ Q (11 : Nat) [Pv.z x23, Pv.l k, Pv.l ws, Pv.l bl, Pv.z n, Pv.b m, Pv.l x22]) ∧ (decide (t < (80 : Int)) = false → Same Tryd.f41 (20 : Nat) (itemsOf Tryd.f41 (20 : Nat)) ∧ Q (20 : Nat) [Pv.z (ws.getD (0 : Nat) (0 : Int)), Pv.z (ws.getD (1 : Nat) (0 : Int)), Pv.z (ws.getD (2 : Nat) (0 : Int)), Pv.z (ws.getD (3 : Nat) (0 : Int)), Pv.z (ws.getD (4 : Nat) (0 : Int)), Pv.z (ws.getD (5 : Nat) (0 : Int)), Pv.z (ws.getD (6 : Nat) (0 : Int)), Pv.z (ws.getD (7 : Nat) (0 : Int)), Pv.z (0 : Int), Pv.l k, Pv.l ws, Pv.l bl, Pv.z n, Pv.b m, Pv.l w])) := by
  intros
  kernel_rfl
theorem lc41d_eq : ∀ (a b c d e f g h t n : Int) (m : Bool) (k ws bl w : List Int) (K : SV → List Seg → Prop) (Q : Nat → List Pv → Prop), lc41d a b c d e f g h t n m k ws bl w K Q = ((decide (t < (80 : Int)) = true → ∀ (x1 : Int), x1 = rotL e (-14 : Int) → InR IntKind.u64 x1 → ∀ (x2 : Int), x2 = rotL e (-18 : Int) → InR IntKind.u64 x2 → ∀ (x3 : Int), x3 = xorI IntKind.u64 x1 x2 → InR IntKind.u64 x3 → ∀ (x4 : Int), x4 = rotL e (-41 : Int) → InR IntKind.u64 x4 → ∀ (x5 : Int), x5 = xorI IntKind.u64 x3 x4 → InR IntKind.u64 x5 → ∀ (x6 : Int), x6 = IntKind.u64.wrap (h + x5) → InR IntKind.u64 x6 → ∀ (x7 : Int), x7 = andI IntKind.u64 e f → InR IntKind.u64 x7 → ∀ (x8 : Int), x8 = notI IntKind.u64 e → InR IntKind.u64 x8 → ∀ (x9 : Int), x9 = andI IntKind.u64 x8 g → InR IntKind.u64 x9 → ∀ (x10 : Int), x10 = xorI IntKind.u64 x7 x9 → InR IntKind.u64 x10 → ∀ (x11 : Int), x11 = IntKind.u64.wrap (x6 + x10) → InR IntKind.u64 x11 → Need ((0 : Int) ≤ t ∧ t < (80 : Int)) ∧ Need ((0 : Int) ≤ t ∧ t < (80 : Int)) ∧ ∀ (x12 : Int), x12 = k.getD t.toNat (0 : Int) → InR IntKind.u64 x12 → ∀ (x13 : Int), x13 = IntKind.u64.wrap (x11 + x12) → InR IntKind.u64 x13 → Need ((0 : Int) ≤ t ∧ t < (80 : Int)) ∧ Need ((0 : Int) ≤ t ∧ t < (80 : Int)) ∧ ∀ (x14 : Int), x14 = w.getD t.toNat (0 : Int) → InR IntKind.u64 x14 → ∀ (x15 : Int), x15 = IntKind.u64.wrap (x13 + x14) → InR IntKind.u64 x15 → ∀ (x16 : Int), x16 = rotL a (-28 : Int) → InR IntKind.u64 x16 → ∀ (x17 : Int), x17 = rotL a (-34 : Int) → InR IntKind.u64 x17 → ∀ (x18 : Int), x18 = xorI IntKind.u64 x16 x17 → InR IntKind.u64 x18 → ∀ (x19 : Int), x19 = rotL a (-39 : Int) → InR IntKind.u64 x19 → ∀ (x20 : Int), x20 = xorI IntKind.u64 x18 x19 → InR IntKind.u64 x20 → ∀ (x21 : Int), x21 = IntKind.u64.wrap (d + x15) → InR IntKind.u64 x21 → ∀ (x22 : Int), x22 = IntKind.u64.wrap (x15 + x20) → InR IntKind.u64 x22 → ∀ (x23 : Int), x23 = andI IntKind.u64 a b → InR IntKind.u64 x23 → ∀ (x24 : Int), x24 = andI IntKind.u64 a c → InR IntKind.u64 x24 → ∀ (x25 : Int), x25 = xorI IntKind.u64 x23 x24 → InR IntKind.u64 x25 → ∀ (x26 : Int), x26 = andI IntKind.u64 b c → InR IntKind.u64 x26 → ∀ (x27 : Int), x27 = xorI IntKind.u64 x25 x26 → InR IntKind.u64 x27 → ∀ (x28 : Int), x28 = IntKind.u64.wrap (x22 + x27) → InR IntKind.u64 x28 → ∀ (x29 : Int), x29 = IntKind.i64.wrap (t + (1 : Int)) → InR IntKind.i64 x29 → Same Tryd.f41 (20 : Nat) (itemsOf Tryd.f41 (20 : Nat)) ∧ Q (20 : Nat) [Pv.z x28, Pv.z a, Pv.z b, Pv.z c, Pv.z x21, Pv.z e, Pv.z f, Pv.z g, Pv.z x29, Pv.l k, Pv.l ws, Pv.l bl, Pv.z n, Pv.b m, Pv.l w]) ∧ (decide (t < (80 : Int)) = false → ∀ (x30 : Int), x30 = IntKind.u64.wrap (ws.getD (0 : Nat) (0 : Int) + a) → InR IntKind.u64 x30 → ∀ (x31 : Int), x31 = IntKind.u64.wrap ((ws.set (0 : Nat) x30).getD (1 : Nat) (0 : Int) + b) → InR IntKind.u64 x31 → ∀ (x32 : Int), x32 = IntKind.u64.wrap (((ws.set (0 : Nat) x30).set (1 : Nat) x31).getD (2 : Nat) (0 : Int) + c) → InR IntKind.u64 x32 → ∀ (x33 : Int), x33 = IntKind.u64.wrap ((((ws.set (0 : Nat) x30).set (1 : Nat) x31).set (2 : Nat) x32).getD (3 : Nat) (0 : Int) + d) → InR IntKind.u64 x33 → ∀ (x34 : Int), x34 = IntKind.u64.wrap (((((ws.set (0 : Nat) x30).set (1 : Nat) x31).set (2 : Nat) x32).set (3 : Nat) x33).getD (4 : Nat) (0 : Int) + e) → InR IntKind.u64 x34 → ∀ (x35 : Int), x35 = IntKind.u64.wrap ((((((ws.set (0 : Nat) x30).set (1 : Nat) x31).set (2 : Nat) x32).set (3 : Nat) x33).set (4 : Nat) x34).getD (5 : Nat) (0 : Int) + f) → InR IntKind.u64 x35 → ∀ (x36 : Int), x36 = IntKind.u64.wrap (((((((ws.set (0 : Nat) x30).set (1 : Nat) x31).set (2 : Nat) x32).set (3 : Nat) x33).set (4 : Nat) x34).set (5 : Nat) x35).getD (6 : Nat) (0 : Int) + g) → InR IntKind.u64 x36 → ∀ (x37 : Int), x37 = IntKind.u64.wrap ((((((((ws.set (0 : Nat) x30).set (1 : Nat) x31).set (2 : Nat) x32).set (3 : Nat) x33).set (4 : Nat) x34).set (5 : Nat) x35).set (6 : Nat) x36).getD (7 : Nat) (0 : Int) + h) → InR IntKind.u64 x37 → K (SV.tup []) [Seg.arr IntKind.u64 (8 : Nat) false ((((((((ws.set (0 : Nat) x30).set (1 : Nat) x31).set (2 : Nat) x32).set (3 : Nat) x33).set (4 : Nat) x34).set (5 : Nat) x35).set (6 : Nat) x36).set (7 : Nat) x37), Seg.arr IntKind.u8 (128 : Nat) false bl, Seg.one (SV.i IntKind.i64 { st := false, z := n }), Seg.one (SV.b false m)])) := by
  intros
  kernel_rfl

def inv41 (ws bl : List Int) (n : Int) (m : Bool) (key : Nat) (ps : List Pv) (mm : Nat) : Prop :=
  (key = 2 ∧ ∃ t : Nat, t ≤ 16 ∧ ps = [.z (t : Int), .l K80, .l ws, .l bl, .z n, .b m, .l (prew bl t)] ∧ mm = 2000 + (16 - t) * 20) ∨
  (key = 5 ∧ ∃ t j : Nat, t < 16 ∧ j ≤ 8 ∧ ps = [.z (t : Int), .z (t : Int), .z ((8 * t : Nat) : Int), .z 8, .z 8, .z (j : Int), .l K80, .l ws, .l bl, .z n, .b m, .l ((prew bl t).set t (partw bl t j))] ∧ mm = 2000 + (15 - t) * 20 + 10 + (8 - j)) ∨
  (key = 11 ∧ ∃ i : Nat, i ≤ 64 ∧ ps = [.z ((16 + i : Nat) : Int), .l K80, .l ws, .l bl, .z n, .b m, .l (schs bl i)] ∧ mm = 1000 + (64 - i)) ∨
  (key = 20 ∧ ∃ (t : Nat) (a b c d e f g h : Int), t ≤ 80 ∧ rnds (schs bl 64) ws t = [a, b, c, d, e, f, g, h] ∧ ps = [.z a, .z b, .z c, .z d, .z e, .z f, .z g, .z h, .z (t : Int), .l K80, .l ws, .l bl, .z n, .b m, .l (schs bl 64)] ∧ mm = 80 - t)

def takeS : List Seg → List SV → Option (List Prop × SV × List Seg)
  | [.arr .u64 8 _ ws, .arr .u8 128 _ bl, .one (.i .i64 n), .one (.b _ m)], [] => some ([], .tup [], [.arr .u64 8 false (compr ws bl), .arr .u8 128 false bl, .one (.i .i64 ⟨false, n.z⟩), .one (.b false m)])
  | _, _ => none

set_option maxHeartbeats 2000000 in
theorem take_ok : CallOk Tryd.prog gh 41 (methCtr takeS) := by
  refine call_meth (fn := Tryd.f41) Γ1_ok rfl (fun g hg => by have hg : g ∈ [0, 2] := hg; simp at hg; omega) (by kernel_rfl) (by kernel_rfl) (by kernel_rfl) takeS fun l rest p v l' hs hp hf hr => ?_
  unfold takeS at hs
  split at hs
  · rename_i e1 ws e2 bl n e3 m
    simp only [Option.some.injEq, Prod.mk.injEq] at hs
    obtain ⟨rfl, rfl, rfl⟩ := hs
    obtain ⟨⟨hws, _⟩, ⟨hbl, hblr⟩, hn, _, _⟩ := hf
    refine ⟨fun dm ρ cs hcs => ?_, ?_⟩
    · obtain ⟨c1, c2, h1, rfl, _⟩ := hcs
      rw [List.length_append, h1.2.2, List.length_map, hws]; omega
    obtain ⟨a0, a1, a2, a3, a4, a5, a6, a7, rfl⟩ := len8 hws
    obtain ⟨nT, n⟩ := n
    dsimp only at *
    refine ⟨[.arr .u64 8 true [a0, a1, a2, a3, a4, a5, a6, a7], .arr .u8 128 false bl, .one (.i .i64 ⟨false, n⟩), .one (.b false m)], [], L41, inv41 [a0, a1, a2, a3, a4, a5, a6, a7] bl n m, ⟨⟨rfl, rfl, rfl⟩, ⟨rfl, rfl, rfl⟩, ⟨rfl, rfl⟩, ⟨rfl, rfl⟩, trivial⟩, trivial, Nat.le_of_ble_eq_true (by kernel_rfl), ?_, ?_, ?_⟩
    · intro k t ht g hg
      have hg : g ∈ [0, 2, 600] := hg
      simp only [List.mem_cons, List.not_mem_nil, or_false] at hg
      simp only [L41, List.mem_cons, List.not_mem_nil, or_false, Prod.mk.injEq] at ht
      rcases ht with ⟨rfl, rfl⟩ | ⟨rfl, rfl⟩ | ⟨rfl, rfl⟩ | ⟨rfl, rfl⟩ <;> rcases hg with rfl | rfl | rfl <;> exact ⟨by omega, rfl⟩
    · rintro vk t ps mm ht hinv
      simp only [L41, List.mem_cons, List.not_mem_nil, or_false, Prod.mk.injEq] at ht
      rcases hinv with ⟨hk, t', ht', rfl, rfl⟩ | ⟨hk, t', j, ht', hj, rfl, rfl⟩ | ⟨hk, i, hi, rfl, rfl⟩ | ⟨hk, t', a, b, c, d, e, f, g, h, ht', hst, rfl, rfl⟩
      · rw [hk] at ht
        have ht := (by rcases ht with ⟨h9, e9⟩ | ⟨h9, e9⟩ | ⟨h9, e9⟩ | ⟨h9, e9⟩ <;> first | exact absurd h9 (by decide) | exact e9 : t = (L41.getD 0 (0, ⟨[], [], 0⟩)).2)
        subst ht
        subst hk
        show lc41a (t' : Int) n m K80 [a0, a1, a2, a3, a4, a5, a6, a7] bl (prew bl t') _ _
        rw [lc41a_eq]
        refine ⟨fun hlt => ?_, fun hge => ?_⟩
        · have hlt := of_decide_eq_true hlt
          intro x1 e1 _ x2 e2 _ x3 e3 _
          rw [wrap_i64 (by omega)] at e1 e2
          rw [wrap_i64 (by omega)] at e3
          refine ⟨need_of (by omega), rfl, 2000 + (15 - t') * 20 + 10 + (8 - 0), by omega, .inr (.inl ⟨rfl, t', 0, by omega, by omega, ?_, rfl⟩)⟩
          rw [show partw bl t' 0 = 0 from rfl, prew_same bl t' (by omega), show x1 = ((8 * t' : Nat) : Int) by omega, show x3 - ((8 * t' : Nat) : Int) = 8 by omega]
          rfl
        · have hge := of_decide_eq_false hge
          obtain rfl : t' = 16 := by omega
          exact ⟨rfl, 1000 + (64 - 0), by omega, .inr (.inr (.inl ⟨rfl, 0, by omega, rfl, rfl⟩))⟩
      · rw [hk] at ht
        have ht := (by rcases ht with ⟨h9, e9⟩ | ⟨h9, e9⟩ | ⟨h9, e9⟩ | ⟨h9, e9⟩ <;> first | exact absurd h9 (by decide) | exact e9 : t = (L41.getD 1 (0, ⟨[], [], 0⟩)).2)
        subst ht
        subst hk
        show lc41b (t' : Int) (t' : Int) ((8 * t' : Nat) : Int) 8 8 (j : Int) n m K80 [a0, a1, a2, a3, a4, a5, a6, a7] bl ((prew bl t').set t' (partw bl t' j)) _ _
        rw [lc41b_eq]
        refine ⟨fun hlt => ?_, fun hge => ?_⟩
        · have hlt := of_decide_eq_true hlt
          refine ⟨need_of (by omega), need_of (by omega), fun x1 e1 _ => ⟨need_of (by omega), need_of (by omega), fun x2 e2 _ x3 e3 _ x4 e4 _ x5 e5 _ => ⟨need_of (by omega), need_of (by omega), fun x6 e6 _ _ x7 e7 _ => ?_⟩⟩⟩
          rw [Int.toNat_natCast, getD_set_same _ _ _ (by rw [prew_len]; omega)] at e2
          rw [Int.toNat_natCast, List.set_set] at e6
          rw [wrap_i64 (by omega)] at e7
          have hx5 : x5 = partw bl t' (j + 1) := by
            rw [e5, e3, e4, e2, e1, show (((8 * t' : Nat) : Int) + (j : Int)).toNat = 8 * t' + j by omega]; rfl
          refine ⟨rfl, 2000 + (15 - t') * 20 + 10 + (8 - (j + 1)), by omega, .inr (.inl ⟨rfl, t', j + 1, ht', by omega, ?_, rfl⟩)⟩
          rw [e6, hx5, show x7 = ((j + 1 : Nat) : Int) by omega]
        · have hge := of_decide_eq_false hge
          obtain rfl : j = 8 := by omega
          intro x8 e8 _
          rw [wrap_i64 (by omega)] at e8
          refine ⟨rfl, 2000 + (16 - (t' + 1)) * 20, by omega, .inl ⟨rfl, t' + 1, by omega, ?_, rfl⟩⟩
          rw [show x8 = ((t' + 1 : Nat) : Int) by omega]; rfl
      · rw [hk] at ht
        have ht := (by rcases ht with ⟨h9, e9⟩ | ⟨h9, e9⟩ | ⟨h9, e9⟩ | ⟨h9, e9⟩ <;> first | exact absurd h9 (by decide) | exact e9 : t = (L41.getD 2 (0, ⟨[], [], 0⟩)).2)
        subst ht
        subst hk
        show lc41c ((16 + i : Nat) : Int) n m K80 [a0, a1, a2, a3, a4, a5, a6, a7] bl (schs bl i) _ _
        rw [lc41c_eq]
        refine ⟨fun hlt => ?_, fun hge => ?_⟩
        · have hlt := of_decide_eq_true hlt
          intro x1 e1 _
          rw [wrap_i64 (by omega)] at e1
          refine ⟨need_of (by omega), need_of (by omega), fun x2 e2 _ x3 e3 _ => ?_⟩
          rw [wrap_i64 (by omega)] at e3
          refine ⟨need_of (by omega), need_of (by omega), fun x4 e4 _ x5 e5 _ x6 e6 _ x7 e7 _ x8 e8 _ x9 e9 _ x10 e10 _ x11 e11 _ x12 e12 _ x13 e13 _ x14 e14 _ x15 e15 _ => ?_⟩
          rw [wrap_i64 (by omega)] at e15
          refine ⟨need_of (by omega), need_of (by omega), fun x16 e16 _ x17 e17 _ x18 e18 _ x19 e19 _ => ?_⟩
          rw [wrap_i64 (by omega)] at e19
          refine ⟨need_of (by omega), need_of (by omega), fun x20 e20 _ x21 e21 _ => ⟨need_of (by omega), need_of (by omega), fun x22 e22 _ _ x23 e23 _ => ?_⟩⟩
          rw [wrap_i64 (by omega)] at e23
          have hx : x21 = schw (schs bl i) (16 + i) := by
            rw [e21, e18, e17, e9, e7, e5, e6, e8, e14, e12, e10, e11, e13, e2, e4, e16, e20, e1, e3, e15, e19]
            unfold schw
            rw [show (((16 + i : Nat) : Int) - 2).toNat = 16 + i - 2 by omega, show (((16 + i : Nat) : Int) - 15).toNat = 16 + i - 15 by omega, show (((16 + i : Nat) : Int) - 7).toNat = 16 + i - 7 by omega, show (((16 + i : Nat) : Int) - 16).toNat = 16 + i - 16 by omega]
          refine ⟨rfl, 1000 + (64 - (i + 1)), by omega, .inr (.inr (.inl ⟨rfl, i + 1, by omega, ?_, rfl⟩))⟩
          rw [e22, hx, Int.toNat_natCast, show x23 = ((16 + (i + 1) : Nat) : Int) by omega]; rfl
        · have hge := of_decide_eq_false hge
          obtain rfl : i = 64 := by omega
          exact ⟨rfl, 80 - 0, by omega, .inr (.inr (.inr ⟨rfl, 0, a0, a1, a2, a3, a4, a5, a6, a7, by omega, rfl, rfl, rfl⟩))⟩
      · rw [hk] at ht
        have ht := (by rcases ht with ⟨h9, e9⟩ | ⟨h9, e9⟩ | ⟨h9, e9⟩ | ⟨h9, e9⟩ <;> first | exact absurd h9 (by decide) | exact e9 : t = (L41.getD 3 (0, ⟨[], [], 0⟩)).2)
        subst ht
        subst hk
        show lc41d a b c d e f g h (t' : Int) n m K80 [a0, a1, a2, a3, a4, a5, a6, a7] bl (schs bl 64) _ _
        rw [lc41d_eq]
        refine ⟨fun hlt => ?_, fun hge => ?_⟩
        · have hlt := of_decide_eq_true hlt
          intro x1 e1 _ x2 e2 _ x3 e3 _ x4 e4 _ x5 e5 _ x6 e6 _ x7 e7 _ x8 e8 _ x9 e9 _ x10 e10 _ x11 e11 _
          refine ⟨need_of (by omega), need_of (by omega), fun x12 e12 _ x13 e13 _ => ⟨need_of (by omega), need_of (by omega), fun x14 e14 _ x15 e15 _ x16 e16 _ x17 e17 _ x18 e18 _ x19 e19 _ x20 e20 _ x21 e21 _ x22 e22 _ x23 e23 _ x24 e24 _ x25 e25 _ x26 e26 _ x27 e27 _ x28 e28 _ x29 e29 _ => ?_⟩⟩
          rw [wrap_i64 (by omega)] at e29
          rw [Int.toNat_natCast] at e12 e14
          have hu : x15 = rndu (K80.getD t' 0) ((schs bl 64).getD t' 0) e f g h := by
            rw [e15, e13, e11, e6, e5, e3, e1, e2, e4, e10, e7, e9, e8, e12, e14]; rfl
          have ha : x28 = rnda (rndu (K80.getD t' 0) ((schs bl 64).getD t' 0) e f g h) a b c := by
            rw [e28, e22, e20, e18, e16, e17, e19, e27, e25, e23, e24, e26, hu]; rfl
          refine ⟨rfl, 80 - (t' + 1), by omega, .inr (.inr (.inr ⟨rfl, t' + 1, x28, a, b, c, x21, e, f, g, by omega, ?_, ?_, rfl⟩))⟩
          · rw [rnds, hst, rnd, ha, e21, hu]
          · rw [show x29 = ((t' + 1 : Nat) : Int) by omega]
        · have hge := of_decide_eq_false hge
          obtain rfl : t' = 80 := by omega
          intro x30 e30 _ x31 e31 _ x32 e32 _ x33 e33 _ x34 e34 _ x35 e35 _ x36 e36 _ x37 e37 _
          refine ⟨trivial, ⟨rfl, rfl, ?_⟩, ⟨rfl, rfl, rfl⟩, ⟨rfl, rfl⟩, ⟨rfl, rfl⟩, trivial⟩
          unfold compr
          rw [hst]
          rw [e30] at e31 e32 e33 e34 e35 e36 e37 ⊢
          rw [e31, e32, e33, e34, e35, e36, e37]
          rfl
    · show vc41 a0 a1 a2 a3 a4 a5 a6 a7 n m bl _ _
      rw [vc41_eq]
      exact ⟨rfl, 2000 + (16 - 0) * 20, .inl ⟨rfl, 0, by omega, rfl, rfl⟩⟩
  · cases hs
def Γ2 : Tab := ⟨tys, (41, methCtr takeS) :: Γ1.ctr, [0, 2], gh⟩
theorem Γ2_ok : TabOk Tryd.prog Γ2 := Γ1_ok.cons take_ok
end Go.Gx
