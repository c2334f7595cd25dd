/- Part 5 of the proof: the evaluator of the code, its soundness, and what it shows of the functions. -/
import Derived.Test.YthgclfedhgmpiaaDoorM4

/- Size and Sum of a record. -/
namespace Go.Sp
open Go.Gx
def hin (n : Int) : Int := IntKind.u64.wrap n * 8 / 18446744073709551616
def lon (n : Int) : Int := IntKind.u64.wrap n * 8 % 18446744073709551616
def setlen (b : List Int) (n : Int) : List Int := ((((((((((((((((b).set 119 (IntKind.u8.wrap (shrI .u64 (hin n) 0))).set 127 (IntKind.u8.wrap (shrI .u64 (lon n) 0))).set 118 (IntKind.u8.wrap (shrI .u64 (hin n) 8))).set 126 (IntKind.u8.wrap (shrI .u64 (lon n) 8))).set 117 (IntKind.u8.wrap (shrI .u64 (hin n) 16))).set 125 (IntKind.u8.wrap (shrI .u64 (lon n) 16))).set 116 (IntKind.u8.wrap (shrI .u64 (hin n) 24))).set 124 (IntKind.u8.wrap (shrI .u64 (lon n) 24))).set 115 (IntKind.u8.wrap (shrI .u64 (hin n) 32))).set 123 (IntKind.u8.wrap (shrI .u64 (lon n) 32))).set 114 (IntKind.u8.wrap (shrI .u64 (hin n) 40))).set 122 (IntKind.u8.wrap (shrI .u64 (lon n) 40))).set 113 (IntKind.u8.wrap (shrI .u64 (hin n) 48))).set 121 (IntKind.u8.wrap (shrI .u64 (lon n) 48))).set 112 (IntKind.u8.wrap (shrI .u64 (hin n) 56))).set 120 (IntKind.u8.wrap (shrI .u64 (lon n) 56))
def endb (bl : List Int) (n : Int) : List Int := (splice bl (n.tmod 128).toNat (List.replicate (128 - n.tmod 128).toNat 0)).set (n.tmod 128).toNat 128
def finw (ws bl : List Int) (n : Int) : List Int :=
  if n.tmod 128 ≥ 112 then compr (compr ws (endb bl n)) (setlen (splice (endb bl n) 0 (List.replicate 128 0)) n) else compr ws (setlen (endb bl n) n)
def outb (w : List Int) : List Int := ((((((((((((((((((((((((((((((((((((((((((((((((((((((((((((((((List.replicate 64 (0 : Int)).set 0 (IntKind.u8.wrap (shrI .u64 (w.getD 0 0) 56))).set 1 (IntKind.u8.wrap (shrI .u64 (w.getD 0 0) 48))).set 2 (IntKind.u8.wrap (shrI .u64 (w.getD 0 0) 40))).set 3 (IntKind.u8.wrap (shrI .u64 (w.getD 0 0) 32))).set 4 (IntKind.u8.wrap (shrI .u64 (w.getD 0 0) 24))).set 5 (IntKind.u8.wrap (shrI .u64 (w.getD 0 0) 16))).set 6 (IntKind.u8.wrap (shrI .u64 (w.getD 0 0) 8))).set 7 (IntKind.u8.wrap (shrI .u64 (w.getD 0 0) 0))).set 8 (IntKind.u8.wrap (shrI .u64 (w.getD 1 0) 56))).set 9 (IntKind.u8.wrap (shrI .u64 (w.getD 1 0) 48))).set 10 (IntKind.u8.wrap (shrI .u64 (w.getD 1 0) 40))).set 11 (IntKind.u8.wrap (shrI .u64 (w.getD 1 0) 32))).set 12 (IntKind.u8.wrap (shrI .u64 (w.getD 1 0) 24))).set 13 (IntKind.u8.wrap (shrI .u64 (w.getD 1 0) 16))).set 14 (IntKind.u8.wrap (shrI .u64 (w.getD 1 0) 8))).set 15 (IntKind.u8.wrap (shrI .u64 (w.getD 1 0) 0))).set 16 (IntKind.u8.wrap (shrI .u64 (w.getD 2 0) 56))).set 17 (IntKind.u8.wrap (shrI .u64 (w.getD 2 0) 48))).set 18 (IntKind.u8.wrap (shrI .u64 (w.getD 2 0) 40))).set 19 (IntKind.u8.wrap (shrI .u64 (w.getD 2 0) 32))).set 20 (IntKind.u8.wrap (shrI .u64 (w.getD 2 0) 24))).set 21 (IntKind.u8.wrap (shrI .u64 (w.getD 2 0) 16))).set 22 (IntKind.u8.wrap (shrI .u64 (w.getD 2 0) 8))).set 23 (IntKind.u8.wrap (shrI .u64 (w.getD 2 0) 0))).set 24 (IntKind.u8.wrap (shrI .u64 (w.getD 3 0) 56))).set 25 (IntKind.u8.wrap (shrI .u64 (w.getD 3 0) 48))).set 26 (IntKind.u8.wrap (shrI .u64 (w.getD 3 0) 40))).set 27 (IntKind.u8.wrap (shrI .u64 (w.getD 3 0) 32))).set 28 (IntKind.u8.wrap (shrI .u64 (w.getD 3 0) 24))).set 29 (IntKind.u8.wrap (shrI .u64 (w.getD 3 0) 16))).set 30 (IntKind.u8.wrap (shrI .u64 (w.getD 3 0) 8))).set 31 (IntKind.u8.wrap (shrI .u64 (w.getD 3 0) 0))).set 32 (IntKind.u8.wrap (shrI .u64 (w.getD 4 0) 56))).set 33 (IntKind.u8.wrap (shrI .u64 (w.getD 4 0) 48))).set 34 (IntKind.u8.wrap (shrI .u64 (w.getD 4 0) 40))).set 35 (IntKind.u8.wrap (shrI .u64 (w.getD 4 0) 32))).set 36 (IntKind.u8.wrap (shrI .u64 (w.getD 4 0) 24))).set 37 (IntKind.u8.wrap (shrI .u64 (w.getD 4 0) 16))).set 38 (IntKind.u8.wrap (shrI .u64 (w.getD 4 0) 8))).set 39 (IntKind.u8.wrap (shrI .u64 (w.getD 4 0) 0))).set 40 (IntKind.u8.wrap (shrI .u64 (w.getD 5 0) 56))).set 41 (IntKind.u8.wrap (shrI .u64 (w.getD 5 0) 48))).set 42 (IntKind.u8.wrap (shrI .u64 (w.getD 5 0) 40))).set 43 (IntKind.u8.wrap (shrI .u64 (w.getD 5 0) 32))).set 44 (IntKind.u8.wrap (shrI .u64 (w.getD 5 0) 24))).set 45 (IntKind.u8.wrap (shrI .u64 (w.getD 5 0) 16))).set 46 (IntKind.u8.wrap (shrI .u64 (w.getD 5 0) 8))).set 47 (IntKind.u8.wrap (shrI .u64 (w.getD 5 0) 0))).set 48 (IntKind.u8.wrap (shrI .u64 (w.getD 6 0) 56))).set 49 (IntKind.u8.wrap (shrI .u64 (w.getD 6 0) 48))).set 50 (IntKind.u8.wrap (shrI .u64 (w.getD 6 0) 40))).set 51 (IntKind.u8.wrap (shrI .u64 (w.getD 6 0) 32))).set 52 (IntKind.u8.wrap (shrI .u64 (w.getD 6 0) 24))).set 53 (IntKind.u8.wrap (shrI .u64 (w.getD 6 0) 16))).set 54 (IntKind.u8.wrap (shrI .u64 (w.getD 6 0) 8))).set 55 (IntKind.u8.wrap (shrI .u64 (w.getD 6 0) 0))).set 56 (IntKind.u8.wrap (shrI .u64 (w.getD 7 0) 56))).set 57 (IntKind.u8.wrap (shrI .u64 (w.getD 7 0) 48))).set 58 (IntKind.u8.wrap (shrI .u64 (w.getD 7 0) 40))).set 59 (IntKind.u8.wrap (shrI .u64 (w.getD 7 0) 32))).set 60 (IntKind.u8.wrap (shrI .u64 (w.getD 7 0) 24))).set 61 (IntKind.u8.wrap (shrI .u64 (w.getD 7 0) 16))).set 62 (IntKind.u8.wrap (shrI .u64 (w.getD 7 0) 8))).set 63 (IntKind.u8.wrap (shrI .u64 (w.getD 7 0) 0))
/-- The hash of what a record has taken. -/
def sumL (ws bl : List Int) (n : Int) (m : Bool) : List Int := if m = true then outb (finw ws bl n) else List.replicate 64 0
def sizeL (n : Int) (m : Bool) : Int := if m = true then n else 0
end Go.Sp
namespace Go.Gx
open Go.Proofs Go.Sp
set_option linter.unusedVariables false

def vc27 (ws bl : List Int) (n : Int) (m : Bool) (K : SV → List Seg → Prop) (Q : Nat → List Pv → Prop) : Prop := fnVcM Γ4 Tryd.f62 [] [.p 600 0] (rec8 ws bl n m) K Q
def vc27n (K : SV → Prop) (Q : Nat → List Pv → Prop) : Prop := fnVc Γ4 Tryd.f62 [] [.np] gh K Q
theorem vc27n_eq : ∀ (K : SV → Prop) (Q : Nat → List Pv → Prop), vc27n K Q = K (SV.arr IntKind.u8 (64 : Nat) false (List.replicate (64 : Nat) (0 : Int))) := by
  intros
  kernel_rfl
set_option maxRecDepth 100000 in
theorem vc27_eq : ∀ (ws bl : List Int) (n : Int) (m : Bool) (K : SV → List Seg → Prop) (Q : Nat → List Pv → Prop), vc27 ws bl n m K Q = ∀ (x1 : List Int), x1 = ws → x1.length = (8 : Nat) → AllR IntKind.u64 x1 → ∀ (x2 : List Int), x2 = bl → x2.length = (128 : Nat) → AllR IntKind.u8 x2 → ∀ (x3 : Int), x3 = n → InR IntKind.i64 x3 → ∀ (x4 : Bool), x4 = !m → (x4 = true → K (SV.arr IntKind.u8 (64 : Nat) false (List.replicate (64 : Nat) (0 : Int))) [Seg.arr IntKind.u64 (8 : Nat) false x1, Seg.arr IntKind.u8 (128 : Nat) false x2, Seg.one (SV.i IntKind.i64 { st := false, z := x3 }), Seg.one (SV.b false m)]) ∧ (x4 = false → ∀ (x5 : Int), x5 = x3.tmod (128 : Int) → InR IntKind.i64 x5 → Need ((0 : Int) ≤ x5 ∧ x5 ≤ (128 : Int) ∧ (128 : Int) ≤ (128 : Int)) ∧ Need (x5 + ((128 : Int) - x5) ≤ (128 : Int)) ∧ ∀ (x6 : List Int), x6 = x1 → x6.length = (8 : Nat) → AllR IntKind.u64 x6 → ∀ (x7 : List Int), x7 = splice x2 x5.toNat (List.replicate ((128 : Int) - x5).toNat (0 : Int)) → x7.length = (128 : Nat) → AllR IntKind.u8 x7 → ∀ (x8 : Int), x8 = x3 → InR IntKind.i64 x8 → Need ((0 : Int) ≤ x5 ∧ x5 < (128 : Int)) ∧ Need ((0 : Int) ≤ x5 ∧ x5 < (128 : Int)) ∧ ∀ (x9 : List Int), x9 = x6 → x9.length = (8 : Nat) → AllR IntKind.u64 x9 → ∀ (x10 : List Int), x10 = x7.set x5.toNat (128 : Int) → x10.length = (128 : Nat) → AllR IntKind.u8 x10 → ∀ (x11 : Int), x11 = x8 → InR IntKind.i64 x11 → (decide (x5 ≥ (112 : Int)) = true → ∀ (x12 : List Int), x12 = compr x9 x10 → x12.length = (8 : Nat) → AllR IntKind.u64 x12 → ∀ (x13 : List Int), x13 = x10 → x13.length = (128 : Nat) → AllR IntKind.u8 x13 → ∀ (x14 : Int), x14 = x11 → InR IntKind.i64 x14 → Need ((128 : Int) ≤ (128 : Int)) ∧ ∀ (x15 : List Int), x15 = x12 → x15.length = (8 : Nat) → AllR IntKind.u64 x15 → ∀ (x16 : List Int), x16 = splice x13 (0 : Nat) (List.replicate (128 : Nat) (0 : Int)) → x16.length = (128 : Nat) → AllR IntKind.u8 x16 → ∀ (x17 : Int), x17 = x14 → InR IntKind.i64 x17 → ∀ (x18 : Int), x18 = IntKind.u64.wrap x17 → InR IntKind.u64 x18 → ∀ (x19 : Int), x19 = x18 * (8 : Int) / (18446744073709551616 : Int) → InR IntKind.u64 x19 → ∀ (x20 : Int), x20 = x18 * (8 : Int) % (18446744073709551616 : Int) → InR IntKind.u64 x20 → ∀ (x21 : Int), x21 = shrI IntKind.u64 x19 (0 : Int) → InR IntKind.u64 x21 → ∀ (x22 : Int), x22 = IntKind.u8.wrap x21 → InR IntKind.u8 x22 → ∀ (x23 : Int), x23 = shrI IntKind.u64 x20 (0 : Int) → InR IntKind.u64 x23 → ∀ (x24 : Int), x24 = IntKind.u8.wrap x23 → InR IntKind.u8 x24 → ∀ (x25 : Int), x25 = shrI IntKind.u64 x19 (8 : Int) → InR IntKind.u64 x25 → ∀ (x26 : Int), x26 = IntKind.u8.wrap x25 → InR IntKind.u8 x26 → ∀ (x27 : Int), x27 = shrI IntKind.u64 x20 (8 : Int) → InR IntKind.u64 x27 → ∀ (x28 : Int), x28 = IntKind.u8.wrap x27 → InR IntKind.u8 x28 → ∀ (x29 : Int), x29 = shrI IntKind.u64 x19 (16 : Int) → InR IntKind.u64 x29 → ∀ (x30 : Int), x30 = IntKind.u8.wrap x29 → InR IntKind.u8 x30 → ∀ (x31 : Int), x31 = shrI IntKind.u64 x20 (16 : Int) → InR IntKind.u64 x31 → ∀ (x32 : Int), x32 = IntKind.u8.wrap x31 → InR IntKind.u8 x32 → ∀ (x33 : Int), x33 = shrI IntKind.u64 x19 (24 : Int) → InR IntKind.u64 x33 → ∀ (x34 : Int), x34 = IntKind.u8.wrap x33 → InR IntKind.u8 x34 → ∀ (x35 : Int), x35 = shrI IntKind.u64 x20 (24 : Int) → InR IntKind.u64 x35 → ∀ (x36 : Int), x36 = IntKind.u8.wrap x35 → InR IntKind.u8 x36 → ∀ (x37 : Int), x37 = shrI IntKind.u64 x19 (32 : Int) → InR IntKind.u64 x37 → ∀ (x38 : Int), x38 = IntKind.u8.wrap x37 → InR IntKind.u8 x38 → ∀ (x39 : Int), x39 = shrI IntKind.u64 x20 (32 : Int) → InR IntKind.u64 x39 → ∀ (x40 : Int), x40 = IntKind.u8.wrap x39 → InR IntKind.u8 x40 → ∀ (x41 : Int), x41 = shrI IntKind.u64 x19 (40 : Int) → InR IntKind.u64 x41 → ∀ (x42 : Int), x42 = IntKind.u8.wrap x41 → InR IntKind.u8 x42 → ∀ (x43 : Int), x43 = shrI IntKind.u64 x20 (40 : Int) → InR IntKind.u64 x43 → ∀ (x44 : Int), x44 = IntKind.u8.wrap x43 → InR IntKind.u8 x44 → ∀ (x45 : Int), x45 = shrI IntKind.u64 x19 (48 : Int) → InR IntKind.u64 x45 → ∀ (x46 : Int), x46 = IntKind.u8.wrap x45 → InR IntKind.u8 x46 → ∀ (x47 : Int), x47 = shrI IntKind.u64 x20 (48 : Int) → InR IntKind.u64 x47 → ∀ (x48 : Int), x48 = IntKind.u8.wrap x47 → InR IntKind.u8 x48 → ∀ (x49 : Int), x49 = shrI IntKind.u64 x19 (56 : Int) → InR IntKind.u64 x49 → ∀ (x50 : Int), x50 = IntKind.u8.wrap x49 → InR IntKind.u8 x50 → ∀ (x51 : Int), x51 = shrI IntKind.u64 x20 (56 : Int) → InR IntKind.u64 x51 → ∀ (x52 : Int), x52 = IntKind.u8.wrap x51 → InR IntKind.u8 x52 → ∀ (x53 : List Int), x53 = compr x15 ((((((((((((((((x16.set (119 : Nat) x22).set (127 : Nat) x24).set (118 : Nat) x26).set (126 : Nat) x28).set (117 : Nat) x30).set (125 : Nat) x32).set (116 : Nat) x34).set (124 : Nat) x36).set (115 : Nat) x38).set (123 : Nat) x40).set (114 : Nat) x42).set (122 : Nat) x44).set (113 : Nat) x46).set (121 : Nat) x48).set (112 : Nat) x50).set (120 : Nat) x52) → x53.length = (8 : Nat) → AllR IntKind.u64 x53 → ∀ (x54 : List Int), x54 = (((((((((((((((x16.set (119 : Nat) x22).set (127 : Nat) x24).set (118 : Nat) x26).set (126 : Nat) x28).set (117 : Nat) x30).set (125 : Nat) x32).set (116 : Nat) x34).set (124 : Nat) x36).set (115 : Nat) x38).set (123 : Nat) x40).set (114 : Nat) x42).set (122 : Nat) x44).set (113 : Nat) x46).set (121 : Nat) x48).set (112 : Nat) x50).set (120 : Nat) x52 → x54.length = (128 : Nat) → AllR IntKind.u8 x54 → ∀ (x55 : Int), x55 = x17 → InR IntKind.i64 x55 → ∀ (x56 : Int), x56 = shrI IntKind.u64 (x53.getD (nat_lit 0) (0 : Int)) (56 : Int) → InR IntKind.u64 x56 → ∀ (x57 : Int), x57 = IntKind.u8.wrap x56 → InR IntKind.u8 x57 → ∀ (x58 : Int), x58 = shrI IntKind.u64 (x53.getD (nat_lit 0) (0 : Int)) (48 : Int) → InR IntKind.u64 x58 → ∀ (x59 : Int), x59 = IntKind.u8.wrap x58 → InR IntKind.u8 x59 → ∀ (x60 : Int), x60 = shrI IntKind.u64 (x53.getD (nat_lit 0) (0 : Int)) (40 : Int) → InR IntKind.u64 x60 → ∀ (x61 : Int), x61 = IntKind.u8.wrap x60 → InR IntKind.u8 x61 → ∀ (x62 : Int), x62 = shrI IntKind.u64 (x53.getD (nat_lit 0) (0 : Int)) (32 : Int) → InR IntKind.u64 x62 → ∀ (x63 : Int), x63 = IntKind.u8.wrap x62 → InR IntKind.u8 x63 → ∀ (x64 : Int), x64 = shrI IntKind.u64 (x53.getD (nat_lit 0) (0 : Int)) (24 : Int) → InR IntKind.u64 x64 → ∀ (x65 : Int), x65 = IntKind.u8.wrap x64 → InR IntKind.u8 x65 → ∀ (x66 : Int), x66 = shrI IntKind.u64 (x53.getD (nat_lit 0) (0 : Int)) (16 : Int) → InR IntKind.u64 x66 → ∀ (x67 : Int), x67 = IntKind.u8.wrap x66 → InR IntKind.u8 x67 → ∀ (x68 : Int), x68 = shrI IntKind.u64 (x53.getD (nat_lit 0) (0 : Int)) (8 : Int) → InR IntKind.u64 x68 → ∀ (x69 : Int), x69 = IntKind.u8.wrap x68 → InR IntKind.u8 x69 → ∀ (x70 : Int), x70 = shrI IntKind.u64 (x53.getD (nat_lit 0) (0 : Int)) (0 : Int) → InR IntKind.u64 x70 → ∀ (x71 : Int), x71 = IntKind.u8.wrap x70 → InR IntKind.u8 x71 → ∀ (x72 : Int), x72 = shrI IntKind.u64 (x53.getD (1 : Nat) (0 : Int)) (56 : Int) → InR IntKind.u64 x72 → ∀ (x73 : Int), x73 = IntKind.u8.wrap x72 → InR IntKind.u8 x73 → ∀ (x74 : Int), x74 = shrI IntKind.u64 (x53.getD (1 : Nat) (0 : Int)) (48 : Int) → InR IntKind.u64 x74 → ∀ (x75 : Int), x75 = IntKind.u8.wrap x74 → InR IntKind.u8 x75 → ∀ (x76 : Int), x76 = shrI IntKind.u64 (x53.getD (1 : Nat) (0 : Int)) (40 : Int) → InR IntKind.u64 x76 → ∀ (x77 : Int), x77 = IntKind.u8.wrap x76 → InR IntKind.u8 x77 → ∀ (x78 : Int), x78 = shrI IntKind.u64 (x53.getD (1 : Nat) (0 : Int)) (32 : Int) → InR IntKind.u64 x78 → ∀ (x79 : Int), x79 = IntKind.u8.wrap x78 → InR IntKind.u8 x79 → ∀ (x80 : Int), x80 = shrI IntKind.u64 (x53.getD (1 : Nat) (0 : Int)) (24 : Int) → InR IntKind.u64 x80 → ∀ (x81 : Int), x81 = IntKind.u8.wrap x80 → InR IntKind.u8 x81 → ∀ (x82 : Int), x82 = shrI IntKind.u64 (x53.getD (1 : Nat) (0 : Int)) (16 : Int) → InR IntKind.u64 x82 → ∀ (x83 : Int), x83 = IntKind.u8.wrap x82 → InR IntKind.u8 x83 → ∀ (x84 : Int), x84 = shrI IntKind.u64 (x53.getD (1 : Nat) (0 : Int)) (8 : Int) → InR IntKind.u64 x84 → ∀ (x85 : Int), x85 = IntKind.u8.wrap x84 → InR IntKind.u8 x85 → ∀ (x86 : Int), x86 = shrI IntKind.u64 (x53.getD (1 : Nat) (0 : Int)) (0 : Int) → InR IntKind.u64 x86 → ∀ (x87 : Int), x87 = IntKind.u8.wrap x86 → InR IntKind.u8 x87 → ∀ (x88 : Int), x88 = shrI IntKind.u64 (x53.getD (2 : Nat) (0 : Int)) (56 : Int) → InR IntKind.u64 x88 → ∀ (x89 : Int), x89 = IntKind.u8.wrap x88 → InR IntKind.u8 x89 → ∀ (x90 : Int), x90 = shrI IntKind.u64 (x53.getD (2 : Nat) (0 : Int)) (48 : Int) → InR IntKind.u64 x90 → ∀ (x91 : Int), x91 = IntKind.u8.wrap x90 → InR IntKind.u8 x91 → ∀ (x92 : Int), x92 = shrI IntKind.u64 (x53.getD (2 : Nat) (0 : Int)) (40 : Int) → InR IntKind.u64 x92 → ∀ (x93 : Int), x93 = IntKind.u8.wrap x92 → InR IntKind.u8 x93 → ∀ (x94 : Int), x94 = shrI IntKind.u64 (x53.getD (2 : Nat) (0 : Int)) (32 : Int) → InR IntKind.u64 x94 → ∀ (x95 : Int), x95 = IntKind.u8.wrap x94 → InR IntKind.u8 x95 → ∀ (x96 : Int), x96 = shrI IntKind.u64 (x53.getD (2 : Nat) (0 : Int)) (24 : Int) → InR IntKind.u64 x96 → ∀ (x97 : Int), x97 = IntKind.u8.wrap x96 → InR IntKind.u8 x97 → ∀ (x98 : Int), x98 = shrI IntKind.u64 (x53.getD (2 : Nat) (0 : Int)) (16 : Int) → InR IntKind.u64 x98 → ∀ (x99 : Int), x99 = IntKind.u8.wrap x98 → InR IntKind.u8 x99 → ∀ (x100 : Int), x100 = shrI IntKind.u64 (x53.getD (2 : Nat) (0 : Int)) (8 : Int) → InR IntKind.u64 x100 → ∀ (x101 : Int), x101 = IntKind.u8.wrap x100 → InR IntKind.u8 x101 → ∀ (x102 : Int), x102 = shrI IntKind.u64 (x53.getD (2 : Nat) (0 : Int)) (0 : Int) → InR IntKind.u64 x102 → ∀ (x103 : Int), x103 = IntKind.u8.wrap x102 → InR IntKind.u8 x103 → ∀ (x104 : Int), x104 = shrI IntKind.u64 (x53.getD (3 : Nat) (0 : Int)) (56 : Int) → InR IntKind.u64 x104 → ∀ (x105 : Int), x105 = IntKind.u8.wrap x104 → InR IntKind.u8 x105 → ∀ (x106 : Int), x106 = shrI IntKind.u64 (x53.getD (3 : Nat) (0 : Int)) (48 : Int) → InR IntKind.u64 x106 → ∀ (x107 : Int), x107 = IntKind.u8.wrap x106 → InR IntKind.u8 x107 → ∀ (x108 : Int), x108 = shrI IntKind.u64 (x53.getD (3 : Nat) (0 : Int)) (40 : Int) → InR IntKind.u64 x108 → ∀ (x109 : Int), x109 = IntKind.u8.wrap x108 → InR IntKind.u8 x109 → ∀ (x110 : Int), x110 = shrI IntKind.u64 (x53.getD (3 : Nat) (0 : Int)) (32 : Int) → InR IntKind.u64 x110 → ∀ (x111 : Int), x111 = IntKind.u8.wrap x110 → InR IntKind.u8 x111 → ∀ (x112 : Int), x112 = shrI IntKind.u64 (x53.getD (3 : Nat) (0 : Int)) (24 : Int) → InR IntKind.u64 x112 → ∀ (x113 : Int), x113 = IntKind.u8.wrap x112 → InR IntKind.u8 x113 → ∀ (x114 : Int), x114 = shrI IntKind.u64 (x53.getD (3 : Nat) (0 : Int)) (16 : Int) → InR IntKind.u64 x114 → ∀ (x115 : Int), x115 = IntKind.u8.wrap x114 → InR IntKind.u8 x115 → ∀ (x116 : Int), x116 = shrI IntKind.u64 (x53.getD (3 : Nat) (0 : Int)) (8 : Int) → InR IntKind.u64 x116 → ∀ (x117 : Int), x117 = IntKind.u8.wrap x116 → InR IntKind.u8 x117 → ∀ (x118 : Int), x118 = shrI IntKind.u64 (x53.getD (3 : Nat) (0 : Int)) (0 : Int) → InR IntKind.u64 x118 → ∀ (x119 : Int), x119 = IntKind.u8.wrap x118 → InR IntKind.u8 x119 → ∀ (x120 : Int), x120 = shrI IntKind.u64 (x53.getD (4 : Nat) (0 : Int)) (56 : Int) → InR IntKind.u64 x120 → ∀ (x121 : Int), x121 = IntKind.u8.wrap x120 → InR IntKind.u8 x121 → ∀ (x122 : Int), x122 = shrI IntKind.u64 (x53.getD (4 : Nat) (0 : Int)) (48 : Int) → InR IntKind.u64 x122 → ∀ (x123 : Int), x123 = IntKind.u8.wrap x122 → InR IntKind.u8 x123 → ∀ (x124 : Int), x124 = shrI IntKind.u64 (x53.getD (4 : Nat) (0 : Int)) (40 : Int) → InR IntKind.u64 x124 → ∀ (x125 : Int), x125 = IntKind.u8.wrap x124 → InR IntKind.u8 x125 → ∀ (x126 : Int), x126 = shrI IntKind.u64 (x53.getD (4 : Nat) (0 : Int)) (32 : Int) → InR IntKind.u64 x126 → ∀ (x127 : Int), x127 = IntKind.u8.wrap x126 → InR IntKind.u8 x127 → ∀ (x128 : Int), x128 = shrI IntKind.u64 (x53.getD (4 : Nat) (0 : Int)) (24 : Int) → InR IntKind.u64 x128 → ∀ (x129 : Int), x129 = IntKind.u8.wrap x128 → InR IntKind.u8 x129 → ∀ (x130 : Int), x130 = shrI IntKind.u64 (x53.getD (4 : Nat) (0 : Int)) (16 : Int) → InR IntKind.u64 x130 → ∀ (x131 : Int), x131 = IntKind.u8.wrap x130 → InR IntKind.u8 x131 → ∀ (x132 : Int), x132 = shrI IntKind.u64 (x53.getD (4 : Nat) (0 : Int)) (8 : Int) → InR IntKind.u64 x132 → ∀ (x133 : Int), x133 = IntKind.u8.wrap x132 → InR IntKind.u8 x133 → ∀ (x134 : Int), x134 = shrI IntKind.u64 (x53.getD (4 : Nat) (0 : Int)) (0 : Int) → InR IntKind.u64 x134 → ∀ (x135 : Int), x135 = IntKind.u8.wrap x134 → InR IntKind.u8 x135 → ∀ (x136 : Int), x136 = shrI IntKind.u64 (x53.getD (5 : Nat) (0 : Int)) (56 : Int) → InR IntKind.u64 x136 → ∀ (x137 : Int), x137 = IntKind.u8.wrap x136 → InR IntKind.u8 x137 → ∀ (x138 : Int), x138 = shrI IntKind.u64 (x53.getD (5 : Nat) (0 : Int)) (48 : Int) → InR IntKind.u64 x138 → ∀ (x139 : Int), x139 = IntKind.u8.wrap x138 → InR IntKind.u8 x139 → ∀ (x140 : Int), x140 = shrI IntKind.u64 (x53.getD (5 : Nat) (0 : Int)) (40 : Int) → InR IntKind.u64 x140 → ∀ (x141 : Int), x141 = IntKind.u8.wrap x140 → InR IntKind.u8 x141 → ∀ (x142 : Int), x142 = shrI IntKind.u64 (x53.getD (5 : Nat) (0 : Int)) (32 : Int) → InR IntKind.u64 x142 → ∀ (x143 : Int), x143 = IntKind.u8.wrap x142 → InR IntKind.u8 x143 → ∀ (x144 : Int), x144 = shrI IntKind.u64 (x53.getD (5 : Nat) (0 : Int)) (24 : Int) → InR IntKind.u64 x144 → ∀ (x145 : Int), x145 = IntKind.u8.wrap x144 → InR IntKind.u8 x145 → ∀ (x146 : Int), x146 = shrI IntKind.u64 (x53.getD (5 : Nat) (0 : Int)) (16 : Int) → InR IntKind.u64 x146 → ∀ (x147 : Int), x147 = IntKind.u8.wrap x146 → InR IntKind.u8 x147 → ∀ (x148 : Int), x148 = shrI IntKind.u64 (x53.getD (5 : Nat) (0 : Int)) (8 : Int) → InR IntKind.u64 x148 → ∀ (x149 : Int), x149 = IntKind.u8.wrap x148 → InR IntKind.u8 x149 → ∀ (x150 : Int), x150 = shrI IntKind.u64 (x53.getD (5 : Nat) (0 : Int)) (0 : Int) → InR IntKind.u64 x150 → ∀ (x151 : Int), x151 = IntKind.u8.wrap x150 → InR IntKind.u8 x151 → ∀ (x152 : Int), x152 = shrI IntKind.u64 (x53.getD (6 : Nat) (0 : Int)) (56 : Int) → InR IntKind.u64 x152 → ∀ (x153 : Int), x153 = IntKind.u8.wrap x152 → InR IntKind.u8 x153 → ∀ (x154 : Int), x154 = shrI IntKind.u64 (x53.getD (6 : Nat) (0 : Int)) (48 : Int) → InR IntKind.u64 x154 → ∀ (x155 : Int), x155 = IntKind.u8.wrap x154 → InR IntKind.u8 x155 → ∀ (x156 : Int), x156 = shrI IntKind.u64 (x53.getD (6 : Nat) (0 : Int)) (40 : Int) → InR IntKind.u64 x156 → ∀ (x157 : Int), x157 = IntKind.u8.wrap x156 → InR IntKind.u8 x157 → ∀ (x158 : Int), x158 = shrI IntKind.u64 (x53.getD (6 : Nat) (0 : Int)) (32 : Int) → InR IntKind.u64 x158 → ∀ (x159 : Int), x159 = IntKind.u8.wrap x158 → InR IntKind.u8 x159 → ∀ (x160 : Int), x160 = shrI IntKind.u64 (x53.getD (6 : Nat) (0 : Int)) (24 : Int) → InR IntKind.u64 x160 → ∀ (x161 : Int), x161 = IntKind.u8.wrap x160 → InR IntKind.u8 x161 → ∀ (x162 : Int), x162 = shrI IntKind.u64 (x53.getD (6 : Nat) (0 : Int)) (16 : Int) → InR IntKind.u64 x162 → ∀ (x163 : Int), x163 = IntKind.u8.wrap x162 → InR IntKind.u8 x163 → ∀ (x164 : Int), x164 = shrI IntKind.u64 (x53.getD (6 : Nat) (0 : Int)) (8 : Int) → InR IntKind.u64 x164 → ∀ (x165 : Int), x165 = IntKind.u8.wrap x164 → InR IntKind.u8 x165 → ∀ (x166 : Int), x166 = shrI IntKind.u64 (x53.getD (6 : Nat) (0 : Int)) (0 : Int) → InR IntKind.u64 x166 → ∀ (x167 : Int), x167 = IntKind.u8.wrap x166 → InR IntKind.u8 x167 → ∀ (x168 : Int), x168 = shrI IntKind.u64 (x53.getD (7 : Nat) (0 : Int)) (56 : Int) → InR IntKind.u64 x168 → ∀ (x169 : Int), x169 = IntKind.u8.wrap x168 → InR IntKind.u8 x169 → ∀ (x170 : Int), x170 = shrI IntKind.u64 (x53.getD (7 : Nat) (0 : Int)) (48 : Int) → InR IntKind.u64 x170 → ∀ (x171 : Int), x171 = IntKind.u8.wrap x170 → InR IntKind.u8 x171 → ∀ (x172 : Int), x172 = shrI IntKind.u64 (x53.getD (7 : Nat) (0 : Int)) (40 : Int) → InR IntKind.u64 x172 → ∀ (x173 : Int), x173 = IntKind.u8.wrap x172 → InR IntKind.u8 x173 → ∀ (x174 : Int), x174 = shrI IntKind.u64 (x53.getD (7 : Nat) (0 : Int)) (32 : Int) → InR IntKind.u64 x174 → ∀ (x175 : Int), x175 = IntKind.u8.wrap x174 → InR IntKind.u8 x175 → ∀ (x176 : Int), x176 = shrI IntKind.u64 (x53.getD (7 : Nat) (0 : Int)) (24 : Int) → InR IntKind.u64 x176 → ∀ (x177 : Int), x177 = IntKind.u8.wrap x176 → InR IntKind.u8 x177 → ∀ (x178 : Int), x178 = shrI IntKind.u64 (x53.getD (7 : Nat) (0 : Int)) (16 : Int) → InR IntKind.u64 x178 → ∀ (x179 : Int), x179 = IntKind.u8.wrap x178 → InR IntKind.u8 x179 → ∀ (x180 : Int), x180 = shrI IntKind.u64 (x53.getD (7 : Nat) (0 : Int)) (8 : Int) → InR IntKind.u64 x180 → ∀ (x181 : Int), x181 = IntKind.u8.wrap x180 → InR IntKind.u8 x181 → ∀ (x182 : Int), x182 = shrI IntKind.u64 (x53.getD (7 : Nat) (0 : Int)) (0 : Int) → InR IntKind.u64 x182 → ∀ (x183 : Int), x183 = IntKind.u8.wrap x182 → InR IntKind.u8 x183 → K (SV.arr IntKind.u8 (64 : Nat) false (((((((((((((((((((((((((((((((((((((((((((((((((((((((((((((((((List.replicate (64 : Nat) (0 : Int)).set (0 : Nat) x57).set (1 : Nat) x59).set (2 : Nat) x61).set (3 : Nat) x63).set (4 : Nat) x65).set (5 : Nat) x67).set (6 : Nat) x69).set (7 : Nat) x71).set (8 : Nat) x73).set (9 : Nat) x75).set (10 : Nat) x77).set (11 : Nat) x79).set (12 : Nat) x81).set (13 : Nat) x83).set (14 : Nat) x85).set (15 : Nat) x87).set (16 : Nat) x89).set (17 : Nat) x91).set (18 : Nat) x93).set (19 : Nat) x95).set (20 : Nat) x97).set (21 : Nat) x99).set (22 : Nat) x101).set (23 : Nat) x103).set (24 : Nat) x105).set (25 : Nat) x107).set (26 : Nat) x109).set (27 : Nat) x111).set (28 : Nat) x113).set (29 : Nat) x115).set (30 : Nat) x117).set (31 : Nat) x119).set (32 : Nat) x121).set (33 : Nat) x123).set (34 : Nat) x125).set (35 : Nat) x127).set (36 : Nat) x129).set (37 : Nat) x131).set (38 : Nat) x133).set (39 : Nat) x135).set (40 : Nat) x137).set (41 : Nat) x139).set (42 : Nat) x141).set (43 : Nat) x143).set (44 : Nat) x145).set (45 : Nat) x147).set (46 : Nat) x149).set (47 : Nat) x151).set (48 : Nat) x153).set (49 : Nat) x155).set (50 : Nat) x157).set (51 : Nat) x159).set (52 : Nat) x161).set (53 : Nat) x163).set (54 : Nat) x165).set (55 : Nat) x167).set (56 : Nat) x169).set (57 : Nat) x171).set (58 : Nat) x173).set (59 : Nat) x175).set (60 : Nat) x177).set (61 : Nat) x179).set (62 : Nat) x181).set (63 : Nat) x183)) [Seg.arr IntKind.u64 (8 : Nat) false x1, Seg.arr IntKind.u8 (128 : Nat) false x2, Seg.one (SV.i IntKind.i64 { st := false, z := x3 }), Seg.one (SV.b false m)]) ∧ (decide (x5 ≥ (112 : Int)) = false → ∀ (x184 : Int), x184 = IntKind.u64.wrap x11 → InR IntKind.u64 x184 → ∀ (x185 : Int), x185 = x184 * (8 : Int) / (18446744073709551616 : Int) → InR IntKind.u64 x185 → ∀ (x186 : Int), x186 = x184 * (8 : Int) % (18446744073709551616 : Int) → InR IntKind.u64 x186 → ∀ (x187 : Int), x187 = shrI IntKind.u64 x185 (0 : Int) → InR IntKind.u64 x187 → ∀ (x188 : Int), x188 = IntKind.u8.wrap x187 → InR IntKind.u8 x188 → ∀ (x189 : Int), x189 = shrI IntKind.u64 x186 (0 : Int) → InR IntKind.u64 x189 → ∀ (x190 : Int), x190 = IntKind.u8.wrap x189 → InR IntKind.u8 x190 → ∀ (x191 : Int), x191 = shrI IntKind.u64 x185 (8 : Int) → InR IntKind.u64 x191 → ∀ (x192 : Int), x192 = IntKind.u8.wrap x191 → InR IntKind.u8 x192 → ∀ (x193 : Int), x193 = shrI IntKind.u64 x186 (8 : Int) → InR IntKind.u64 x193 → ∀ (x194 : Int), x194 = IntKind.u8.wrap x193 → InR IntKind.u8 x194 → ∀ (x195 : Int), x195 = shrI IntKind.u64 x185 (16 : Int) → InR IntKind.u64 x195 → ∀ (x196 : Int), x196 = IntKind.u8.wrap x195 → InR IntKind.u8 x196 → ∀ (x197 : Int), x197 = shrI IntKind.u64 x186 (16 : Int) → InR IntKind.u64 x197 → ∀ (x198 : Int), x198 = IntKind.u8.wrap x197 → InR IntKind.u8 x198 → ∀ (x199 : Int), x199 = shrI IntKind.u64 x185 (24 : Int) → InR IntKind.u64 x199 → ∀ (x200 : Int), x200 = IntKind.u8.wrap x199 → InR IntKind.u8 x200 → ∀ (x201 : Int), x201 = shrI IntKind.u64 x186 (24 : Int) → InR IntKind.u64 x201 → ∀ (x202 : Int), x202 = IntKind.u8.wrap x201 → InR IntKind.u8 x202 → ∀ (x203 : Int), x203 = shrI IntKind.u64 x185 (32 : Int) → InR IntKind.u64 x203 → ∀ (x204 : Int), x204 = IntKind.u8.wrap x203 → InR IntKind.u8 x204 → ∀ (x205 : Int), x205 = shrI IntKind.u64 x186 (32 : Int) → InR IntKind.u64 x205 → ∀ (x206 : Int), x206 = IntKind.u8.wrap x205 → InR IntKind.u8 x206 → ∀ (x207 : Int), x207 = shrI IntKind.u64 x185 (40 : Int) → InR IntKind.u64 x207 → ∀ (x208 : Int), x208 = IntKind.u8.wrap x207 → InR IntKind.u8 x208 → ∀ (x209 : Int), x209 = shrI IntKind.u64 x186 (40 : Int) → InR IntKind.u64 x209 → ∀ (x210 : Int), x210 = IntKind.u8.wrap x209 → InR IntKind.u8 x210 → ∀ (x211 : Int), x211 = shrI IntKind.u64 x185 (48 : Int) → InR IntKind.u64 x211 → ∀ (x212 : Int), x212 = IntKind.u8.wrap x211 → InR IntKind.u8 x212 → ∀ (x213 : Int), x213 = shrI IntKind.u64 x186 (48 : Int) → InR IntKind.u64 x213 → ∀ (x214 : Int), x214 = IntKind.u8.wrap x213 → InR IntKind.u8 x214 → ∀ (x215 : Int), x215 = shrI IntKind.u64 x185 (56 : Int) → InR IntKind.u64 x215 → ∀ (x216 : Int), x216 = IntKind.u8.wrap x215 → InR IntKind.u8 x216 → ∀ (x217 : Int), x217 = shrI IntKind.u64 x186 (56 : Int) → InR IntKind.u64 x217 → ∀ (x218 : Int), x218 = IntKind.u8.wrap x217 → InR IntKind.u8 x218 → ∀ (x219 : List Int), x219 = compr x9 ((((((((((((((((x10.set (119 : Nat) x188).set (127 : Nat) x190).set (118 : Nat) x192).set (126 : Nat) x194).set (117 : Nat) x196).set (125 : Nat) x198).set (116 : Nat) x200).set (124 : Nat) x202).set (115 : Nat) x204).set (123 : Nat) x206).set (114 : Nat) x208).set (122 : Nat) x210).set (113 : Nat) x212).set (121 : Nat) x214).set (112 : Nat) x216).set (120 : Nat) x218) → x219.length = (8 : Nat) → AllR IntKind.u64 x219 → ∀ (x220 : List Int), x220 = (((((((((((((((x10.set (119 : Nat) x188).set (127 : Nat) x190).set (118 : Nat) x192).set (126 : Nat) x194).set (117 : Nat) x196).set (125 : Nat) x198).set (116 : Nat) x200).set (124 : Nat) x202).set (115 : Nat) x204).set (123 : Nat) x206).set (114 : Nat) x208).set (122 : Nat) x210).set (113 : Nat) x212).set (121 : Nat) x214).set (112 : Nat) x216).set (120 : Nat) x218 → x220.length = (128 : Nat) → AllR IntKind.u8 x220 → ∀ (x221 : Int), x221 = x11 → InR IntKind.i64 x221 → ∀ (x222 : Int), x222 = shrI IntKind.u64 (x219.getD (nat_lit 0) (0 : Int)) (56 : Int) → InR IntKind.u64 x222 → ∀ (x223 : Int), x223 = IntKind.u8.wrap x222 → InR IntKind.u8 x223 → ∀ (x224 : Int), x224 = shrI IntKind.u64 (x219.getD (nat_lit 0) (0 : Int)) (48 : Int) → InR IntKind.u64 x224 → ∀ (x225 : Int), x225 = IntKind.u8.wrap x224 → InR IntKind.u8 x225 → ∀ (x226 : Int), x226 = shrI IntKind.u64 (x219.getD (nat_lit 0) (0 : Int)) (40 : Int) → InR IntKind.u64 x226 → ∀ (x227 : Int), x227 = IntKind.u8.wrap x226 → InR IntKind.u8 x227 → ∀ (x228 : Int), x228 = shrI IntKind.u64 (x219.getD (nat_lit 0) (0 : Int)) (32 : Int) → InR IntKind.u64 x228 → ∀ (x229 : Int), x229 = IntKind.u8.wrap x228 → InR IntKind.u8 x229 → ∀ (x230 : Int), x230 = shrI IntKind.u64 (x219.getD (nat_lit 0) (0 : Int)) (24 : Int) → InR IntKind.u64 x230 → ∀ (x231 : Int), x231 = IntKind.u8.wrap x230 → InR IntKind.u8 x231 → ∀ (x232 : Int), x232 = shrI IntKind.u64 (x219.getD (nat_lit 0) (0 : Int)) (16 : Int) → InR IntKind.u64 x232 → ∀ (x233 : Int), x233 = IntKind.u8.wrap x232 → InR IntKind.u8 x233 → ∀ (x234 : Int), x234 = shrI IntKind.u64 (x219.getD (nat_lit 0) (0 : Int)) (8 : Int) → InR IntKind.u64 x234 → ∀ (x235 : Int), x235 = IntKind.u8.wrap x234 → InR IntKind.u8 x235 → ∀ (x236 : Int), x236 = shrI IntKind.u64 (x219.getD (nat_lit 0) (0 : Int)) (0 : Int) → InR IntKind.u64 x236 → ∀ (x237 : Int), x237 = IntKind.u8.wrap x236 → InR IntKind.u8 x237 → ∀ (x238 : Int), x238 = shrI IntKind.u64 (x219.getD (1 : Nat) (0 : Int)) (56 : Int) → InR IntKind.u64 x238 → ∀ (x239 : Int), x239 = IntKind.u8.wrap x238 → InR IntKind.u8 x239 → ∀ (x240 : Int), x240 = shrI IntKind.u64 (x219.getD (1 : Nat) (0 : Int)) (48 : Int) → InR IntKind.u64 x240 → ∀ (x241 : Int), x241 = IntKind.u8.wrap x240 → InR IntKind.u8 x241 → ∀ (x242 : Int), x242 = shrI IntKind.u64 (x219.getD (1 : Nat) (0 : Int)) (40 : Int) → InR IntKind.u64 x242 → ∀ (x243 : Int), x243 = IntKind.u8.wrap x242 → InR IntKind.u8 x243 → ∀ (x244 : Int), x244 = shrI IntKind.u64 (x219.getD (1 : Nat) (0 : Int)) (32 : Int) → InR IntKind.u64 x244 → ∀ (x245 : Int), x245 = IntKind.u8.wrap x244 → InR IntKind.u8 x245 → ∀ (x246 : Int), x246 = shrI IntKind.u64 (x219.getD (1 : Nat) (0 : Int)) (24 : Int) → InR IntKind.u64 x246 → ∀ (x247 : Int), x247 = IntKind.u8.wrap x246 → InR IntKind.u8 x247 → ∀ (x248 : Int), x248 = shrI IntKind.u64 (x219.getD (1 : Nat) (0 : Int)) (16 : Int) → InR IntKind.u64 x248 → ∀ (x249 : Int), x249 = IntKind.u8.wrap x248 → InR IntKind.u8 x249 → ∀ (x250 : Int), x250 = shrI IntKind.u64 (x219.getD (1 : Nat) (0 : Int)) (8 : Int) → InR IntKind.u64 x250 → ∀ (x251 : Int), x251 = IntKind.u8.wrap x250 → InR IntKind.u8 x251 → ∀ (x252 : Int), x252 = shrI IntKind.u64 (x219.getD (1 : Nat) (0 : Int)) (0 : Int) → InR IntKind.u64 x252 → ∀ (x253 : Int), x253 = IntKind.u8.wrap x252 → InR IntKind.u8 x253 → ∀ (x254 : Int), x254 = shrI IntKind.u64 (x219.getD (2 : Nat) (0 : Int)) (56 : Int) → InR IntKind.u64 x254 → ∀ (x255 : Int), x255 = IntKind.u8.wrap x254 → InR IntKind.u8 x255 → ∀ (x256 : Int), x256 = shrI IntKind.u64 (x219.getD (2 : Nat) (0 : Int)) (48 : Int) → InR IntKind.u64 x256 → ∀ (x257 : Int), x257 = IntKind.u8.wrap x256 → InR IntKind.u8 x257 → ∀ (x258 : Int), x258 = shrI IntKind.u64 (x219.getD (2 : Nat) (0 : Int)) (40 : Int) → InR IntKind.u64 x258 → ∀ (x259 : Int), x259 = IntKind.u8.wrap x258 → InR IntKind.u8 x259 → ∀ (x260 : Int), x260 = shrI IntKind.u64 (x219.getD (2 : Nat) (0 : Int)) (32 : Int) → InR IntKind.u64 x260 → ∀ (x261 : Int), x261 = IntKind.u8.wrap x260 → InR IntKind.u8 x261 → ∀ (x262 : Int), x262 = shrI IntKind.u64 (x219.getD (2 : Nat) (0 : Int)) (24 : Int) → InR IntKind.u64 x262 → ∀ (x263 : Int), x263 = IntKind.u8.wrap x262 → InR IntKind.u8 x263 → ∀ (x264 : Int), x264 = shrI IntKind.u64 (x219.getD (2 : Nat) (0 : Int)) (16 : Int) → InR IntKind.u64 x264 → ∀ (x265 : Int), x265 = IntKind.u8.wrap x264 → InR IntKind.u8 x265 → ∀ (x266 : Int), x266 = shrI IntKind.u64 (x219.getD (2 : Nat) (0 : Int)) (8 : Int) → InR IntKind.u64 x266 → ∀ (x267 : Int), x267 = IntKind.u8.wrap x266 → InR IntKind.u8 x267 → ∀ (x268 : Int), x268 = shrI IntKind.u64 (x219.getD (2 : Nat) (0 : Int)) (0 : Int) → InR IntKind.u64 x268 → ∀ (x269 : Int), x269 = IntKind.u8.wrap x268 → InR IntKind.u8 x269 → ∀ (x270 : Int), x270 = shrI IntKind.u64 (x219.getD (3 : Nat) (0 : Int)) (56 : Int) → InR IntKind.u64 x270 → ∀ (x271 : Int), x271 = IntKind.u8.wrap x270 → InR IntKind.u8 x271 → ∀ (x272 : Int), x272 = shrI IntKind.u64 (x219.getD (3 : Nat) (0 : Int)) (48 : Int) → InR IntKind.u64 x272 → ∀ (x273 : Int), x273 = IntKind.u8.wrap x272 → InR IntKind.u8 x273 → ∀ (x274 : Int), x274 = shrI IntKind.u64 (x219.getD (3 : Nat) (0 : Int)) (40 : Int) → InR IntKind.u64 x274 → ∀ (x275 : Int), x275 = IntKind.u8.wrap x274 → InR IntKind.u8 x275 → ∀ (x276 : Int), x276 = shrI IntKind.u64 (x219.getD (3 : Nat) (0 : Int)) (32 : Int) → InR IntKind.u64 x276 → ∀ (x277 : Int), x277 = IntKind.u8.wrap x276 → InR IntKind.u8 x277 → ∀ (x278 : Int), x278 = shrI IntKind.u64 (x219.getD (3 : Nat) (0 : Int)) (24 : Int) → InR IntKind.u64 x278 → ∀ (x279 : Int), x279 = IntKind.u8.wrap x278 → InR IntKind.u8 x279 → ∀ (x280 : Int), x280 = shrI IntKind.u64 (x219.getD (3 : Nat) (0 : Int)) (16 : Int) → InR IntKind.u64 x280 → ∀ (x281 : Int), x281 = IntKind.u8.wrap x280 → InR IntKind.u8 x281 → ∀ (x282 : Int), x282 = shrI IntKind.u64 (x219.getD (3 : Nat) (0 : Int)) (8 : Int) → InR IntKind.u64 x282 → ∀ (x283 : Int), x283 = IntKind.u8.wrap x282 → InR IntKind.u8 x283 → ∀ (x284 : Int), x284 = shrI IntKind.u64 (x219.getD (3 : Nat) (0 : Int)) (0 : Int) → InR IntKind.u64 x284 → ∀ (x285 : Int), x285 = IntKind.u8.wrap x284 → InR IntKind.u8 x285 → ∀ (x286 : Int), x286 = shrI IntKind.u64 (x219.getD (4 : Nat) (0 : Int)) (56 : Int) → InR IntKind.u64 x286 → ∀ (x287 : Int), x287 = IntKind.u8.wrap x286 → InR IntKind.u8 x287 → ∀ (x288 : Int), x288 = shrI IntKind.u64 (x219.getD (4 : Nat) (0 : Int)) (48 : Int) → InR IntKind.u64 x288 → ∀ (x289 : Int), x289 = IntKind.u8.wrap x288 → InR IntKind.u8 x289 → ∀ (x290 : Int), x290 = shrI IntKind.u64 (x219.getD (4 : Nat) (0 : Int)) (40 : Int) → InR IntKind.u64 x290 → ∀ (x291 : Int), x291 = IntKind.u8.wrap x290 → InR IntKind.u8 x291 → ∀ (x292 : Int), x292 = shrI IntKind.u64 (x219.getD (4 : Nat) (0 : Int)) (32 : Int) → InR IntKind.u64 x292 → ∀ (x293 : Int), x293 = IntKind.u8.wrap x292 → InR IntKind.u8 x293 → ∀ (x294 : Int), x294 = shrI IntKind.u64 (x219.getD (4 : Nat) (0 : Int)) (24 : Int) → InR IntKind.u64 x294 → ∀ (x295 : Int), x295 = IntKind.u8.wrap x294 → InR IntKind.u8 x295 → ∀ (x296 : Int), x296 = shrI IntKind.u64 (x219.getD (4 : Nat) (0 : Int)) (16 : Int) → InR IntKind.u64 x296 → ∀ (x297 : Int), x297 = IntKind.u8.wrap x296 → InR IntKind.u8 x297 → ∀ (x298 : Int), x298 = shrI IntKind.u64 (x219.getD (4 : Nat) (0 : Int)) (8 : Int) → InR IntKind.u64 x298 → ∀ (x299 : Int), x299 = IntKind.u8.wrap x298 → InR IntKind.u8 x299 → ∀ (x300 : Int), x300 = shrI IntKind.u64 (x219.getD (4 : Nat) (0 : Int)) (0 : Int) → InR IntKind.u64 x300 → ∀ (x301 : Int), x301 = IntKind.u8.wrap x300 → InR IntKind.u8 x301 → ∀ (x302 : Int), x302 = shrI IntKind.u64 (x219.getD (5 : Nat) (0 : Int)) (56 : Int) → InR IntKind.u64 x302 → ∀ (x303 : Int), x303 = IntKind.u8.wrap x302 → InR IntKind.u8 x303 → ∀ (x304 : Int), x304 = shrI IntKind.u64 (x219.getD (5 : Nat) (0 : Int)) (48 : Int) → InR IntKind.u64 x304 → ∀ (x305 : Int), x305 = IntKind.u8.wrap x304 → InR IntKind.u8 x305 → ∀ (x306 : Int), x306 = shrI IntKind.u64 (x219.getD (5 : Nat) (0 : Int)) (40 : Int) → InR IntKind.u64 x306 → ∀ (x307 : Int), x307 = IntKind.u8.wrap x306 → InR IntKind.u8 x307 → ∀ (x308 : Int), x308 = shrI IntKind.u64 (x219.getD (5 : Nat) (0 : Int)) (32 : Int) → InR IntKind.u64 x308 → ∀ (x309 : Int), x309 = IntKind.u8.wrap x308 → InR IntKind.u8 x309 → ∀ (x310 : Int), x310 = shrI IntKind.u64 (x219.getD (5 : Nat) (0 : Int)) (24 : Int) → InR IntKind.u64 x310 → ∀ (x311 : Int), x311 = IntKind.u8.wrap x310 → InR IntKind.u8 x311 → ∀ (x312 : Int), x312 = shrI IntKind.u64 (x219.getD (5 : Nat) (0 : Int)) (16 : Int) → InR IntKind.u64 x312 → ∀ (x313 : Int), x313 = IntKind.u8.wrap x312 → InR IntKind.u8 x313 → ∀ (x314 : Int), x314 = shrI IntKind.u64 (x219.getD (5 : Nat) (0 : Int)) (8 : Int) → InR IntKind.u64 x314 → ∀ (x315 : Int), x315 = IntKind.u8.wrap x314 → InR IntKind.u8 x315 → ∀ (x316 : Int), x316 = shrI IntKind.u64 (x219.getD (5 : Nat) (0 : Int)) (0 : Int) → InR IntKind.u64 x316 → ∀ (x317 : Int), x317 = IntKind.u8.wrap x316 → InR IntKind.u8 x317 → ∀ (x318 : Int), x318 = shrI IntKind.u64 (x219.getD (6 : Nat) (0 : Int)) (56 : Int) → InR IntKind.u64 x318 → ∀ (x319 : Int), x319 = IntKind.u8.wrap x318 → InR IntKind.u8 x319 → ∀ (x320 : Int), x320 = shrI IntKind.u64 (x219.getD (6 : Nat) (0 : Int)) (48 : Int) → InR IntKind.u64 x320 → ∀ (x321 : Int), x321 = IntKind.u8.wrap x320 → InR IntKind.u8 x321 → ∀ (x322 : Int), x322 = shrI IntKind.u64 (x219.getD (6 : Nat) (0 : Int)) (40 : Int) → InR IntKind.u64 x322 → ∀ (x323 : Int), x323 = IntKind.u8.wrap x322 → InR IntKind.u8 x323 → ∀ (x324 : Int), x324 = shrI IntKind.u64 (x219.getD (6 : Nat) (0 : Int)) (32 : Int) → InR IntKind.u64 x324 → ∀ (x325 : Int), x325 = IntKind.u8.wrap x324 → InR IntKind.u8 x325 → ∀ (x326 : Int), x326 = shrI IntKind.u64 (x219.getD (6 : Nat) (0 : Int)) (24 : Int) → InR IntKind.u64 x326 → ∀ (x327 : Int), x327 = IntKind.u8.wrap x326 → InR IntKind.u8 x327 → ∀ (x328 : Int), x328 = shrI IntKind.u64 (x219.getD (6 : Nat) (0 : Int)) (16 : Int) → InR IntKind.u64 x328 → ∀ (x329 : Int), x329 = IntKind.u8.wrap x328 → InR IntKind.u8 x329 → ∀ (x330 : Int), x330 = shrI IntKind.u64 (x219.getD (6 : Nat) (0 : Int)) (8 : Int) → InR IntKind.u64 x330 → ∀ (x331 : Int), x331 = IntKind.u8.wrap x330 → InR IntKind.u8 x331 → ∀ (x332 : Int), x332 = shrI IntKind.u64 (x219.getD (6 : Nat) (0 : Int)) (0 : Int) → InR IntKind.u64 x332 → ∀ (x333 : Int), x333 = IntKind.u8.wrap x332 → InR IntKind.u8 x333 → ∀ (x334 : Int), x334 = shrI IntKind.u64 (x219.getD (7 : Nat) (0 : Int)) (56 : Int) → InR IntKind.u64 x334 → ∀ (x335 : Int), x335 = IntKind.u8.wrap x334 → InR IntKind.u8 x335 → ∀ (x336 : Int), x336 = shrI IntKind.u64 (x219.getD (7 : Nat) (0 : Int)) (48 : Int) → InR IntKind.u64 x336 → ∀ (x337 : Int), x337 = IntKind.u8.wrap x336 → InR IntKind.u8 x337 → ∀ (x338 : Int), x338 = shrI IntKind.u64 (x219.getD (7 : Nat) (0 : Int)) (40 : Int) → InR IntKind.u64 x338 → ∀ (x339 : Int), x339 = IntKind.u8.wrap x338 → InR IntKind.u8 x339 → ∀ (x340 : Int), x340 = shrI IntKind.u64 (x219.getD (7 : Nat) (0 : Int)) (32 : Int) → InR IntKind.u64 x340 → ∀ (x341 : Int), x341 = IntKind.u8.wrap x340 → InR IntKind.u8 x341 → ∀ (x342 : Int), x342 = shrI IntKind.u64 (x219.getD (7 : Nat) (0 : Int)) (24 : Int) → InR IntKind.u64 x342 → ∀ (x343 : Int), x343 = IntKind.u8.wrap x342 → InR IntKind.u8 x343 → ∀ (x344 : Int), x344 = shrI IntKind.u64 (x219.getD (7 : Nat) (0 : Int)) (16 : Int) → InR IntKind.u64 x344 → ∀ (x345 : Int), x345 = IntKind.u8.wrap x344 → InR IntKind.u8 x345 → ∀ (x346 : Int), x346 = shrI IntKind.u64 (x219.getD (7 : Nat) (0 : Int)) (8 : Int) → InR IntKind.u64 x346 → ∀ (x347 : Int), x347 = IntKind.u8.wrap x346 → InR IntKind.u8 x347 → ∀ (x348 : Int), x348 = shrI IntKind.u64 (x219.getD (7 : Nat) (0 : Int)) (0 : Int) → InR IntKind.u64 x348 → ∀ (x349 : Int), x349 = IntKind.u8.wrap x348 → InR IntKind.u8 x349 → K (SV.arr IntKind.u8 (64 : Nat) false (((((((((((((((((((((((((((((((((((((((((((((((((((((((((((((((((List.replicate (64 : Nat) (0 : Int)).set (0 : Nat) x223).set (1 : Nat) x225).set (2 : Nat) x227).set (3 : Nat) x229).set (4 : Nat) x231).set (5 : Nat) x233).set (6 : Nat) x235).set (7 : Nat) x237).set (8 : Nat) x239).set (9 : Nat) x241).set (10 : Nat) x243).set (11 : Nat) x245).set (12 : Nat) x247).set (13 : Nat) x249).set (14 : Nat) x251).set (15 : Nat) x253).set (16 : Nat) x255).set (17 : Nat) x257).set (18 : Nat) x259).set (19 : Nat) x261).set (20 : Nat) x263).set (21 : Nat) x265).set (22 : Nat) x267).set (23 : Nat) x269).set (24 : Nat) x271).set (25 : Nat) x273).set (26 : Nat) x275).set (27 : Nat) x277).set (28 : Nat) x279).set (29 : Nat) x281).set (30 : Nat) x283).set (31 : Nat) x285).set (32 : Nat) x287).set (33 : Nat) x289).set (34 : Nat) x291).set (35 : Nat) x293).set (36 : Nat) x295).set (37 : Nat) x297).set (38 : Nat) x299).set (39 : Nat) x301).set (40 : Nat) x303).set (41 : Nat) x305).set (42 : Nat) x307).set (43 : Nat) x309).set (44 : Nat) x311).set (45 : Nat) x313).set (46 : Nat) x315).set (47 : Nat) x317).set (48 : Nat) x319).set (49 : Nat) x321).set (50 : Nat) x323).set (51 : Nat) x325).set (52 : Nat) x327).set (53 : Nat) x329).set (54 : Nat) x331).set (55 : Nat) x333).set (56 : Nat) x335).set (57 : Nat) x337).set (58 : Nat) x339).set (59 : Nat) x341).set (60 : Nat) x343).set (61 : Nat) x345).set (62 : Nat) x347).set (63 : Nat) x349)) [Seg.arr IntKind.u64 (8 : Nat) false x1, Seg.arr IntKind.u8 (128 : Nat) false x2, Seg.one (SV.i IntKind.i64 { st := false, z := x3 }), Seg.one (SV.b false m)])) := by
  intros
  kernel_rfl

set_option maxRecDepth 100000 in
theorem out_law {w : List Int} {x0 x1 x2 x3 x4 x5 x6 x7 x8 x9 x10 x11 x12 x13 x14 x15 x16 x17 x18 x19 x20 x21 x22 x23 x24 x25 x26 x27 x28 x29 x30 x31 x32 x33 x34 x35 x36 x37 x38 x39 x40 x41 x42 x43 x44 x45 x46 x47 x48 x49 x50 x51 x52 x53 x54 x55 x56 x57 x58 x59 x60 x61 x62 x63 x64 x65 x66 x67 x68 x69 x70 x71 x72 x73 x74 x75 x76 x77 x78 x79 x80 x81 x82 x83 x84 x85 x86 x87 x88 x89 x90 x91 x92 x93 x94 x95 x96 x97 x98 x99 x100 x101 x102 x103 x104 x105 x106 x107 x108 x109 x110 x111 x112 x113 x114 x115 x116 x117 x118 x119 x120 x121 x122 x123 x124 x125 x126 x127 : Int} (e0 : x0 = shrI .u64 (w.getD 0 0) 56) (e1 : x1 = IntKind.u8.wrap x0) (e2 : x2 = shrI .u64 (w.getD 0 0) 48) (e3 : x3 = IntKind.u8.wrap x2) (e4 : x4 = shrI .u64 (w.getD 0 0) 40) (e5 : x5 = IntKind.u8.wrap x4) (e6 : x6 = shrI .u64 (w.getD 0 0) 32) (e7 : x7 = IntKind.u8.wrap x6) (e8 : x8 = shrI .u64 (w.getD 0 0) 24) (e9 : x9 = IntKind.u8.wrap x8) (e10 : x10 = shrI .u64 (w.getD 0 0) 16) (e11 : x11 = IntKind.u8.wrap x10) (e12 : x12 = shrI .u64 (w.getD 0 0) 8) (e13 : x13 = IntKind.u8.wrap x12) (e14 : x14 = shrI .u64 (w.getD 0 0) 0) (e15 : x15 = IntKind.u8.wrap x14) (e16 : x16 = shrI .u64 (w.getD 1 0) 56) (e17 : x17 = IntKind.u8.wrap x16) (e18 : x18 = shrI .u64 (w.getD 1 0) 48) (e19 : x19 = IntKind.u8.wrap x18) (e20 : x20 = shrI .u64 (w.getD 1 0) 40) (e21 : x21 = IntKind.u8.wrap x20) (e22 : x22 = shrI .u64 (w.getD 1 0) 32) (e23 : x23 = IntKind.u8.wrap x22) (e24 : x24 = shrI .u64 (w.getD 1 0) 24) (e25 : x25 = IntKind.u8.wrap x24) (e26 : x26 = shrI .u64 (w.getD 1 0) 16) (e27 : x27 = IntKind.u8.wrap x26) (e28 : x28 = shrI .u64 (w.getD 1 0) 8) (e29 : x29 = IntKind.u8.wrap x28) (e30 : x30 = shrI .u64 (w.getD 1 0) 0) (e31 : x31 = IntKind.u8.wrap x30) (e32 : x32 = shrI .u64 (w.getD 2 0) 56) (e33 : x33 = IntKind.u8.wrap x32) (e34 : x34 = shrI .u64 (w.getD 2 0) 48) (e35 : x35 = IntKind.u8.wrap x34) (e36 : x36 = shrI .u64 (w.getD 2 0) 40) (e37 : x37 = IntKind.u8.wrap x36) (e38 : x38 = shrI .u64 (w.getD 2 0) 32) (e39 : x39 = IntKind.u8.wrap x38) (e40 : x40 = shrI .u64 (w.getD 2 0) 24) (e41 : x41 = IntKind.u8.wrap x40) (e42 : x42 = shrI .u64 (w.getD 2 0) 16) (e43 : x43 = IntKind.u8.wrap x42) (e44 : x44 = shrI .u64 (w.getD 2 0) 8) (e45 : x45 = IntKind.u8.wrap x44) (e46 : x46 = shrI .u64 (w.getD 2 0) 0) (e47 : x47 = IntKind.u8.wrap x46) (e48 : x48 = shrI .u64 (w.getD 3 0) 56) (e49 : x49 = IntKind.u8.wrap x48) (e50 : x50 = shrI .u64 (w.getD 3 0) 48) (e51 : x51 = IntKind.u8.wrap x50) (e52 : x52 = shrI .u64 (w.getD 3 0) 40) (e53 : x53 = IntKind.u8.wrap x52) (e54 : x54 = shrI .u64 (w.getD 3 0) 32) (e55 : x55 = IntKind.u8.wrap x54) (e56 : x56 = shrI .u64 (w.getD 3 0) 24) (e57 : x57 = IntKind.u8.wrap x56) (e58 : x58 = shrI .u64 (w.getD 3 0) 16) (e59 : x59 = IntKind.u8.wrap x58) (e60 : x60 = shrI .u64 (w.getD 3 0) 8) (e61 : x61 = IntKind.u8.wrap x60) (e62 : x62 = shrI .u64 (w.getD 3 0) 0) (e63 : x63 = IntKind.u8.wrap x62) (e64 : x64 = shrI .u64 (w.getD 4 0) 56) (e65 : x65 = IntKind.u8.wrap x64) (e66 : x66 = shrI .u64 (w.getD 4 0) 48) (e67 : x67 = IntKind.u8.wrap x66) (e68 : x68 = shrI .u64 (w.getD 4 0) 40) (e69 : x69 = IntKind.u8.wrap x68) (e70 : x70 = shrI .u64 (w.getD 4 0) 32) (e71 : x71 = IntKind.u8.wrap x70) (e72 : x72 = shrI .u64 (w.getD 4 0) 24) (e73 : x73 = IntKind.u8.wrap x72) (e74 : x74 = shrI .u64 (w.getD 4 0) 16) (e75 : x75 = IntKind.u8.wrap x74) (e76 : x76 = shrI .u64 (w.getD 4 0) 8) (e77 : x77 = IntKind.u8.wrap x76) (e78 : x78 = shrI .u64 (w.getD 4 0) 0) (e79 : x79 = IntKind.u8.wrap x78) (e80 : x80 = shrI .u64 (w.getD 5 0) 56) (e81 : x81 = IntKind.u8.wrap x80) (e82 : x82 = shrI .u64 (w.getD 5 0) 48) (e83 : x83 = IntKind.u8.wrap x82) (e84 : x84 = shrI .u64 (w.getD 5 0) 40) (e85 : x85 = IntKind.u8.wrap x84) (e86 : x86 = shrI .u64 (w.getD 5 0) 32) (e87 : x87 = IntKind.u8.wrap x86) (e88 : x88 = shrI .u64 (w.getD 5 0) 24) (e89 : x89 = IntKind.u8.wrap x88) (e90 : x90 = shrI .u64 (w.getD 5 0) 16) (e91 : x91 = IntKind.u8.wrap x90) (e92 : x92 = shrI .u64 (w.getD 5 0) 8) (e93 : x93 = IntKind.u8.wrap x92) (e94 : x94 = shrI .u64 (w.getD 5 0) 0) (e95 : x95 = IntKind.u8.wrap x94) (e96 : x96 = shrI .u64 (w.getD 6 0) 56) (e97 : x97 = IntKind.u8.wrap x96) (e98 : x98 = shrI .u64 (w.getD 6 0) 48) (e99 : x99 = IntKind.u8.wrap x98) (e100 : x100 = shrI .u64 (w.getD 6 0) 40) (e101 : x101 = IntKind.u8.wrap x100) (e102 : x102 = shrI .u64 (w.getD 6 0) 32) (e103 : x103 = IntKind.u8.wrap x102) (e104 : x104 = shrI .u64 (w.getD 6 0) 24) (e105 : x105 = IntKind.u8.wrap x104) (e106 : x106 = shrI .u64 (w.getD 6 0) 16) (e107 : x107 = IntKind.u8.wrap x106) (e108 : x108 = shrI .u64 (w.getD 6 0) 8) (e109 : x109 = IntKind.u8.wrap x108) (e110 : x110 = shrI .u64 (w.getD 6 0) 0) (e111 : x111 = IntKind.u8.wrap x110) (e112 : x112 = shrI .u64 (w.getD 7 0) 56) (e113 : x113 = IntKind.u8.wrap x112) (e114 : x114 = shrI .u64 (w.getD 7 0) 48) (e115 : x115 = IntKind.u8.wrap x114) (e116 : x116 = shrI .u64 (w.getD 7 0) 40) (e117 : x117 = IntKind.u8.wrap x116) (e118 : x118 = shrI .u64 (w.getD 7 0) 32) (e119 : x119 = IntKind.u8.wrap x118) (e120 : x120 = shrI .u64 (w.getD 7 0) 24) (e121 : x121 = IntKind.u8.wrap x120) (e122 : x122 = shrI .u64 (w.getD 7 0) 16) (e123 : x123 = IntKind.u8.wrap x122) (e124 : x124 = shrI .u64 (w.getD 7 0) 8) (e125 : x125 = IntKind.u8.wrap x124) (e126 : x126 = shrI .u64 (w.getD 7 0) 0) (e127 : x127 = IntKind.u8.wrap x126) : ((((((((((((((((((((((((((((((((((((((((((((((((((((((((((((((((List.replicate 64 (0 : Int)).set 0 x1).set 1 x3).set 2 x5).set 3 x7).set 4 x9).set 5 x11).set 6 x13).set 7 x15).set 8 x17).set 9 x19).set 10 x21).set 11 x23).set 12 x25).set 13 x27).set 14 x29).set 15 x31).set 16 x33).set 17 x35).set 18 x37).set 19 x39).set 20 x41).set 21 x43).set 22 x45).set 23 x47).set 24 x49).set 25 x51).set 26 x53).set 27 x55).set 28 x57).set 29 x59).set 30 x61).set 31 x63).set 32 x65).set 33 x67).set 34 x69).set 35 x71).set 36 x73).set 37 x75).set 38 x77).set 39 x79).set 40 x81).set 41 x83).set 42 x85).set 43 x87).set 44 x89).set 45 x91).set 46 x93).set 47 x95).set 48 x97).set 49 x99).set 50 x101).set 51 x103).set 52 x105).set 53 x107).set 54 x109).set 55 x111).set 56 x113).set 57 x115).set 58 x117).set 59 x119).set 60 x121).set 61 x123).set 62 x125).set 63 x127 = outb w := by
  subst e0 e1 e2 e3 e4 e5 e6 e7 e8 e9 e10 e11 e12 e13 e14 e15 e16 e17 e18 e19 e20 e21 e22 e23 e24 e25 e26 e27 e28 e29 e30 e31 e32 e33 e34 e35 e36 e37 e38 e39 e40 e41 e42 e43 e44 e45 e46 e47 e48 e49 e50 e51 e52 e53 e54 e55 e56 e57 e58 e59 e60 e61 e62 e63 e64 e65 e66 e67 e68 e69 e70 e71 e72 e73 e74 e75 e76 e77 e78 e79 e80 e81 e82 e83 e84 e85 e86 e87 e88 e89 e90 e91 e92 e93 e94 e95 e96 e97 e98 e99 e100 e101 e102 e103 e104 e105 e106 e107 e108 e109 e110 e111 e112 e113 e114 e115 e116 e117 e118 e119 e120 e121 e122 e123 e124 e125 e126 e127
  rfl
theorem len_law {b : List Int} {n : Int} {x0 x1 x2 x3 x4 x5 x6 x7 x8 x9 x10 x11 x12 x13 x14 x15 x16 x17 x18 x19 x20 x21 x22 x23 x24 x25 x26 x27 x28 x29 x30 x31 : Int} (e0 : x0 = shrI .u64 (hin n) 0) (e1 : x1 = IntKind.u8.wrap x0) (e2 : x2 = shrI .u64 (lon n) 0) (e3 : x3 = IntKind.u8.wrap x2) (e4 : x4 = shrI .u64 (hin n) 8) (e5 : x5 = IntKind.u8.wrap x4) (e6 : x6 = shrI .u64 (lon n) 8) (e7 : x7 = IntKind.u8.wrap x6) (e8 : x8 = shrI .u64 (hin n) 16) (e9 : x9 = IntKind.u8.wrap x8) (e10 : x10 = shrI .u64 (lon n) 16) (e11 : x11 = IntKind.u8.wrap x10) (e12 : x12 = shrI .u64 (hin n) 24) (e13 : x13 = IntKind.u8.wrap x12) (e14 : x14 = shrI .u64 (lon n) 24) (e15 : x15 = IntKind.u8.wrap x14) (e16 : x16 = shrI .u64 (hin n) 32) (e17 : x17 = IntKind.u8.wrap x16) (e18 : x18 = shrI .u64 (lon n) 32) (e19 : x19 = IntKind.u8.wrap x18) (e20 : x20 = shrI .u64 (hin n) 40) (e21 : x21 = IntKind.u8.wrap x20) (e22 : x22 = shrI .u64 (lon n) 40) (e23 : x23 = IntKind.u8.wrap x22) (e24 : x24 = shrI .u64 (hin n) 48) (e25 : x25 = IntKind.u8.wrap x24) (e26 : x26 = shrI .u64 (lon n) 48) (e27 : x27 = IntKind.u8.wrap x26) (e28 : x28 = shrI .u64 (hin n) 56) (e29 : x29 = IntKind.u8.wrap x28) (e30 : x30 = shrI .u64 (lon n) 56) (e31 : x31 = IntKind.u8.wrap x30) : ((((((((((((((((b).set 119 x1).set 127 x3).set 118 x5).set 126 x7).set 117 x9).set 125 x11).set 116 x13).set 124 x15).set 115 x17).set 123 x19).set 114 x21).set 122 x23).set 113 x25).set 121 x27).set 112 x29).set 120 x31 = setlen b n := by
  subst e0 e1 e2 e3 e4 e5 e6 e7 e8 e9 e10 e11 e12 e13 e14 e15 e16 e17 e18 e19 e20 e21 e22 e23 e24 e25 e26 e27 e28 e29 e30 e31
  rfl

def sumS : List Seg → List SV → Option (List Prop × SV × List Seg)
  | [.arr .u64 8 _ ws, .arr .u8 128 _ bl, .one (.i .i64 n), .one (.b _ m)], [] => some ([0 ≤ n.z], .arr .u8 64 false (sumL ws bl n.z m), [.arr .u64 8 false ws, .arr .u8 128 false bl, .one (.i .i64 ⟨false, n.z⟩), .one (.b false m)])
  | _, _ => none
set_option maxHeartbeats 4000000 in
set_option maxRecDepth 100000 in
theorem sumP_ok : CallOk Tryd.prog gh 62 (methCtr sumS) := by
  refine call_meth (fn := Tryd.f62) Γ4_ok rfl (fun g hg => by have hg : g ∈ [3, 4] := hg; simp at hg; omega) (by kernel_rfl) (by kernel_rfl) (by kernel_rfl) sumS fun l rest p v l' hs hp hf hr => ?_
  unfold sumS at hs
  split at hs
  · rename_i e1 ws e2 bl n e3 m
    simp only [Option.some.injEq, Prod.mk.injEq] at hs
    obtain ⟨rfl, rfl, rfl⟩ := hs
    obtain ⟨nT, n⟩ := n
    dsimp only at *
    have hn0 : 0 ≤ n := hp.1
    have hm0 : 0 ≤ n.tmod 128 ∧ n.tmod 128 < 128 := by rw [Int.tmod_eq_emod_of_nonneg hn0]; omega
    refine ⟨fun dm ρ cs hcs => rec_pos (k' := .u64) (e' := true) (bl := []) dm ρ cs hcs, [.arr .u64 8 false ws, .arr .u8 128 false bl, .one (.i .i64 ⟨false, n⟩), .one (.b false m)], [], [], _, ⟨⟨rfl, rfl, rfl⟩, ⟨rfl, rfl, rfl⟩, ⟨rfl, rfl⟩, ⟨rfl, rfl⟩, trivial⟩, trivial, Nat.le_of_ble_eq_true (by kernel_rfl), vcM_noloops ?_⟩
    show vc27 ws bl n m _ _
    rw [vc27_eq]
    intro x1 e1 _ _ x2 e2 _ _ x3 e3 _ x4 e4
    subst e1 e2 e3 e4
    refine ⟨fun h => ?_, fun h => ?_⟩
    · have hm : m = false := by simpa using h
      subst hm
      exact ⟨rfl, ⟨rfl, rfl, rfl⟩, ⟨rfl, rfl, rfl⟩, ⟨rfl, rfl⟩, ⟨rfl, rfl⟩, trivial⟩
    · have hm : m = true := by simpa using h
      subst hm
      intro x5 e5 _
      refine ⟨need_of (by omega), need_of (by omega), ?_⟩
      intro x6 e6 _ _ x7 e7 _ _ x8 e8 _
      refine ⟨need_of (by omega), need_of (by omega), ?_⟩
      intro x9 e9 _ _ x10 e10 _ _ x11 e11 _
      have f5 : x5 = x3.tmod 128 := e5
      refine ⟨fun h5 => ?_, fun h5 => ?_⟩
      · have h5 := of_decide_eq_true h5
        intro x12 e12 _ _ x13 e13 _ _ x14 e14 _
        refine ⟨need_of (by omega), ?_⟩
        intro x15 e15 _ _ x16 e16 _ _ x17 e17 _ x18 e18 _ x19 e19 _ x20 e20 _ x21 e21 _ x22 e22 _ x23 e23 _ x24 e24 _ x25 e25 _ x26 e26 _ x27 e27 _ x28 e28 _ x29 e29 _ x30 e30 _ x31 e31 _ x32 e32 _ x33 e33 _ x34 e34 _ x35 e35 _ x36 e36 _ x37 e37 _ x38 e38 _ x39 e39 _ x40 e40 _ x41 e41 _ x42 e42 _ x43 e43 _ x44 e44 _ x45 e45 _ x46 e46 _ x47 e47 _ x48 e48 _ x49 e49 _ x50 e50 _ x51 e51 _ x52 e52 _ x53 e53 _ _ x54 e54 _ _ x55 e55 _ x56 e56 _ x57 e57 _ x58 e58 _ x59 e59 _ x60 e60 _ x61 e61 _ x62 e62 _ x63 e63 _ x64 e64 _ x65 e65 _ x66 e66 _ x67 e67 _ x68 e68 _ x69 e69 _ x70 e70 _ x71 e71 _ x72 e72 _ x73 e73 _ x74 e74 _ x75 e75 _ x76 e76 _ x77 e77 _ x78 e78 _ x79 e79 _ x80 e80 _ x81 e81 _ x82 e82 _ x83 e83 _ x84 e84 _ x85 e85 _ x86 e86 _ x87 e87 _ x88 e88 _ x89 e89 _ x90 e90 _ x91 e91 _ x92 e92 _ x93 e93 _ x94 e94 _ x95 e95 _ x96 e96 _ x97 e97 _ x98 e98 _ x99 e99 _ x100 e100 _ x101 e101 _ x102 e102 _ x103 e103 _ x104 e104 _ x105 e105 _ x106 e106 _ x107 e107 _ x108 e108 _ x109 e109 _ x110 e110 _ x111 e111 _ x112 e112 _ x113 e113 _ x114 e114 _ x115 e115 _ x116 e116 _ x117 e117 _ x118 e118 _ x119 e119 _ x120 e120 _ x121 e121 _ x122 e122 _ x123 e123 _ x124 e124 _ x125 e125 _ x126 e126 _ x127 e127 _ x128 e128 _ x129 e129 _ x130 e130 _ x131 e131 _ x132 e132 _ x133 e133 _ x134 e134 _ x135 e135 _ x136 e136 _ x137 e137 _ x138 e138 _ x139 e139 _ x140 e140 _ x141 e141 _ x142 e142 _ x143 e143 _ x144 e144 _ x145 e145 _ x146 e146 _ x147 e147 _ x148 e148 _ x149 e149 _ x150 e150 _ x151 e151 _ x152 e152 _ x153 e153 _ x154 e154 _ x155 e155 _ x156 e156 _ x157 e157 _ x158 e158 _ x159 e159 _ x160 e160 _ x161 e161 _ x162 e162 _ x163 e163 _ x164 e164 _ x165 e165 _ x166 e166 _ x167 e167 _ x168 e168 _ x169 e169 _ x170 e170 _ x171 e171 _ x172 e172 _ x173 e173 _ x174 e174 _ x175 e175 _ x176 e176 _ x177 e177 _ x178 e178 _ x179 e179 _ x180 e180 _ x181 e181 _ x182 e182 _ x183 e183 _
        refine ⟨?_, ⟨rfl, rfl, rfl⟩, ⟨rfl, rfl, rfl⟩, ⟨rfl, rfl⟩, ⟨rfl, rfl⟩, trivial⟩
        show _ = sumL x1 x2 x3 true
        have hs : sumL x1 x2 x3 true = outb (compr (compr x1 (endb x2 x3)) (setlen (splice (endb x2 x3) 0 (List.replicate 128 0)) x3)) := by
          unfold sumL finw; rw [if_pos rfl, if_pos (by omega)]
        have hb : x10 = endb x2 x3 := by rw [e10, e7, e5]; rfl
        have hhi : x19 = hin x3 := by rw [e19, e18, e17, e14, e11, e8]; rfl
        have hlo : x20 = lon x3 := by rw [e20, e18, e17, e14, e11, e8]; rfl
        rw [hhi] at e21 e25 e29 e33 e37 e41 e45 e49
        rw [hlo] at e23 e27 e31 e35 e39 e43 e47 e51
        have hw : x53 = compr (compr x1 (endb x2 x3)) (setlen (splice (endb x2 x3) 0 (List.replicate 128 0)) x3) := by
          rw [e53, e15, e12, e9, e6, hb, len_law e21 e22 e23 e24 e25 e26 e27 e28 e29 e30 e31 e32 e33 e34 e35 e36 e37 e38 e39 e40 e41 e42 e43 e44 e45 e46 e47 e48 e49 e50 e51 e52, e16, e13, hb]
        rw [hs, ← hw]
        exact out_law e56 e57 e58 e59 e60 e61 e62 e63 e64 e65 e66 e67 e68 e69 e70 e71 e72 e73 e74 e75 e76 e77 e78 e79 e80 e81 e82 e83 e84 e85 e86 e87 e88 e89 e90 e91 e92 e93 e94 e95 e96 e97 e98 e99 e100 e101 e102 e103 e104 e105 e106 e107 e108 e109 e110 e111 e112 e113 e114 e115 e116 e117 e118 e119 e120 e121 e122 e123 e124 e125 e126 e127 e128 e129 e130 e131 e132 e133 e134 e135 e136 e137 e138 e139 e140 e141 e142 e143 e144 e145 e146 e147 e148 e149 e150 e151 e152 e153 e154 e155 e156 e157 e158 e159 e160 e161 e162 e163 e164 e165 e166 e167 e168 e169 e170 e171 e172 e173 e174 e175 e176 e177 e178 e179 e180 e181 e182 e183
      · have h5 := of_decide_eq_false h5
        intro x184 e184 _ x185 e185 _ x186 e186 _ x187 e187 _ x188 e188 _ x189 e189 _ x190 e190 _ x191 e191 _ x192 e192 _ x193 e193 _ x194 e194 _ x195 e195 _ x196 e196 _ x197 e197 _ x198 e198 _ x199 e199 _ x200 e200 _ x201 e201 _ x202 e202 _ x203 e203 _ x204 e204 _ x205 e205 _ x206 e206 _ x207 e207 _ x208 e208 _ x209 e209 _ x210 e210 _ x211 e211 _ x212 e212 _ x213 e213 _ x214 e214 _ x215 e215 _ x216 e216 _ x217 e217 _ x218 e218 _ x219 e219 _ _ x220 e220 _ _ x221 e221 _ x222 e222 _ x223 e223 _ x224 e224 _ x225 e225 _ x226 e226 _ x227 e227 _ x228 e228 _ x229 e229 _ x230 e230 _ x231 e231 _ x232 e232 _ x233 e233 _ x234 e234 _ x235 e235 _ x236 e236 _ x237 e237 _ x238 e238 _ x239 e239 _ x240 e240 _ x241 e241 _ x242 e242 _ x243 e243 _ x244 e244 _ x245 e245 _ x246 e246 _ x247 e247 _ x248 e248 _ x249 e249 _ x250 e250 _ x251 e251 _ x252 e252 _ x253 e253 _ x254 e254 _ x255 e255 _ x256 e256 _ x257 e257 _ x258 e258 _ x259 e259 _ x260 e260 _ x261 e261 _ x262 e262 _ x263 e263 _ x264 e264 _ x265 e265 _ x266 e266 _ x267 e267 _ x268 e268 _ x269 e269 _ x270 e270 _ x271 e271 _ x272 e272 _ x273 e273 _ x274 e274 _ x275 e275 _ x276 e276 _ x277 e277 _ x278 e278 _ x279 e279 _ x280 e280 _ x281 e281 _ x282 e282 _ x283 e283 _ x284 e284 _ x285 e285 _ x286 e286 _ x287 e287 _ x288 e288 _ x289 e289 _ x290 e290 _ x291 e291 _ x292 e292 _ x293 e293 _ x294 e294 _ x295 e295 _ x296 e296 _ x297 e297 _ x298 e298 _ x299 e299 _ x300 e300 _ x301 e301 _ x302 e302 _ x303 e303 _ x304 e304 _ x305 e305 _ x306 e306 _ x307 e307 _ x308 e308 _ x309 e309 _ x310 e310 _ x311 e311 _ x312 e312 _ x313 e313 _ x314 e314 _ x315 e315 _ x316 e316 _ x317 e317 _ x318 e318 _ x319 e319 _ x320 e320 _ x321 e321 _ x322 e322 _ x323 e323 _ x324 e324 _ x325 e325 _ x326 e326 _ x327 e327 _ x328 e328 _ x329 e329 _ x330 e330 _ x331 e331 _ x332 e332 _ x333 e333 _ x334 e334 _ x335 e335 _ x336 e336 _ x337 e337 _ x338 e338 _ x339 e339 _ x340 e340 _ x341 e341 _ x342 e342 _ x343 e343 _ x344 e344 _ x345 e345 _ x346 e346 _ x347 e347 _ x348 e348 _ x349 e349 _
        refine ⟨?_, ⟨rfl, rfl, rfl⟩, ⟨rfl, rfl, rfl⟩, ⟨rfl, rfl⟩, ⟨rfl, rfl⟩, trivial⟩
        show _ = sumL x1 x2 x3 true
        have hs : sumL x1 x2 x3 true = outb (compr x1 (setlen (endb x2 x3) x3)) := by
          unfold sumL finw; rw [if_pos rfl, if_neg (by omega)]
        have hb : x10 = endb x2 x3 := by rw [e10, e7, e5]; rfl
        have hhi : x185 = hin x3 := by rw [e185, e184, e11, e8]; rfl
        have hlo : x186 = lon x3 := by rw [e186, e184, e11, e8]; rfl
        rw [hhi] at e187 e191 e195 e199 e203 e207 e211 e215
        rw [hlo] at e189 e193 e197 e201 e205 e209 e213 e217
        have hw : x219 = compr x1 (setlen (endb x2 x3) x3) := by
          rw [e219, e9, e6, len_law e187 e188 e189 e190 e191 e192 e193 e194 e195 e196 e197 e198 e199 e200 e201 e202 e203 e204 e205 e206 e207 e208 e209 e210 e211 e212 e213 e214 e215 e216 e217 e218, hb]
        rw [hs, ← hw]
        exact out_law e222 e223 e224 e225 e226 e227 e228 e229 e230 e231 e232 e233 e234 e235 e236 e237 e238 e239 e240 e241 e242 e243 e244 e245 e246 e247 e248 e249 e250 e251 e252 e253 e254 e255 e256 e257 e258 e259 e260 e261 e262 e263 e264 e265 e266 e267 e268 e269 e270 e271 e272 e273 e274 e275 e276 e277 e278 e279 e280 e281 e282 e283 e284 e285 e286 e287 e288 e289 e290 e291 e292 e293 e294 e295 e296 e297 e298 e299 e300 e301 e302 e303 e304 e305 e306 e307 e308 e309 e310 e311 e312 e313 e314 e315 e316 e317 e318 e319 e320 e321 e322 e323 e324 e325 e326 e327 e328 e329 e330 e331 e332 e333 e334 e335 e336 e337 e338 e339 e340 e341 e342 e343 e344 e345 e346 e347 e348 e349
  · cases hs
end Go.Gx

/- Size and Sum of nil; the table so far. -/
namespace Go.Gx
open Go.Proofs Go.Sp
set_option linter.unusedVariables false

def sumN : List SV → Option (List Prop × SV)
  | [.np] => some ([], .arr .u8 64 false (List.replicate 64 0))
  | _ => none
theorem sumN_ok : CallOk Tryd.prog gh 62 (pureCtr sumN) := by
  refine call_pure (fn := Tryd.f62) Γ4_ok rfl (by kernel_rfl) (by kernel_rfl) (by kernel_rfl) sumN fun args P0 Y0 hs hp hf => ?_
  unfold sumN at hs
  split at hs
  · simp only [Option.some.injEq, Prod.mk.injEq] at hs
    obtain ⟨rfl, rfl⟩ := hs
    refine ⟨[.np], [], _, ⟨trivial, trivial⟩, Nat.le_of_ble_eq_true (by kernel_rfl), vc_noloops ?_⟩
    show vc27n _ _
    rw [vc27n_eq]
    exact rfl
  · cases hs
def Γ5 : Tab := ⟨tys, (62, nilCtr (pureCtr sumN) (methCtr sumS)) :: Γ4.ctr, [3, 4], gh⟩
theorem Γ5_ok : TabOk Tryd.prog Γ5 := Γ4_ok.cons (nil_ok sumN_ok sumP_ok)
end Go.Gx

/- Contracts of methods that turn a record and read slices. -/
namespace Go.Gx
open Go.RowKit
set_option linter.unusedVariables false

section
variable {P : Program} {Γ : Tab}

/-- A callee that gets a record of the caller's (under 600) and sees rows of his (from 500 on). -/
theorem meth_core (hΓ : TabOk P Γ) (hgl : Γ.gl = keysOf Γ.gh) (hg5 : ∀ g ∈ keysOf Γ.gh, g < 500) {f : FuncId} {fn : Func} (hf : P.funcs[f]? = some fn)
    {w0 : World} {M : Nat → Prop} {ρ : Nat → Pl} {H : Nat → Option SB} {w : World} (hG : Glob Γ.gh w0 M) (hm : Mem w0 M ρ H w)
    {key : Nat} {l l0 l' : List Seg} (hkey : H key = some (.segs false l)) (hpos : ∀ dm ρ cs, SegsD dm ρ l cs → 0 < cs.length) (k1 : eqSegs l l0)
    {V : Heap} {pl : Nat → Pl} (hV : ∀ k b, assoc V k = some b → 500 ≤ k ∧ k < 600 ∧ ∃ l cs, b = .segs true l ∧ SegsD (fun _ => False) (fun _ => ({ blk := 0, off := 0, cap := 0 } : Pl)) l cs ∧ cs.length ≤ (pl k).cap ∧ w.rangeAt (pl k).blk (pl k).off cs ∧ (0 < (pl k).cap → (pl k).blk < w.heap.size ∧ (pl k).blk ≠ (ρ key).blk))
    {args' : List SV} {vr : List Value} (hargs' : ∀ (dm' : Nat → Prop) (ρ' : Nat → Pl), (∀ k, (assoc V k).isSome = true → dm' k ∧ ρ' k = pl k) → Ds dm' ρ' args' vr) (k3 : args'.length + 1 ≤ fn.ntmps)
    {v : SV} {L : Loops} {inv : Nat → List Pv → Nat → Prop} (k4 : VcM Γ fn L (Γ.gh ++ (V ++ [(600, .segs false l0)])) (.p 600 0 :: args') (fun x l1 => eqV x v ∧ eqSegs l1 l') inv) :
    Calls P f (.pointer (some (at_ (ρ key) 0)) :: vr).toArray w fun e w' => ∃ v', e = .returned v' ∧ (∀ dm ρ, D dm ρ v v') ∧ Mem w0 M ρ (updH H key (.segs false l')) w' := by
  obtain ⟨cs, hcs, hcl, hra, hth⟩ := hm.heap.blk key _ hkey
  have hcap : 0 < (ρ key).cap := Nat.lt_of_lt_of_le (hpos _ _ cs hcs) hcl
  obtain ⟨ρg, g1, g2, g3⟩ := mem_of_glob hG hm
  have hne : ∀ g b, (g, b) ∈ Γ.gh → g ≠ (ρ key).blk := fun g b hgb e => by
    obtain ⟨_, _, _, _, _, q1, q2⟩ := hG g b hgb
    rcases hm.own key l hkey hcap with hh | hh
    · omega
    · exact q1 (e ▸ hh)
  have hlow : ∀ k b, assoc Γ.gh k = some b → k < 500 := fun k b hb => hg5 k (keysOf_of_dm (by unfold dmOf; rw [hb]; rfl))
  let HH : Heap := Γ.gh ++ (V ++ [(600, SB.segs false l0)])
  have hself : assoc HH 600 = some (.segs false l0) := by
    show assoc (Γ.gh ++ (V ++ [(600, SB.segs false l0)])) 600 = _
    rw [assoc_app]
    split
    · rename_i x hx
      have := hlow _ _ hx; omega
    · rw [assoc_app]
      split
      · rename_i x hx
        have := (hV _ _ hx).2.1; omega
      · rfl
  have hat : ∀ k b, assoc HH k = some b → (k < 500 ∧ assoc Γ.gh k = some b) ∨ (500 ≤ k ∧ k < 600 ∧ assoc V k = some b) ∨ (k = 600 ∧ b = .segs false l0) := fun k b hb => by
    have hb : assoc (Γ.gh ++ (V ++ [(600, SB.segs false l0)])) k = some b := hb
    rw [assoc_app] at hb
    split at hb
    · rename_i x hx
      rw [hb] at hx
      exact .inl ⟨hlow k b hx, hx⟩
    · rw [assoc_app] at hb
      split at hb
      · rename_i x hx
        rw [hb] at hx
        exact .inr (.inl ⟨(hV k b hx).1, (hV k b hx).2.1, hx⟩)
      · simp only [assoc] at hb
        split at hb
        · rename_i e
          exact .inr (.inr ⟨(Nat.eq_of_beq_eq_true e).symm, (Option.some.inj hb).symm⟩)
        · cases hb
  have hup : ∀ k b, assoc Γ.gh k = some b → assoc HH k = some b := fun k b hb => by
    show assoc (Γ.gh ++ (V ++ [(600, SB.segs false l0)])) k = _
    rw [assoc_app, hb]
  have hupV : ∀ k b, assoc V k = some b → assoc HH k = some b := fun k b hb => by
    show assoc (Γ.gh ++ (V ++ [(600, SB.segs false l0)])) k = _
    rw [assoc_app]
    split
    · rename_i x hx
      have := hlow _ _ hx; have := (hV k b hb).1; omega
    · rw [assoc_app, hb]
  let M' : Nat → Prop := fun b => b = (ρ key).blk
  let ρ1 : Nat → Pl := fun k => if k < 500 then ρg k else if k < 600 then pl k else ρ key
  have hρ6 : ρ1 600 = ρ key := by simp [ρ1]
  have hρg : ∀ k, k < 500 → ρ1 k = ρg k := fun k hk => by simp [ρ1, hk]
  have hρv : ∀ k, 500 ≤ k → k < 600 → ρ1 k = pl k := fun k hk hk2 => by simp [ρ1, hk2]; omega
  have hro : ∀ k b, assoc Γ.gh k = some b → ∃ l, b = .segs true l := fun k b hb => by
    obtain ⟨l, _, e, _⟩ := g2 k b (assoc_mem hb); exact ⟨l, e⟩
  have hmem : Mem w M' ρ1 (assoc HH) w := by
    refine ⟨⟨fun k b hb => ?_, fun k k' ro ro' l1 l2 e1 e2 hkk hr c1 c2 => ?_, fun k ro l1 e1 c1 => ?_⟩, FrameW.refl _ _, fun k l1 e1 c1 => ?_, fun k e1 => ?_, fun k l1 e1 c1 => ?_, .none (fun k kd ms e1 => by
      rcases hat k _ e1 with ⟨_, h⟩ | ⟨_, _, h⟩ | ⟨_, h⟩
      · obtain ⟨_, e⟩ := hro k _ h; cases e
      · obtain ⟨_, _, _, _, e, _⟩ := hV k _ h; cases e
      · cases h)⟩
    · rcases hat k b hb with ⟨hk, hb'⟩ | ⟨hk, hk2, hb'⟩ | ⟨rfl, rfl⟩
      · refine (g1.heap.blk k b hb').of_block (fun j hj => ?_) (fun j hj => ?_) (hρg k hk) (fun _ _ _ _ => rfl)
        · unfold dmOf at hj ⊢
          obtain ⟨b', hb''⟩ := Option.isSome_iff_exists.1 hj
          rw [hup j b' hb'']; rfl
        · unfold dmOf at hj
          obtain ⟨b', hb''⟩ := Option.isSome_iff_exists.1 hj
          exact .of_eq (hρg j (hlow j b' hb''))
      · obtain ⟨_, _, lz, cz, rfl, z1, z2, z3, _⟩ := hV k b hb'
        exact ⟨cz, SegsD.mono (fun _ h => h.elim) (fun _ h => h.elim) lz cz z1, by rw [hρv k hk hk2]; exact z2, by rw [hρv k hk hk2]; exact z3, fun h => by cases h⟩
      · exact ⟨cs, eqSegs_D l l0 cs k1 hcs, by rw [hρ6]; exact hcl, by rw [hρ6]; exact hra, fun _ => by rw [hρ6]; exact hth rfl⟩
    · have hk0 : ∀ a b lx, assoc HH a = some (.segs b lx) → a < 600 → 0 < (ρ1 a).cap → (ρ1 a).blk ≠ (ρ key).blk ∧ b = true := fun a b lx ha hlt hca => by
        rcases hat a _ ha with ⟨ha1, ha'⟩ | ⟨ha1, ha2, ha'⟩ | ⟨e, _⟩
        · obtain ⟨lz, ez⟩ := hro a _ ha'
          simp only [SB.segs.injEq] at ez
          exact ⟨by rw [hρg a ha1, (g3 a).1]; exact hne a _ (assoc_mem ha'), ez.1⟩
        · obtain ⟨_, _, lz, cz, ez, z1, z2, z3, z4⟩ := hV a _ ha'
          simp only [SB.segs.injEq] at ez
          rw [hρv a ha1 ha2] at hca ⊢
          exact ⟨(z4 hca).2, ez.1⟩
        · omega
      have hc6 : ∀ a b lx, assoc HH a = some (.segs b lx) → a < 600 ∨ a = 600 := fun a b lx ha => by
        rcases hat a _ ha with ⟨ha1, _⟩ | ⟨_, ha2, _⟩ | ⟨e, _⟩
        · exact .inl (by omega)
        · exact .inl ha2
        · exact .inr e
      rcases hc6 k _ _ e1 with h1 | h1
      · rcases hc6 k' _ _ e2 with h2 | h2
        · have := (hk0 k ro l1 e1 h1 c1).2; have := (hk0 k' ro' l2 e2 h2 c2).2
          rcases hr with hr | hr <;> simp_all
        · subst h2; rw [hρ6]; exact (hk0 k ro l1 e1 h1 c1).1
      · subst h1
        rcases hc6 k' _ _ e2 with h2 | h2
        · rw [hρ6]; exact fun e => (hk0 k' ro' l2 e2 h2 c2).1 e.symm
        · exact absurd h2.symm hkk
    · rcases hat k _ e1 with ⟨h1, h1'⟩ | ⟨h1, h2, h1'⟩ | ⟨rfl, _⟩
      · rw [hρg k h1] at c1 ⊢; exact g1.heap.lt k ro l1 h1' c1
      · obtain ⟨_, _, lz, cz, ez, z1, z2, z3, z4⟩ := hV k _ h1'
        rw [hρv k h1 h2] at c1 ⊢; exact (z4 c1).1
      · rw [hρ6] at c1 ⊢; exact hm.heap.lt key false l hkey c1
    · rcases hat k _ e1 with ⟨h1, h1'⟩ | ⟨h1, h2, h1'⟩ | ⟨rfl, _⟩
      · obtain ⟨lz, ez⟩ := hro k _ h1'
        simp only [SB.segs.injEq] at ez
        cases ez.1
      · obtain ⟨_, _, lz, cz, ez, _⟩ := hV k _ h1'
        simp only [SB.segs.injEq] at ez
        cases ez.1
      · right; show (ρ1 600).blk = (ρ key).blk; rw [hρ6]
    · rcases hat k _ e1 with ⟨h1, h1'⟩ | ⟨h1, h2, h1'⟩ | ⟨_, h1⟩
      · obtain ⟨lz, ez⟩ := hro k _ h1'; cases ez
      · obtain ⟨_, _, lz, cz, ez, _⟩ := hV k _ h1'; cases ez
      · cases h1
    · rcases hat k _ e1 with ⟨h1, h1'⟩ | ⟨h1, h2, h1'⟩ | ⟨rfl, _⟩
      · obtain ⟨lz, ez⟩ := hro k _ h1'
        simp only [SB.segs.injEq] at ez
        cases ez.1
      · obtain ⟨_, _, lz, cz, ez, _⟩ := hV k _ h1'
        simp only [SB.segs.injEq] at ez
        cases ez.1
      · rw [hρ6] at c1 ⊢; exact hm.clean key l hkey c1
  have hgo : GlOk Γ w M' ρ1 (assoc HH) := by
    refine ⟨fun g hg => ?_, fun g b hgb => ?_⟩
    · have hdm : dmOf (assoc Γ.gh) g := assoc_dm (by rw [← hgl]; exact hg)
      unfold dmOf at hdm
      obtain ⟨b', hb''⟩ := Option.isSome_iff_exists.1 hdm
      refine ⟨by unfold dmOf; rw [hup g b' hb'']; rfl, ?_, ?_⟩
      · rw [hρg g (hlow g b' hb'')]; exact (g3 g).1
      · rw [hρg g (hlow g b' hb'')]; exact (g3 g).2
    · obtain ⟨lz, vz, q0, q1, q2, _, q4⟩ := g2 g b hgb
      exact ⟨lz, vz, q0, q1, q2, hne g b hgb, q4⟩
  have hdm6 : dmOf (assoc HH) 600 := by unfold dmOf; rw [hself]; rfl
  have hargs : Ds (dmOf (assoc HH)) ρ1 (.p 600 0 :: args') (.pointer (some (at_ (ρ key) 0)) :: vr) := by
    simp only [Ds]
    refine ⟨_, vr, ⟨hdm6, by rw [hρ6]⟩, rfl, hargs' _ _ fun k hk => ?_⟩
    obtain ⟨b, hb⟩ := Option.isSome_iff_exists.1 hk
    exact ⟨by unfold dmOf; rw [hupV k b hb]; rfl, hρv k (hV k b hb).1 (hV k b hb).2.1⟩
  refine (vcM_calls hΓ hf k4 (by simpa using k3) hgo hmem hargs).mono fun e w' he => ?_
  obtain ⟨x, v', h', ρ', rfl, r1, r2, r3, r4⟩ := he
  unfold kvM at r1
  split at r1
  · rename_i l1 hl1
    obtain ⟨t1, t2⟩ := r1
    have hρ' : PlLe (ρ key) (ρ' 600) := by have := (r4 600 hdm6).2; rwa [hρ6] at this
    obtain ⟨cs', s1, s2, s3, s4⟩ := r3.heap.blk 600 _ hl1
    rw [hρ'.cap] at s2
    rw [hρ'.blk, hρ'.off] at s3 s4
    rw [hρ'.cap] at s4
    exact ⟨v', rfl, fun dm ρ => eqV_D x v v' t1 r2, Mem.turn hm hkey hcap r3.frame (eqSegs_D l1 l' cs' t2 s1) s2 s3 (s4 rfl) (by have := r3.clean 600 _ hl1 (by rw [hρ'.cap]; exact hcap); rwa [hρ'.blk] at this)⟩
  · exact r1.elim

theorem con_est {est : Nat} {q : Con} (h : ∃ g off len p, conSeg g est off len = some (p, q)) : conSize q = est := by
  obtain ⟨g, off, len, p, h⟩ := h
  cases g <;> simp only [conSeg] at h
  · cases h
  · split at h
    · rename_i e _; simp only [Option.some.injEq, Prod.mk.injEq] at h; rw [← h.2]; exact (Nat.eq_of_beq_eq_true e).symm
    · cases h
  · split at h
    · rename_i e; simp only [Option.some.injEq, Prod.mk.injEq] at h; rw [← h.2]; exact (Nat.eq_of_beq_eq_true e).symm
    · cases h
  · split at h
    · rename_i e; simp only [Option.some.injEq, Prod.mk.injEq] at h; rw [← h.2]; exact (Nat.eq_of_beq_eq_true e).symm
    · cases h
  · cases h

/-- 'withCon' of a slice: its row too. -/
theorem withCon_more {w0 : World} {M : Nat → Prop} {ρ : Nat → Pl} {H : Nat → Option SB} {w : World} (hm : Mem w0 M ρ H w) {key c est : Nat} {off len : SI} {v : Value} (hx : D (dmOf H) ρ (.sl key c est off len) v) {f : List Prop → Con → RP Delta} {d : Delta} {rs rs' : List Nat} (h : (withCon (.sl key c est off len) f).run H rs = some (d, rs')) :
    ∃ p q rs1, (f p q).run H rs1 = some (d, rs') ∧ (AllP p → ConAt P w v q) ∧ ∃ ro l, H key = some (.segs ro l) ∧ ∃ g off len p, conSeg g est off len = some (p, q) := by
  have h0 := h
  unfold withCon at h
  simp only [RP.run] at h
  split at h
  · rename_i ro l hkey
    split at h
    · rename_i g hs
      split at h
      · rename_i p q hq
        obtain ⟨p', q', rs1, a1, a2⟩ := withCon_sound (P := P) hm hx (f := fun p' q' => .ret ⟨[q' = q ∧ p' = p], .any, [], false⟩) (d := ⟨[q = q ∧ p = p], .any, [], false⟩) (rs := rs) (rs' := key :: rs) (by
          unfold withCon
          simp only [RP.run, hkey, hs, hq])
        simp only [RP.run, Option.some.injEq, Prod.mk.injEq, Delta.mk.injEq, List.cons.injEq, and_true] at a1
        have e : (q' = q ∧ p' = p) := by have e0 := a1.1; simp only [eq_iff_iff, iff_true] at e0; exact e0
        obtain ⟨rfl, rfl⟩ := e
        exact ⟨p', q', _, h, a2, ro, l, hkey, g, off, len, p', hq⟩
      · simp [RP.run] at h
    · simp [RP.run] at h
  · simp [RP.run] at h

/-- A method with one slice that it reads. -/
def methvCtr (spec : List Seg → Con → Option (List Prop × SV × List Seg)) : Ctr := fun _ args =>
  match args with
  | [.p key c, .sl k1 c1 est off len] => (match Nat.beq c 0, Nat.beq k1 key with
    | true, false => withCon (.sl k1 c1 est off len) fun p q => .get key fun b => (match b with
      | some (.segs false l) => (match spec l q with
        | some (p', v, l') => .ret ⟨p ++ p', v, [(key, .segs false l')], true⟩
        | none => .fail)
      | _ => .fail)
    | _, _ => .fail)
  | _ => .fail

theorem call_methv (hΓ : TabOk P Γ) (hgl : Γ.gl = keysOf Γ.gh) (hg5 : ∀ g ∈ keysOf Γ.gh, g < 500) {f : FuncId} {fn : Func} (hf : P.funcs[f]? = some fn) (hn : (fn.name == "runtime.NumGoroutine") = false) (hb : fn.body.isNone = false) (spec : List Seg → Con → Option (List Prop × SV × List Seg)) (hnt : 2 ≤ fn.ntmps)
    (h : ∀ l q p v l', spec l q = some (p, v, l') → AllP p → FactSegs l → conOk q → ((conLen q : Nat) : Int) < 9223372036854775808 → (∀ dm ρ cs, SegsD dm ρ l cs → 0 < cs.length) ∧ ∃ l0 L inv, eqSegs l l0 ∧ VcM Γ fn L (Γ.gh ++ ([(500, .segs true [conRow q])] ++ [(600, .segs false l0)])) [.p 600 0, .sl 500 0 (conSize q) ⟨true, 0⟩ ⟨false, ((conLen q : Nat) : Int)⟩] (fun x l1 => eqV x v ∧ eqSegs l1 l') inv) : CallOk P Γ.gh f (methvCtr spec) := by
  intro stamp args H rs rs' d vs w0 M ρ w hG hc hp hD hm
  unfold methvCtr at hc
  split at hc
  · rename_i key c k1 c1 est off len
    split at hc
    · rename_i hc0 hkk
      obtain rfl : c = 0 := Nat.eq_of_beq_eq_true hc0
      have hne : k1 ≠ key := fun e => by subst e; rw [Nat.beq_refl] at hkk; cases hkk
      simp only [Ds] at hD
      obtain ⟨v0, vr, hv0, rfl, vs1, vr1, hs1, rfl, rfl⟩ := hD
      obtain ⟨p, q, rs1, hw, hq, ro, lx, hk1, hcE⟩ := withCon_more (P := P) hm hs1 hc
      simp only [RP.run] at hw
      split at hw
      · rename_i l hkey
        split at hw
        · rename_i p' v l' hs
          have e := run_ret hw; subst e
          obtain ⟨hp1, hp2⟩ := AllP.append (l := p) (r := p') hp
          have hcon := hq hp1
          have hs1' := hs1
          simp only [D] at hs1'
          obtain ⟨_, ho, hl, hr, ad, cap, rfl, hlc, hdis⟩ := hs1'
          have hv0' := hv0
          simp only [D] at hv0'
          obtain ⟨hdk, rfl⟩ := hv0'
          obtain ⟨cs, hcs, hcl, hra, hth⟩ := hm.heap.blk key _ hkey
          have hlt : ((conLen q : Nat) : Int) < 9223372036854775808 := by
            have := (hcon.at_ ad _ cap rfl).1
            simp only [InR] at hr
            omega
          obtain ⟨hpos, l0, L, inv, x1, x2⟩ := h l q p' v l' hs hp2 (SegsD.fact l cs hcs) hcon.ok hlt
          have hcap : 0 < (ρ key).cap := Nat.lt_of_lt_of_le (hpos _ _ cs hcs) hcl
          obtain ⟨e1, e2, e3⟩ := hcon.at_ ad _ cap rfl
          obtain ⟨b, o, hpl⟩ : ∃ b o, (conLen q = 0 ∧ cap = 0 ∧ b = 0 ∧ o = 0) ∨ (ad = some ⟨b, o, none⟩ ∧ (0 < conSize q * cap → b < w.heap.size) ∧ w.rangeAt b o (conCells q)) := by
            rcases e3 with ⟨a, b⟩ | ⟨b, o, a⟩
            · exact ⟨0, 0, .inl ⟨a, b, rfl, rfl⟩⟩
            · exact ⟨b, o, .inr a⟩
          have hcl' := conCells_length hcon.ok
          have hle : (conCells q).length ≤ conSize q * cap := by
            rw [hcl', Nat.mul_comm]; exact Nat.mul_le_mul_left _ (by omega)
          have hsep : 0 < conSize q * cap → b ≠ (ρ key).blk := fun h0 => by
            rcases hpl with ⟨z1, z2, _, _⟩ | ⟨ha, _, _⟩
            · rw [z2] at h0; simp at h0
            · rcases hdis with ⟨ha', hc2⟩ | ⟨_, hc0⟩
              · rw [ha'] at ha
                simp only [Option.some.injEq, at_, Addr.mk.injEq] at ha
                rw [← ha.1]
                have hest : conSize q = est := con_est hcE
                have : 0 < est * cap := by rw [← hest]; exact h0
                exact hm.heap.sep k1 key ro false lx l hk1 hkey hne (.inr rfl) (by omega) hcap
              · rw [hc0] at h0; simp at h0
          have hV : ∀ k b', assoc [(500, SB.segs true [conRow q])] k = some b' → 500 ≤ k ∧ k < 600 ∧ ∃ l cs, b' = .segs true l ∧ SegsD (fun _ => False) (fun _ => ({ blk := 0, off := 0, cap := 0 } : Pl)) l cs ∧ cs.length ≤ ({ blk := b, off := o, cap := conSize q * cap } : Pl).cap ∧ w.rangeAt b o cs ∧ (0 < conSize q * cap → b < w.heap.size ∧ b ≠ (ρ key).blk) := fun k b' hb' => by
            simp only [assoc] at hb'
            split at hb'
            · rename_i e
              have e := Nat.eq_of_beq_eq_true e
              subst e
              simp only [Option.some.injEq] at hb'
              subst hb'
              refine ⟨by omega, by omega, _, conCells q, rfl, segs_one (conRow_D hcon.ok), hle, ?_, fun h0 => ⟨?_, hsep h0⟩⟩
              · rcases hpl with ⟨z1, z2, _⟩ | ⟨_, _, hr⟩
                · have : conCells q = [] := List.eq_nil_of_length_eq_zero (by rw [hcl', z1]; simp)
                  rw [this]; exact rangeAt_nil _ _ _
                · exact hr
              · rcases hpl with ⟨z1, z2, _⟩ | ⟨_, hb, _⟩
                · rw [z2] at h0; simp at h0
                · exact hb h0
            · cases hb'
          refine .inr ⟨f, _, GoFn.run ⟨fn, hf, hn, hb⟩ _ _, (meth_core hΓ hgl hg5 hf hG hm hkey hpos x1 (pl := fun _ => { blk := b, off := o, cap := conSize q * cap }) hV (args' := [.sl 500 0 (conSize q) ⟨true, 0⟩ ⟨false, ((conLen q : Nat) : Int)⟩]) (fun dm' ρ' hk => ?_) (by simpa using hnt) x2).mono fun e w' he => ?_⟩
          · obtain ⟨k1', k2'⟩ := hk 500 (by simp only [assoc]; rfl)
            simp only [Ds]
            refine ⟨_, [], ?_, rfl, rfl⟩
            rw [e1]
            refine sl_D k1' _ hlt (by omega) ?_
            rcases hpl with ⟨z1, z2, _⟩ | ⟨hb, _, _⟩
            · exact .inr ⟨z1, z2⟩
            · left
              rw [k2']
              exact ⟨by rw [hb]; simp [at_], Nat.le_refl _⟩
          · obtain ⟨v', rfl, y1, y2⟩ := he
            exact ⟨v', rfl, ρ, .refl _ _, y1 _ _, y2⟩
        · simp [RP.run] at hw
      · simp [RP.run] at hw
    · simp [RP.run] at hc
  · simp [RP.run] at hc
end
end Go.Gx

/- Write, Reset, Clone of nil. -/
namespace Go.Sp
open Go.Gx
/-- A state of the hash: the words, the block, how many bytes. -/
structure HS where
  ws : List Int
  bl : List Int
  n : Int
/-- One byte more. -/
def stp (s : HS) (c : Int) : HS := ⟨if (s.n % 128).toNat = 127 then compr s.ws (s.bl.set 127 c) else s.ws, s.bl.set (s.n % 128).toNat c, s.n + 1⟩
def feed : List Int → HS → HS
  | [], s => s
  | c :: r, s => feed r (stp s c)
/-- Write: bytes behind a state; none of them, if they are too many, or if the state was not made. -/
def wr (m : Bool) (s : HS) (b : List Int) : HS := if m = true ∧ (b.length : Int) ≤ 1152921504606846976 - s.n then feed b s else s
end Go.Sp
namespace Go.Gx
open Go.Proofs Go.Sp
set_option linter.unusedVariables false
set_option maxRecDepth 100000

theorem feed_append : ∀ (a b : List Int) (s : HS), feed (a ++ b) s = feed b (feed a s)
  | [], b, s => rfl
  | c :: r, b, s => by rw [List.cons_append, feed, feed, feed_append r b]
theorem feed_n : ∀ (b : List Int) (s : HS), (feed b s).n = s.n + (b.length : Int)
  | [], s => by simp [feed]
  | c :: r, s => by rw [feed, feed_n r]; simp [stp]; omega
theorem feed_bl : ∀ (b : List Int) (s : HS), (feed b s).bl.length = s.bl.length
  | [], s => rfl
  | c :: r, s => by rw [feed, feed_bl r]; simp [stp]
theorem splice_nil (l : List Int) (j : Nat) (h : j ≤ l.length) : splice l j [] = l := by simp [splice]
theorem splice_cons (l : List Int) (j : Nat) (c : Int) (r : List Int) (h : j < l.length) : splice (l.set j c) (j + 1) r = splice l j (c :: r) := by
  unfold splice
  have h1 : (l.set j c).take (j + 1) = l.take j ++ [c] := by
    rw [List.take_set]
    rw [List.take_add_one, List.getElem?_eq_getElem h]
    simp only [Option.toList_some]
    rw [List.set_append_right _ _ (by simp; omega)]
    simp [Nat.min_eq_left (Nat.le_of_lt h)]
  rw [h1, List.drop_set_of_lt (by omega)]
  simp [List.append_assoc, Nat.add_comm, Nat.add_left_comm]
/-- A piece that ends with the block or within it. -/
theorem feed_chunk : ∀ (t : List Int) (s : HS), 0 ≤ s.n → s.bl.length = 128 → (s.n % 128).toNat + t.length ≤ 128 → t ≠ [] →
    feed t s = ⟨if (s.n % 128).toNat + t.length = 128 then compr s.ws (splice s.bl (s.n % 128).toNat t) else s.ws, splice s.bl (s.n % 128).toNat t, s.n + (t.length : Int)⟩
  | [], s, _, _, _, h => absurd rfl h
  | [c], s, h0, hb, hl, _ => by
    have hlt : (s.n % 128).toNat < s.bl.length := by rw [hb]; omega
    have e : splice s.bl (s.n % 128).toNat [c] = s.bl.set (s.n % 128).toNat c := by
      rw [← splice_cons _ _ _ _ hlt, splice_nil _ _ (by rw [List.length_set]; omega)]
    rw [feed, feed, e]
    unfold stp
    by_cases h7 : (s.n % 128).toNat = 127
    · rw [h7]; simp
    · have : ¬ ((s.n % 128).toNat + [c].length = 128) := by simp; omega
      rw [if_neg h7, if_neg this]
      simp
  | c :: d :: r, s, h0, hb, hl, _ => by
    have hl' : (s.n % 128).toNat + (r.length + 2) ≤ 128 := by simpa using hl
    have h7 : ¬ (s.n % 128).toNat = 127 := by omega
    have hst : stp s c = ⟨s.ws, s.bl.set (s.n % 128).toNat c, s.n + 1⟩ := by unfold stp; rw [if_neg h7]
    have hm : ((s.n + 1) % 128).toNat = (s.n % 128).toNat + 1 := by omega
    rw [feed, hst, feed_chunk (d :: r) _ (by show 0 ≤ s.n + 1; omega) (by show (s.bl.set _ c).length = 128; rw [List.length_set]; exact hb) (by show ((s.n + 1) % 128).toNat + (d :: r).length ≤ 128; rw [hm]; simp; omega) (by simp)]
    show HS.mk _ _ _ = _
    dsimp only
    rw [hm, splice_cons _ _ _ _ (by rw [hb]; omega)]
    simp only [List.length_cons]
    by_cases h8 : (s.n % 128).toNat + (r.length + 1 + 1) = 128
    · rw [if_pos h8, if_pos (by omega)]
      congr 1
      push_cast; omega
    · rw [if_neg h8, if_neg (by omega)]
      congr 1
      push_cast; omega

def W23 (b : List Int) (l : List Seg) : Heap := gh ++ ([(500, .segs true [.rowI .u8 b])] ++ [(600, .segs false l)])
def L23 : Loops := [(1, ⟨[.p 600 0, .sl 500 0 1 ⟨false, 0⟩ ⟨false, 0⟩] ++ reps .any 48, W23 [] [.arr .u64 8 false [], .arr .u8 128 false [], .one (.i .i64 ⟨false, 0⟩), .one (.b false false)], 2000⟩)]
def vc23 (ws bl : List Int) (n : Int) (m : Bool) (b : List Int) (K : SV → List Seg → Prop) (Q : Nat → List Pv → Prop) : Prop := fnVcM Γ5 Tryd.f61 L23 [.p 600 0, .sl 500 0 1 ⟨true, 0⟩ ⟨false, ((b.length : Nat) : Int)⟩] (W23 b [.arr .u64 8 false ws, .arr .u8 128 false bl, .one (.i .i64 ⟨false, n⟩), .one (.b false m)]) K Q
def lc23 (off len : Int) (k b ws bl : List Int) (n : Int) (m : Bool) (K : SV → List Seg → Prop) (Q : Nat → List Pv → Prop) : Prop := loopVcM Γ5 Tryd.f61 L23 1 [.z off, .z len, .l k, .l b, .l ws, .l bl, .z n, .b m] K Q
def vc23z (ws bl : List Int) (n : Int) (m : Bool) (K : SV → List Seg → Prop) (Q : Nat → List Pv → Prop) : Prop := fnVcM Γ5 Tryd.f61 [] [.p 600 0, .nsl] (rec8 ws bl n m) K Q
def vc23b (b : List Int) (K : SV → Prop) (Q : Nat → List Pv → Prop) : Prop := fnVc Γ5 Tryd.f61 [] [.np, .sl 500 0 1 ⟨true, 0⟩ ⟨false, ((b.length : Nat) : Int)⟩] (gh ++ [(500, .segs true [.rowI .u8 b])]) K Q
def vc23c (K : SV → Prop) (Q : Nat → List Pv → Prop) : Prop := fnVc Γ5 Tryd.f61 [] [.np, .nsl] gh K Q
theorem vc23_eq : ∀ (ws bl : List Int) (n : Int) (m : Bool) (b : List Int) (K : SV → List Seg → Prop) (Q : Nat → List Pv → Prop), vc23 ws bl n m b K Q = ∀ (x1 : List Int), x1 = ws → x1.length = (8 : Nat) → AllR IntKind.u64 x1 → ∀ (x2 : List Int), x2 = bl → x2.length = (128 : Nat) → AllR IntKind.u8 x2 → ∀ (x3 : Int), x3 = n → InR IntKind.i64 x3 → ∀ (x4 : Bool), x4 = !m → (x4 = true → K (SV.tup []) [Seg.arr IntKind.u64 (8 : Nat) false x1, Seg.arr IntKind.u8 (128 : Nat) false x2, Seg.one (SV.i IntKind.i64 { st := false, z := x3 }), Seg.one (SV.b false m)]) ∧ (x4 = false → ∀ (x5 : Int), x5 = IntKind.i64.wrap ((1152921504606846976 : Int) - x3) → InR IntKind.i64 x5 → (decide (↑b.length > x5) = true → K (SV.tup []) [Seg.arr IntKind.u64 (8 : Nat) false x1, Seg.arr IntKind.u8 (128 : Nat) false x2, Seg.one (SV.i IntKind.i64 { st := false, z := x3 }), Seg.one (SV.b false m)]) ∧ (decide (↑b.length > x5) = false → Same Tryd.f61 (1 : Nat) (itemsOf Tryd.f61 (1 : Nat)) ∧ Q (1 : Nat) [Pv.z (0 : Int), Pv.z ↑b.length, Pv.l K80, Pv.l b, Pv.l x1, Pv.l x2, Pv.z x3, Pv.b m])) := by
  intros
  kernel_rfl
theorem lc23_eq : ∀ (off len : Int) (k b ws bl : List Int) (n : Int) (m : Bool) (K : SV → List Seg → Prop) (Q : Nat → List Pv → Prop), lc23 off len k b ws bl n m K Q = ((decide (len > (0 : Int)) = true → ∀ (x1 : Int), x1 = n.tmod (128 : Int) → InR IntKind.i64 x1 → Need ((0 : Int) ≤ x1 ∧ x1 ≤ (128 : Int) ∧ (128 : Int) ≤ (128 : Int)) ∧ Need (x1 + ((128 : Int) - x1) ≤ (128 : Int)) ∧ Need (off + len ≤ ↑b.length) ∧ ∀ (x2 : List Int), x2 = ws → x2.length = (8 : Nat) → AllR IntKind.u64 x2 → ∀ (x3 : List Int), x3 = splice bl x1.toNat (List.take ((128 : Int) - x1).toNat (List.take len.toNat (List.drop off.toNat b))) → x3.length = (128 : Nat) → AllR IntKind.u8 x3 → ∀ (x4 : Int), x4 = n → InR IntKind.i64 x4 → ∀ (x5 : Int), x5 = min (↑(List.take len.toNat (List.drop off.toNat b)).length) ((128 : Int) - x1) → InR IntKind.i64 x5 → Need ((0 : Int) ≤ x5 ∧ x5 ≤ len ∧ len ≤ len) ∧ ∀ (x6 : Int), x6 = IntKind.i64.wrap (x4 + x5) → InR IntKind.i64 x6 → ∀ (x7 : Int), x7 = IntKind.i64.wrap (x1 + x5) → InR IntKind.i64 x7 → ((x7 == (128 : Int)) = true → ∀ (x8 : List Int), x8 = compr x2 x3 → x8.length = (8 : Nat) → AllR IntKind.u64 x8 → ∀ (x9 : List Int), x9 = x3 → x9.length = (128 : Nat) → AllR IntKind.u8 x9 → ∀ (x10 : Int), x10 = x6 → InR IntKind.i64 x10 → Same Tryd.f61 (1 : Nat) (itemsOf Tryd.f61 (1 : Nat)) ∧ Q (1 : Nat) [Pv.z (off + x5), Pv.z (len - x5), Pv.l k, Pv.l b, Pv.l x8, Pv.l x9, Pv.z x10, Pv.b m]) ∧ ((x7 == (128 : Int)) = false → Same Tryd.f61 (1 : Nat) (itemsOf Tryd.f61 (1 : Nat)) ∧ Q (1 : Nat) [Pv.z (off + x5), Pv.z (len - x5), Pv.l k, Pv.l b, Pv.l x2, Pv.l x3, Pv.z x6, Pv.b m])) ∧ (decide (len > (0 : Int)) = false → K (SV.tup []) [Seg.arr IntKind.u64 (8 : Nat) false ws, Seg.arr IntKind.u8 (128 : Nat) false bl, Seg.one (SV.i IntKind.i64 { st := false, z := n }), Seg.one (SV.b false m)])) := by
  intros
  kernel_rfl
theorem vc23z_eq : ∀ (ws bl : List Int) (n : Int) (m : Bool) (K : SV → List Seg → Prop) (Q : Nat → List Pv → Prop), vc23z ws bl n m K Q = ∀ (x1 : List Int), x1 = ws → x1.length = (8 : Nat) → AllR IntKind.u64 x1 → ∀ (x2 : List Int), x2 = bl → x2.length = (128 : Nat) → AllR IntKind.u8 x2 → ∀ (x3 : Int), x3 = n → InR IntKind.i64 x3 → ∀ (x4 : Bool), x4 = !m → (x4 = true → K (SV.tup []) [Seg.arr IntKind.u64 (8 : Nat) false x1, Seg.arr IntKind.u8 (128 : Nat) false x2, Seg.one (SV.i IntKind.i64 { st := false, z := x3 }), Seg.one (SV.b false m)]) ∧ (x4 = false → ∀ (x5 : Int), x5 = IntKind.i64.wrap ((1152921504606846976 : Int) - x3) → InR IntKind.i64 x5 → (decide ((0 : Int) > x5) = true → K (SV.tup []) [Seg.arr IntKind.u64 (8 : Nat) false x1, Seg.arr IntKind.u8 (128 : Nat) false x2, Seg.one (SV.i IntKind.i64 { st := false, z := x3 }), Seg.one (SV.b false m)]) ∧ (decide ((0 : Int) > x5) = false → K (SV.tup []) [Seg.arr IntKind.u64 (8 : Nat) false x1, Seg.arr IntKind.u8 (128 : Nat) false x2, Seg.one (SV.i IntKind.i64 { st := false, z := x3 }), Seg.one (SV.b false m)])) := by
  intros
  kernel_rfl
theorem vc23b_eq : ∀ (b : List Int) (K : SV → Prop) (Q : Nat → List Pv → Prop), vc23b b K Q = K (SV.tup []) := by
  intros
  kernel_rfl
theorem vc23c_eq : ∀ (K : SV → Prop) (Q : Nat → List Pv → Prop), vc23c K Q = K (SV.tup []) := by
  intros
  kernel_rfl
def inv23 (b : List Int) (s : HS) (m : Bool) (key : Nat) (ps : List Pv) (mm : Nat) : Prop :=
  key = 1 ∧ ∃ j : Nat, j ≤ b.length ∧ ps = [.z (j : Int), .z ((b.length - j : Nat) : Int), .l K80, .l b, .l (feed (b.take j) s).ws, .l (feed (b.take j) s).bl, .z (feed (b.take j) s).n, .b m] ∧ mm = b.length - j

def writeS : List Seg → Con → Option (List Prop × SV × List Seg)
  | [.arr .u64 8 _ ws, .arr .u8 128 _ bl, .one (.i .i64 n), .one (.b _ m)], .ints .u8 b => some ([m = true → 0 ≤ n.z ∧ n.z ≤ 1152921504606846976], .tup [], [.arr .u64 8 false (wr m ⟨ws, bl, n.z⟩ b).ws, .arr .u8 128 false (wr m ⟨ws, bl, n.z⟩ b).bl, .one (.i .i64 ⟨false, (wr m ⟨ws, bl, n.z⟩ b).n⟩), .one (.b false m)])
  | _, _ => none

set_option maxHeartbeats 2000000 in
theorem writeV_ok : CallOk Tryd.prog gh 61 (methvCtr writeS) := by
  refine call_methv (fn := Tryd.f61) Γ5_ok rfl (fun g hg => by have hg : g ∈ [3, 4] := hg; simp at hg; omega) (by kernel_rfl) (by kernel_rfl) (by kernel_rfl) writeS (Nat.le_of_ble_eq_true (by kernel_rfl)) fun l q p v l' hs hp hf hq hlq => ?_
  unfold writeS at hs
  split at hs
  · rename_i e1 ws e2 bl n e3 m b
    simp only [Option.some.injEq, Prod.mk.injEq] at hs
    obtain ⟨rfl, rfl, rfl⟩ := hs
    obtain ⟨⟨hws, _⟩, ⟨hbl, hblr⟩, hn, _, _⟩ := hf
    obtain ⟨nT, n⟩ := n
    dsimp only at *
    have hp : m = true → 0 ≤ n ∧ n ≤ 1152921504606846976 := hp.1
    have hlb : ((b.length : Nat) : Int) < 9223372036854775808 := hlq
    refine ⟨fun dm ρ cs hcs => rec_pos (k' := .u64) (e' := true) (bl := []) dm ρ cs hcs, [.arr .u64 8 false ws, .arr .u8 128 false bl, .one (.i .i64 ⟨false, n⟩), .one (.b false m)], L23, fun key ps mm => m = true ∧ n + (b.length : Int) ≤ 1152921504606846976 ∧ inv23 b ⟨ws, bl, n⟩ m key ps mm, ⟨⟨rfl, rfl, rfl⟩, ⟨rfl, rfl, rfl⟩, ⟨rfl, rfl⟩, ⟨rfl, rfl⟩, trivial⟩, ?_, ?_, ?_⟩
    · intro k t ht g hg
      have hg : g ∈ [3, 4, 500, 600] := hg
      simp only [List.mem_cons, List.not_mem_nil, or_false] at hg
      simp only [L23, List.mem_cons, List.not_mem_nil, or_false, Prod.mk.injEq] at ht
      obtain ⟨rfl, rfl⟩ := ht
      rcases hg with rfl | rfl | rfl | rfl <;> exact ⟨by omega, rfl⟩
    · rintro vk t ps mm ht ⟨rfl, hle, rfl, j, hj, rfl, rfl⟩
      simp only [L23, List.mem_cons, List.not_mem_nil, or_false, Prod.mk.injEq] at ht
      obtain ⟨_, rfl⟩ := ht
      show lc23 (j : Int) ((b.length - j : Nat) : Int) K80 b (feed (b.take j) ⟨ws, bl, n⟩).ws (feed (b.take j) ⟨ws, bl, n⟩).bl (feed (b.take j) ⟨ws, bl, n⟩).n true _ _
      rw [lc23_eq]
      obtain ⟨hn0, hn1⟩ := hp rfl
      have hfn := feed_n (b.take j) ⟨ws, bl, n⟩
      rw [List.length_take, Nat.min_eq_left hj] at hfn
      have hfb := feed_bl (b.take j) ⟨ws, bl, n⟩
      dsimp only at hfn hfb
      generalize hS : feed (b.take j) ⟨ws, bl, n⟩ = S at hfn hfb ⊢
      refine ⟨fun hlt => ?_, fun hge => ?_⟩
      · have hlt := of_decide_eq_true hlt
        intro x1 e1 _
        have hx1 : x1 = S.n % 128 := by rw [e1, Int.tmod_eq_emod_of_nonneg (by omega)]
        refine ⟨need_of (by omega), need_of (by omega), need_of (by omega), fun x2 e2 l2 r2 x3 e3 l3 r3 x4 e4 r4 x5 e5 r5 => ?_⟩
        have hlen : ((List.take ((b.length - j : Nat) : Int).toNat (List.drop (j : Int).toNat b)).length : Int) = (b.length - j : Nat) := by
          rw [List.length_take, List.length_drop]; omega
        rw [hlen] at e5
        rw [Int.toNat_natCast, Int.toNat_natCast, List.take_of_length_le (i := b.length - j) (by rw [List.length_drop]; omega)] at e3
        refine ⟨need_of (by omega), fun x6 e6 r6 x7 e7 r7 => ?_⟩
        rw [wrap_i64 (by omega)] at e6 e7
        obtain ⟨c, rfl⟩ : ∃ c : Nat, x5 = (c : Int) := ⟨x5.toNat, by omega⟩
        have htk : List.take ((128 : Int) - x1).toNat (List.drop j b) = (b.drop j).take c := by
          rcases Nat.lt_or_ge ((128 : Int) - x1).toNat (b.length - j) with h | h
          · rw [show ((128 : Int) - x1).toNat = c by omega]
          · rw [List.take_of_length_le (by rw [List.length_drop]; omega), List.take_of_length_le (by rw [List.length_drop]; omega)]
        rw [htk] at e3
        have hcl : ((b.drop j).take c).length = c := by rw [List.length_take, List.length_drop]; omega
        have hnext : feed (b.take (j + c)) ⟨ws, bl, n⟩ = feed ((b.drop j).take c) S := by
          rw [List.take_add, feed_append, hS]
        have hch := feed_chunk ((b.drop j).take c) S (by omega) (by rw [hfb]; exact hbl) (by rw [hcl]; omega) (fun h => by rw [h] at hcl; simp at hcl; omega)
        rw [hcl] at hch
        have hx1n : x1.toNat = (S.n % 128).toNat := by rw [hx1]
        refine ⟨fun h7 => ?_, fun h7 => ?_⟩
        · have h7 := of_decide_eq_true h7
          intro x8 e8 _ _ x9 e9 _ _ x10 e10 _
          refine ⟨rfl, b.length - (j + c), by omega, rfl, hle, rfl, j + c, by omega, ?_, rfl⟩
          rw [hnext, hch, if_pos (by omega)]
          dsimp only
          rw [e10, e6, e9, e8, e2, e3, e4, hx1n]
          rw [show (j : Int) + (c : Int) = ((j + c : Nat) : Int) by omega, show ((b.length - j : Nat) : Int) - (c : Int) = ((b.length - (j + c) : Nat) : Int) by omega]
        · have h7 := of_decide_eq_false h7
          refine ⟨rfl, b.length - (j + c), by omega, rfl, hle, rfl, j + c, by omega, ?_, rfl⟩
          rw [hnext, hch, if_neg (by omega)]
          dsimp only
          rw [e6, e2, e3, e4, hx1n]
          rw [show (j : Int) + (c : Int) = ((j + c : Nat) : Int) by omega, show ((b.length - j : Nat) : Int) - (c : Int) = ((b.length - (j + c) : Nat) : Int) by omega]
      · have hge := of_decide_eq_false hge
        obtain rfl : j = b.length := by omega
        rw [List.take_of_length_le (Nat.le_refl _)] at hS
        have hw : wr true ⟨ws, bl, n⟩ b = S := by unfold wr; rw [if_pos ⟨rfl, by dsimp only; omega⟩, hS]
        rw [hw]
        exact ⟨trivial, ⟨rfl, rfl, rfl⟩, ⟨rfl, rfl, rfl⟩, ⟨rfl, rfl⟩, ⟨rfl, rfl⟩, trivial⟩
    · show vc23 ws bl n m b _ _
      rw [vc23_eq]
      intro x1 e1 _ _ x2 e2 _ _ x3 e3 _ x4 e4
      subst e1 e2 e3
      refine ⟨fun h4 => ?_, fun h4 => ?_⟩
      · obtain rfl : m = false := by rw [e4] at h4; simpa using h4
        have hw : wr false ⟨x1, x2, x3⟩ b = ⟨x1, x2, x3⟩ := by unfold wr; rw [if_neg (fun h => by cases h.1)]
        rw [hw]
        exact ⟨trivial, ⟨rfl, rfl, rfl⟩, ⟨rfl, rfl, rfl⟩, ⟨rfl, rfl⟩, ⟨rfl, rfl⟩, trivial⟩
      · obtain rfl : m = true := by rw [e4] at h4; simpa using h4
        obtain ⟨hn0, hn1⟩ := hp rfl
        intro x5 e5 _
        rw [wrap_i64 (by omega)] at e5
        refine ⟨fun hgt => ?_, fun hng => ?_⟩
        · have hgt := of_decide_eq_true hgt
          have hw : wr true ⟨x1, x2, x3⟩ b = ⟨x1, x2, x3⟩ := by unfold wr; rw [if_neg (fun h => by have := h.2; dsimp only at this; omega)]
          rw [hw]
          exact ⟨trivial, ⟨rfl, rfl, rfl⟩, ⟨rfl, rfl, rfl⟩, ⟨rfl, rfl⟩, ⟨rfl, rfl⟩, trivial⟩
        · have hng := of_decide_eq_false hng
          refine ⟨rfl, b.length - 0, rfl, by omega, rfl, 0, by omega, ?_, rfl⟩
          rfl
  · cases hs

def writeZ : List Seg → List SV → Option (List Prop × SV × List Seg)
  | [.arr .u64 8 _ ws, .arr .u8 128 _ bl, .one (.i .i64 n), .one (.b _ m)], [.nsl] => some ([], .tup [], [.arr .u64 8 false ws, .arr .u8 128 false bl, .one (.i .i64 ⟨false, n.z⟩), .one (.b false m)])
  | _, _ => none
theorem writeZ_ok : CallOk Tryd.prog gh 61 (methCtr writeZ) := by
  refine call_meth (fn := Tryd.f61) Γ5_ok rfl (fun g hg => by have hg : g ∈ [3, 4] := hg; simp at hg; omega) (by kernel_rfl) (by kernel_rfl) (by kernel_rfl) writeZ fun l rest p v l' hs hp hf hr => ?_
  unfold writeZ at hs
  split at hs
  · rename_i e1 ws e2 bl n e3 m
    simp only [Option.some.injEq, Prod.mk.injEq] at hs
    obtain ⟨rfl, rfl, rfl⟩ := hs
    obtain ⟨nT, n⟩ := n
    dsimp only at *
    refine ⟨fun dm ρ cs hcs => rec_pos (k' := .u64) (e' := true) (bl := []) dm ρ cs hcs, [.arr .u64 8 false ws, .arr .u8 128 false bl, .one (.i .i64 ⟨false, n⟩), .one (.b false m)], [.nsl], [], _, ⟨⟨rfl, rfl, rfl⟩, ⟨rfl, rfl, rfl⟩, ⟨rfl, rfl⟩, ⟨rfl, rfl⟩, trivial⟩, ⟨trivial, trivial⟩, Nat.le_of_ble_eq_true (by kernel_rfl), vcM_noloops ?_⟩
    show vc23z ws bl n m _ _
    rw [vc23z_eq]
    intro x1 e1 _ _ x2 e2 _ _ x3 e3 _ x4 e4
    subst e1 e2 e3
    have hk : ∀ x y z m, eqV (SV.tup []) (SV.tup []) ∧ eqSegs [Seg.arr IntKind.u64 8 false x, Seg.arr IntKind.u8 128 false y, Seg.one (SV.i IntKind.i64 ⟨false, z⟩), Seg.one (SV.b false m)] [Seg.arr IntKind.u64 8 false x, Seg.arr IntKind.u8 128 false y, Seg.one (SV.i IntKind.i64 ⟨false, z⟩), Seg.one (SV.b false m)] :=
      fun x y z m => ⟨trivial, ⟨rfl, rfl, rfl⟩, ⟨rfl, rfl, rfl⟩, ⟨rfl, rfl⟩, ⟨rfl, rfl⟩, trivial⟩
    exact ⟨fun _ => hk _ _ _ _, fun _ x5 _ _ => ⟨fun _ => hk _ _ _ _, fun _ => hk _ _ _ _⟩⟩
  · cases hs
def writeN : List RA → Option (List Prop × SV)
  | [.v .np, .c (.ints .u8 b)] => some ([], .tup [])
  | [.v .np, .n] => some ([], .tup [])
  | _ => none
theorem writeN_ok : CallOk Tryd.prog gh 61 (readCtr [false, true] writeN) := by
  refine call_read (fn := Tryd.f61) Γ5_ok rfl (fun g hg => by have hg : g ∈ [3, 4] := hg; simp at hg; omega) rfl (by kernel_rfl) (by kernel_rfl) [false, true] writeN fun ras P0 Y0 hs hp hv hc => ?_
  unfold writeN at hs
  split at hs
  · rename_i b
    simp only [Option.some.injEq, Prod.mk.injEq] at hs
    obtain ⟨rfl, rfl⟩ := hs
    refine ⟨[.np, .sl 500 0 1 ⟨true, 0⟩ ⟨false, ((b.length : Nat) : Int)⟩], [], _, ⟨trivial, rfl, trivial⟩, Nat.le_of_ble_eq_true (by kernel_rfl), vc_noloops ?_⟩
    show vc23b b _ _
    rw [vc23b_eq]
    exact trivial
  · simp only [Option.some.injEq, Prod.mk.injEq] at hs
    obtain ⟨rfl, rfl⟩ := hs
    refine ⟨[.np, .nsl], [], _, ⟨trivial, rfl, trivial⟩, Nat.le_of_ble_eq_true (by kernel_rfl), vc_noloops ?_⟩
    show vc23c _ _
    rw [vc23c_eq]
    exact trivial
  · cases hs

/-- A method of a pointer that may be nil, and of a slice that may be. -/
def wrCtr (cN cZ cV : Ctr) : Ctr := fun stamp args =>
  match args with
  | .np :: _ => cN stamp args
  | [_, .nsl] => cZ stamp args
  | _ => cV stamp args
theorem wr_ok {P : Program} {gh : Heap} {f : FuncId} {cN cZ cV : Ctr} (h1 : CallOk P gh f cN) (h2 : CallOk P gh f cZ) (h3 : CallOk P gh f cV) : CallOk P gh f (wrCtr cN cZ cV) := by
  intro stamp args H rs rs' d vs w0 M ρ w hG hc hp hD hm
  unfold wrCtr at hc
  split at hc
  · exact h1 stamp _ H rs rs' d vs w0 M ρ w hG hc hp hD hm
  · exact h2 stamp _ H rs rs' d vs w0 M ρ w hG hc hp hD hm
  · exact h3 stamp _ H rs rs' d vs w0 M ρ w hG hc hp hD hm

theorem write_ok : CallOk Tryd.prog gh 61 (wrCtr (readCtr [false, true] writeN) (methCtr writeZ) (methvCtr writeS)) := wr_ok writeN_ok writeZ_ok writeV_ok
end Go.Gx

/- Contracts in general: arguments that are values, data that is only read, records and rows of the caller's; answers that are values, fresh rows, fresh records. -/
namespace Go.Gx
open Go.RowKit
set_option linter.unusedVariables false

/-- How an argument is handed on. -/
inductive Md where
  | v
  | d (sh : Sh)
  | m
  | o

/-- An argument, as a contract sees it. -/
inductive AV where
  | v (x : SV)
  | d (sh : Sh) (d : RO)
  | m (l : List Seg)
  | o (q : Con)

/-- An answer, as a contract tells it. -/
inductive RV where
  | v (x : SV)
  | row (q : Con)
  | ptr (l : List Seg)

def onesOf : List Seg → Option (List SV)
  | [] => some []
  | .one x :: r => (match onesOf r with | some xs => some (x :: xs) | none => none)
  | _ => none

/-- Each of a list, handed on together. -/
def eachRO (g : SV → (List Prop → RO → RP Delta) → RP Delta) : List SV → (List Prop → List RO → RP Delta) → RP Delta
  | [], f => f [] []
  | x :: r, f => g x fun p d => eachRO g r fun p' ds => f (p ++ p') (d :: ds)

/-- Headers of a pool's rows, as data. -/
def hdrRO (k : IntKind) (off len : SI) (pk : Nat) (hs : List (Nat × Nat)) (f : List Prop → RO → RP Delta) : RP Delta :=
  .get pk fun b => (match b with
    | some (.pool k' ms) => (match keq k' k with
      | true => f [off.z + len.z ≤ (hs.length : Int), ∀ h ∈ (hs.drop off.z.toNat).take len.z.toNat, h.2 ≤ (ms.getD h.1 []).length] (.r (((hs.drop off.z.toNat).take len.z.toNat).map fun h => .l ((ms.getD h.1 []).take h.2)))
      | false => .fail)
    | _ => .fail)

mutual
/-- What a value holds, as data of a shape. -/
def viewRO (ban : List Nat) : Sh → SV → (List Prop → RO → RP Delta) → RP Delta
  | .ints k, x, f => (match x with
    | .ro key sh d => .get key fun b => (match b with
      | some .world => (match shEq sh (.ints k) with | true => f [] d | false => .fail)
      | _ => .fail)
    | .nsl => f [] (.l [])
    | .sl key c est off len => (match memN key ban with
      | true => .fail
      | false => withCon (.sl key c est off len) fun p q => (match q with
        | .ints k' l => (match keq k' k with | true => f p (.l l) | false => .fail)
        | _ => .fail))
    | .ps key r len => withCon (.ps key r len) fun p q => (match q with
        | .ints k' l => (match keq k' k with | true => f p (.l l) | false => .fail)
        | _ => .fail)
    | _ => .fail)
  | .l e, x, f => (match x with
    | .ro key sh d => .get key fun b => (match b with
      | some .world => (match shEq sh (.l e) with | true => f [] d | false => .fail)
      | _ => .fail)
    | .nsl => f [] (.r [])
    | .sl key 0 1 ⟨true, .ofNat 0⟩ ⟨true, .ofNat n⟩ => (match memN key ban with
      | true => .fail
      | false => .get key fun b => (match b with
        | some (.segs _ l) => (match onesOf l with
          | some xs => (match Nat.beq xs.length n && Nat.blt 0 n with
            | true => eachRO (viewRO ban e) xs fun p ds => f p (.r ds)
            | false => .fail)
          | none => .fail)
        | _ => .fail))
    | .sl key 0 1 off len => (match memN key ban with
      | true => .fail
      | false => .get key fun b => (match b with
        | some (.segs _ [.rowH pk hs]) => (match e with
          | .ints k => hdrRO k off len pk hs f
          | _ => .fail)
        | _ => .fail))
    | _ => .fail)
  | .r fs, x, f => (match x with
    | .agg xs => viewROs ban fs xs fun p ds => f p (.r ds)
    | _ => .fail)
  | .i k, x, f => (match x with
    | .i k' a => (match keq k' k with | true => f [] (.i a.z) | false => .fail)
    | _ => .fail)
  | .tb, x, f => (match x with
    | .b _ v => f [] (.b v)
    | _ => .fail)
  | .ts, x, f => (match x with
    | .s v => f [] (.s v)
    | _ => .fail)
  | .arr n k, x, f => (match x with
    | .arr k' m _ l => (match keq k' k && Nat.beq m n with | true => f [] (.l l) | false => .fail)
    | _ => .fail)
def viewROs (ban : List Nat) : List Sh → List SV → (List Prop → List RO → RP Delta) → RP Delta
  | [], xs, f => (match xs with | [] => f [] [] | _ => .fail)
  | s :: fs, xs, f => (match xs with
    | x :: xs => viewRO ban s x fun p d => viewROs ban fs xs fun p' ds => f (p ++ p') (d :: ds)
    | [] => .fail)
end

def ownKeys : List Md → List SV → List Nat
  | .m :: ms, .p key _ :: xs => key :: ownKeys ms xs
  | .o :: ms, .sl key _ _ _ _ :: xs => key :: ownKeys ms xs
  | _ :: ms, _ :: xs => ownKeys ms xs
  | _, _ => []

def getA (ban : List Nat) : List Md → List SV → (List Prop → List AV → RP Delta) → RP Delta
  | [], [], f => f [] []
  | .v :: ms, x :: xs, f => getA ban ms xs fun p avs => f p (.v x :: avs)
  | .d sh :: ms, x :: xs, f => viewRO ban sh x fun p d => getA ban ms xs fun p' avs => f (p ++ p') (.d sh d :: avs)
  | .m :: ms, x :: xs, f => (match x with
    | .p key 0 => .get key fun b => (match b with
      | some (.segs false l) => getA ban ms xs fun p avs => f p (.m l :: avs)
      | _ => .fail)
    | .np => getA ban ms xs fun p avs => f p (.v .np :: avs)
    | _ => .fail)
  | .o :: ms, x :: xs, f => (match x with
    | .sl key 0 est ⟨true, .ofNat 0⟩ len => .get key fun b => (match b with
      | some (.segs false [g]) => (match rowCon g with
        | some q => (match Nat.beq est (conSize q) with
          | true => getA ban ms xs fun p avs => f ((len.z = ((conLen q : Nat) : Int)) :: p) (.o q :: avs)
          | false => .fail)
        | none => .fail)
      | _ => .fail)
    | .nsl => getA ban ms xs fun p avs => f p (.v .nsl :: avs)
    | _ => .fail)
  | _, _, _ => .fail

/-- The fresh block among the answers. -/
def frOf : List RV → Option (List Seg)
  | [] => none
  | .v _ :: r => frOf r
  | .row q :: _ => some [conRow q]
  | .ptr l :: _ => some l
def oneFr : List RV → Bool
  | [] => true
  | .v _ :: r => oneFr r
  | _ :: r => (match frOf r with | some _ => false | none => true)

def resG (stamp : Nat) : RV → SV
  | .v x => x
  | .row q => .sl stamp 0 (conSize q) ⟨true, 0⟩ ⟨false, ((conLen q : Nat) : Int)⟩
  | .ptr _ => .p stamp 0
def resGs (stamp : Nat) : List RV → List SV
  | [] => []
  | r :: t => resG stamp r :: resGs stamp t
def resOf (stamp : Nat) : List RV → SV
  | [r] => resG stamp r
  | rs => .tup (resGs stamp rs)

def finW : List Nat → List (Option (List Seg)) → Option (List (Nat × SB))
  | [], [] => some []
  | k :: ks, some l :: r => (match finW ks r with | some ws => some ((k, .segs false l) :: ws) | none => none)
  | k :: ks, none :: r => (match finW ks r with | some ws => some ((k, .gone) :: ws) | none => none)
  | _, _ => none

def genCtr (ms : List Md) (spec : List AV → Option (List Prop × List RV × List (Option (List Seg)))) : Ctr := fun stamp args =>
  match ownKeys ms args with
  | ks => (match nodupN ks with
    | true => getA ks ms args fun p avs => (match spec avs with
      | some (p', rvs, fin) => (match finW ks fin, oneFr rvs && Nat.ble fin.length 100 with
        | some ws, true => (match frOf rvs with
          | none => .ret ⟨p ++ p', resOf stamp rvs, ws, true⟩
          | some l => .get stamp fun b => (match b with
            | none => .ret ⟨p ++ p', resOf stamp rvs, (stamp, .segs false l) :: ws, true⟩
            | some _ => .fail))
        | _, _ => .fail)
      | none => .fail)
    | false => .fail)

/-! ### The callee's side -/

/-- An answer with what it points to. -/
def canV (h : Heap) (x : SV) (K : RV → Prop) : Prop :=
  match x with
  | .sl key c est off len => (match Nat.ble 1000 key, assoc h key with
    | true, some (.segs false l) => (match segAt l c with
      | some (g, 0) => (match conSeg g est off len with | some (p, q) => preK p (K (.row q)) | none => False)
      | _ => False)
    | _, _ => False)
  | .p key 0 => (match Nat.ble 1000 key, assoc h key with
    | true, some (.segs false l) => K (.ptr l)
    | _, _ => False)
  | x => K (.v x)
def canVs (h : Heap) : List SV → (List RV → Prop) → Prop
  | [], K => K []
  | x :: r, K => canV h x fun y => canVs h r fun ys => K (y :: ys)
def canF (h : Heap) : (j n : Nat) → (List (Option (List Seg)) → Prop) → Prop
  | _, 0, K => K []
  | j, n + 1, K => (match assoc h j with
    | some (.segs false l) => canF h (j + 1) n fun r => K (some l :: r)
    | some .gone => canF h (j + 1) n fun r => K (none :: r)
    | _ => False)
/-- All answers, and what the caller's records hold then. -/
def kvG (n : Nat) (x : SV) (h : Heap) (K : List RV → List (Option (List Seg)) → Prop) : Prop :=
  match x with
  | .tup xs => (match Nat.beq xs.length 1 with | true => False | false => canVs h xs fun rs => canF h 600 n fun fs => K rs fs)
  | x => canV h x fun r => canF h 600 n fun fs => K [r] fs

def eqCon : Con → Con → Prop
  | .ints k l, .ints k' l' => keq k k' = true ∧ l = l'
  | .arrs k n l, .arrs k' n' l' => keq k k' = true ∧ n = n' ∧ l = l'
  | _, _ => False
def eqRV : RV → RV → Prop
  | .v x, .v y => eqV x y
  | .row q, .row q' => eqCon q q'
  | .ptr l, .ptr l' => eqSegs l l'
  | _, _ => False
def eqRV1 (x y : RV) : Prop :=
  match x, y with
  | .v .nsl, .row q => conLen q = 0 ∧ conOk q
  | x, y => eqRV x y
def eqRVs : List RV → List RV → Prop
  | [], [] => True
  | x :: r, y :: t => eqRV1 x y ∧ eqRVs r t
  | _, _ => False
def eqFin : List (Option (List Seg)) → List (Option (List Seg)) → Prop
  | [], [] => True
  | x :: r, y :: t => (match x, y with
    | some l, some l' => eqSegs l l'
    | _, none => True
    | none, some _ => False) ∧ eqFin r t
  | _, _ => False

def fnVcG (n : Nat) (Γ : Tab) (fn : Func) (L : Loops) (args : List SV) (h : Heap) (K : List RV → List (Option (List Seg)) → Prop) (Q : Nat → List Pv → Prop) : Prop :=
  runFn Γ fn (loopKeysM L) args h (fun x h' => kvG n x h' K) (handM L Q)
def loopVcG (n : Nat) (Γ : Tab) (fn : Func) (L : Loops) (key : Nat) (ps : List Pv) (K : List RV → List (Option (List Seg)) → Prop) (Q : Nat → List Pv → Prop) : Prop :=
  match assoc L key with
  | some t => runLoop Γ fn (loopKeysM L) (key % 1000) (instSt t ps) (fun x h' => kvG n x h' K) (handM L Q)
  | none => False

structure VcG (n : Nat) (Γ : Tab) (fn : Func) (L : Loops) (h : Heap) (args : List SV) (K : List RV → List (Option (List Seg)) → Prop) (inv : Nat → List Pv → Nat → Prop) : Prop where
  low : ∀ k t, (k, t) ∈ L → ∀ g, g ∈ keysOf h → g < 1000 ∧ (assoc t.heap g).isSome = true
  loop : ∀ vk t ps m, (vk, t) ∈ L → inv vk ps m → runLoop Γ fn (loopKeysM L) (vk % 1000) (instSt t ps) (fun x h' => kvG n x h' K) (handM L fun key' ps' => ∃ m', m' < m ∧ inv key' ps' m')
  entry : fnVcG n Γ fn L args h K fun key' ps' => ∃ m', inv key' ps' m'

theorem vcG_noloops {n : Nat} {Γ : Tab} {fn : Func} {h : Heap} {args : List SV} {K : List RV → List (Option (List Seg)) → Prop} (hv : fnVcG n Γ fn [] args h K fun _ _ => False) : VcG n Γ fn [] h args K fun _ _ _ => False :=
  ⟨fun k t ht => by simp at ht, fun vk t ps m ht => by simp at ht, by simpa using hv⟩

/-- The callee's arguments and what he finds of the caller's records. -/
def okA : Nat → List AV → List SV → Heap → Prop
  | _, [], [], [] => True
  | j, .v x :: r, y :: t, h => eqV x y ∧ okA j r t h
  | j, .d sh d :: r, y :: t, h => y = svOf 490 sh d ∧ okA j r t h
  | j, .m l :: r, y :: t, (k, b) :: h => y = .p j 0 ∧ k = j ∧ (∃ l', b = .segs false l' ∧ eqSegs l l') ∧ okA (j + 1) r t h
  | j, .o q :: r, y :: t, (k, b) :: h => y = .sl j 0 (conSize q) ⟨true, 0⟩ ⟨false, ((conLen q : Nat) : Int)⟩ ∧ k = j ∧ b = .segs false [conRow q] ∧ okA (j + 1) r t h
  | _, _, _, _ => False

def FactA : List AV → Prop
  | [] => True
  | .v x :: r => FactV x ∧ FactA r
  | .d sh d :: r => RoF sh d ∧ FactA r
  | .m l :: r => FactSegs l ∧ FactA r
  | .o q :: r => (conOk q ∧ ((conLen q : Nat) : Int) < 9223372036854775808) ∧ FactA r

section
variable {P : Program} {Γ : Tab}

/-- What a call has turned and made, in the caller's memory. -/
theorem Mem.merge {w0 : World} {M : Nat → Prop} {ρ ρ' : Nat → Pl} {H H' : Nat → Option SB} {w w' : World} (hm : Mem w0 M ρ H w) {M' : Nat → Prop} (hf : FrameW M' w w') {T : Nat → Prop}
    (hkeep : ∀ k, ¬ T k → H' k = H k) (hρ : ∀ k, dmOf H k → ρ' k = ρ k) (hdm : ∀ k, dmOf H k → dmOf H' k) (hM : ∀ b, M' b → w0.heap.size ≤ b ∨ M b)
    (hsep : ∀ k ro l, ¬ T k → H k = some (.segs ro l) → 0 < (ρ k).cap → ¬ M' (ρ k).blk)
    (hT : ∀ k b, T k → H' k = some b → (b ≠ .world ∧ ∀ a i, b ≠ .alias a i) ∧ ∀ ro l, b = .segs ro l → ro = false ∧ (∃ vs, SegsD (fun _ => False) (fun _ => ({ blk := 0, off := 0, cap := 0 } : Pl)) l vs ∧ vs.length ≤ (ρ' k).cap ∧ w'.rangeAt (ρ' k).blk (ρ' k).off vs ∧ w'.there (ρ' k).blk (ρ' k).off (ρ' k).cap) ∧
      (0 < (ρ' k).cap → (ρ' k).blk < w'.heap.size ∧ (w.heap.size ≤ (ρ' k).blk ∨ M' (ρ' k).blk) ∧ Clean w' (ρ' k).blk))
    (hPT : ∀ k kd ms, T k → H' k ≠ some (.pool kd ms)) (hPM : ∀ k kd ms i, H k = some (.pool kd ms) → i < ms.length → 0 < (ρ k).pc i → ¬ M' ((ρ k).pb i))
    (hTT : ∀ k k' l l', T k → T k' → k ≠ k' → H' k = some (.segs false l) → H' k' = some (.segs false l') → 0 < (ρ' k).cap → 0 < (ρ' k').cap → (ρ' k).blk ≠ (ρ' k').blk) : Mem w0 M ρ' H' w' := by
  have hdk : ∀ k b, H k = some b → dmOf H k := fun k b h => dm_of h
  have hun : ∀ k ro l, ¬ T k → H' k = some (.segs ro l) → 0 < (ρ' k).cap → H k = some (.segs ro l) ∧ ρ' k = ρ k ∧ (ρ' k).blk < w.heap.size ∧ ¬ M' (ρ' k).blk := fun k ro l ht hk hc => by
    rw [hkeep k ht] at hk
    have e := hρ k (hdk k _ hk)
    rw [e] at hc ⊢
    exact ⟨hk, rfl, hm.heap.lt k ro l hk hc, hsep k ro l ht hk hc⟩
  refine ⟨⟨fun k b hb => ?_, fun k k' ro ro' l l' h1 h2 hkk hr c1 c2 => ?_, fun k ro l h1 c1 => ?_⟩, ⟨hf.os.trans hm.frame.os, hf.tape.trans hm.frame.tape, hf.output.trans hm.frame.output, Nat.le_trans hm.frame.size hf.size, fun k hk1 hk2 => ?_⟩, fun k l h1 c1 => ?_, fun k h1 => ?_, fun k l h1 c1 => ?_, ?_⟩
  · by_cases ht : T k
    · obtain ⟨q1, q2⟩ := hT k b ht hb
      cases b with
      | gone => trivial
      | world => trivial
      | pool _ _ => trivial
      | alias a i => exact absurd rfl (q1.2 a i)
      | segs ro l =>
        obtain ⟨rfl, ⟨vs, s1, s2, s3, s4⟩, _⟩ := q2 ro l rfl
        exact ⟨vs, SegsD.mono (fun _ h => h.elim) (fun _ h => h.elim) l vs s1, s2, s3, fun _ => s4⟩
    · rw [hkeep k ht] at hb
      exact (hm.heap.blk k b hb).of_block hdm (fun k hk => .of_eq (hρ k hk)) (hρ k (hdk k _ hb)) fun ro l e c => by
        subst e
        exact hf.block _ (hm.heap.lt k ro l hb c) (hsep k ro l ht hb c)
  · by_cases t1 : T k
    · obtain ⟨rfl, _, q1⟩ := (hT k _ t1 h1).2 ro l rfl
      by_cases t2 : T k'
      · obtain ⟨rfl, _, _⟩ := (hT k' _ t2 h2).2 ro' l' rfl
        exact hTT k k' l l' t1 t2 hkk h1 h2 c1 c2
      · obtain ⟨_, _, a1, a2⟩ := hun k' ro' l' t2 h2 c2
        intro e
        rcases (q1 c1).2.1 with q | q
        · omega
        · rw [e] at q; exact a2 q
    · obtain ⟨b1, b2, a1, a2⟩ := hun k ro l t1 h1 c1
      by_cases t2 : T k'
      · obtain ⟨rfl, _, q1⟩ := (hT k' _ t2 h2).2 ro' l' rfl
        intro e
        rcases (q1 c2).2.1 with q | q
        · omega
        · rw [← e] at q; exact a2 q
      · obtain ⟨d1, d2, _, _⟩ := hun k' ro' l' t2 h2 c2
        rw [b2] at c1 ⊢
        rw [d2] at c2 ⊢
        exact hm.heap.sep k k' ro ro' l l' b1 d1 hkk hr c1 c2
  · by_cases t1 : T k
    · obtain ⟨rfl, _, q1⟩ := (hT k _ t1 h1).2 ro l rfl
      exact (q1 c1).1
    · obtain ⟨_, _, a1, _⟩ := hun k ro l t1 h1 c1
      exact Nat.lt_of_lt_of_le a1 hf.size
  · have hn : ¬ M' k := fun h => by
      rcases hM k h with h | h
      · omega
      · exact hk2 h
    rw [hf.block k (Nat.lt_of_lt_of_le hk1 hm.frame.size) hn]
    exact hm.frame.block k hk1 hk2
  · by_cases t1 : T k
    · obtain ⟨_, _, q1⟩ := (hT k _ t1 h1).2 false l rfl
      rcases (q1 c1).2.1 with q | q
      · exact .inl (Nat.le_trans hm.frame.size q)
      · exact hM _ q
    · obtain ⟨b1, b2, _, _⟩ := hun k false l t1 h1 c1
      rw [b2] at c1 ⊢
      exact hm.own k l b1 c1
  · by_cases t1 : T k
    · exact absurd rfl (hT k _ t1 h1).1.1
    · rw [hkeep k t1] at h1
      rw [hρ k (hdk k _ h1)]
      exact hm.view k h1
  · by_cases t1 : T k
    · obtain ⟨_, _, q1⟩ := (hT k _ t1 h1).2 false l rfl
      exact (q1 c1).2.2
    · obtain ⟨b1, b2, a1, a2⟩ := hun k false l t1 h1 c1
      rw [b2] at c1 ⊢
      rw [b2] at a2
      exact (hm.clean k l b1 c1).of_block (hf.block _ (hm.heap.lt k false l b1 c1) a2)
  · have hpk : ∀ k kd ms, H' k = some (.pool kd ms) → ¬ T k ∧ H k = some (.pool kd ms) ∧ ρ' k = ρ k := fun k kd ms h => by
      have ht : ¬ T k := fun t => hPT k kd ms t h
      rw [hkeep k ht] at h
      exact ⟨ht, h, hρ k (hdk k _ h)⟩
    refine ⟨fun key kd ms hk => ?_, fun key kd ms key' ro l i h1 h2 h3 h4 h5 => ?_, fun key kd ms key' kd' ms' i j h1 h2 h3 h4 h5 h6 h7 => ?_⟩
    · obtain ⟨_, a, b⟩ := hpk key kd ms hk
      rw [b]
      exact (hm.pools.pool key kd ms a).step rfl hf.size (fun _ _ _ h => h) (fun i hi h0 => hf.block _ ((hm.pools.pool key kd ms a).lt i hi h0) (hPM key kd ms i a hi h0))
    · obtain ⟨_, a, b⟩ := hpk key kd ms h1
      rw [b] at h5 ⊢
      have hlt := (hm.pools.pool key kd ms a).lt i h4 h5
      by_cases t : T key'
      · obtain ⟨rfl, _, q⟩ := (hT key' _ t h2).2 ro l rfl
        rcases (q h3).2.1 with q | q
        · omega
        · intro e
          rw [e] at q
          exact hPM key kd ms i a h4 h5 q
      · obtain ⟨b1, b2, _, _⟩ := hun key' ro l t h2 h3
        rw [b2] at h3 ⊢
        exact hm.pools.apart key kd ms key' ro l i a b1 h3 h4 h5
    · obtain ⟨_, a, b⟩ := hpk key kd ms h1
      obtain ⟨_, a', b'⟩ := hpk key' kd' ms' h2
      rw [b] at h6 ⊢
      rw [b'] at h7 ⊢
      exact hm.pools.two key kd ms key' kd' ms' i j a a' h3 h4 h5 h6 h7

theorem vcG_calls {n : Nat} (hΓ : TabOk P Γ) {f : FuncId} {fn : Func} (hf : P.funcs[f]? = some fn) {L : Loops} {h : Heap} {args : List SV} {K : List RV → List (Option (List Seg)) → Prop} {inv : Nat → List Pv → Nat → Prop} (hv : VcG n Γ fn L h args K inv) (hlen : args.length ≤ fn.ntmps)
    {w : World} {M : Nat → Prop} {ρg : Nat → Pl} {vs : List Value} (hgo : GlOk Γ w M ρg (assoc h)) (g1 : Mem w M ρg (assoc h) w) (ha : Ds (dmOf (assoc h)) ρg args vs) :
    Calls P f vs.toArray w fun e w' => ∃ x v h' ρ', e = .returned v ∧ kvG n x h' K ∧ D (dmOf (assoc h')) ρ' x v ∧ Mem w M ρ' (assoc h') w' ∧ ∀ k, dmOf (assoc h) k → dmOf (assoc h') k ∧ PlLe (ρg k) (ρ' k) := by
  have hweak : ∀ vk t σ' ps, (vk, t) ∈ L → matchSt t σ' = some ps → Weak (assoc h) σ' (instSt t ps) := fun vk t σ' ps ht hm =>
    weak_of_match hm fun k hk => hv.low vk t ht k (keysOf_of_dm hk)
  refine (fn_calls hΓ hf hgo hlen ha g1 (fun m key σ => ∃ vk t ps, (vk, t) ∈ L ∧ vk % 1000 = key ∧ σ = instSt t ps ∧ inv vk ps m) (fun m => handM L fun key' ps' => ∃ m', m' < m ∧ inv key' ps' m') (fun m key σ hj => ?_) (fun m key σ' h => ?_)
    (handM L fun key' ps' => ∃ m', inv key' ps' m') (fun key σ' h => ?_) hv.entry).mono fun e w' he => ?_
  · obtain ⟨vk, t, ps, ht, rfl, rfl, hinv⟩ := hj
    exact hv.loop vk t ps m ht hinv
  · obtain ⟨vk, t, ps, ht, hk, hps, m', hlt, hinv⟩ := handM_of h
    exact ⟨m', hlt, _, hweak _ _ _ _ ht hps, vk, t, ps, ht, hk, rfl, hinv⟩
  · obtain ⟨vk, t, ps, ht, hk, hps, m', hinv⟩ := handM_of h
    exact ⟨m', _, hweak _ _ _ _ ht hps, vk, t, ps, ht, hk, rfl, hinv⟩
  · obtain ⟨x, v, h', ρ', rfl, k1, k2, k3, k4⟩ := he
    exact ⟨x, v, h', ρ', rfl, k1, k2, k3, k4⟩

end
end Go.Gx

/- Contracts in general: that they hold. -/
namespace Go.Gx
open Go.RowKit
set_option linter.unusedVariables false

section
variable {P : Program} {Γ : Tab} {w0 : World} {M : Nat → Prop} {ρ : Nat → Pl} {H : Nat → Option SB} {w : World}

theorem ones_D {dm : Nat → Prop} : ∀ (l : List Seg) (xs : List SV) (cs : List Value), onesOf l = some xs → SegsD dm ρ l cs → Ds dm ρ xs cs ∧ (∀ v ∈ cs, v.cells = #[v]) ∧ cs.length = xs.length
  | [], xs, cs, h, hd => by
    simp only [onesOf, Option.some.injEq] at h; subst h
    rw [show cs = [] from hd]
    exact ⟨rfl, (fun v hv => by cases hv), rfl⟩
  | .one x :: r, xs, cs, h, hd => by
    simp only [onesOf] at h
    split at h
    · rename_i ys hy
      simp only [Option.some.injEq] at h; subst h
      obtain ⟨c1, c2, ⟨h1, v, hv, rfl⟩, rfl, h3⟩ := hd
      obtain ⟨q1, q2, q3⟩ := ones_D r ys c2 hy h3
      refine ⟨⟨v, c2, hv, rfl, q1⟩, fun u hu => ?_, by simp [q3]⟩
      simp only [List.cons_append, List.nil_append, List.mem_cons] at hu
      rcases hu with rfl | hu
      · exact (single_cell h1 hv).2
      · exact q2 u hu
    · cases h
  | .arr .. :: r, xs, cs, h, hd => by simp [onesOf] at h
  | .rowI .. :: r, xs, cs, h, hd => by simp [onesOf] at h
  | .rowA .. :: r, xs, cs, h, hd => by simp [onesOf] at h
  | .rowH .. :: r, xs, cs, h, hd => by simp [onesOf] at h

theorem eachRO_sound {R : RO → Value → Prop} {g : SV → (List Prop → RO → RP Delta) → RP Delta} (hg : ∀ (x : SV) (v : Value) (f : List Prop → RO → RP Delta) (d : Delta) (rs rs' : List Nat), D (dmOf H) ρ x v → (g x f).run H rs = some (d, rs') → ∃ p q rs1, (f p q).run H rs1 = some (d, rs') ∧ (AllP p → R q v)) :
    ∀ (xs : List SV) (vs : List Value) (f : List Prop → List RO → RP Delta) (d : Delta) (rs rs' : List Nat), Ds (dmOf H) ρ xs vs → (∀ v ∈ vs, v.cells = #[v]) → (eachRO g xs f).run H rs = some (d, rs') →
      ∃ p ds rs1, (f p ds).run H rs1 = some (d, rs') ∧ (AllP p → ChainR R ds vs) ∧ ds.length = xs.length
  | [], vs, f, d, rs, rs', hd, h1, h => ⟨[], [], rs, h, fun _ => hd, rfl⟩
  | x :: r, vs, f, d, rs, rs', hd, h1, h => by
    simp only [Ds] at hd
    obtain ⟨v, c, hx, rfl, hr⟩ := hd
    simp only [eachRO] at h
    obtain ⟨p, q, rs1, a1, a2⟩ := hg x v _ d rs rs' hx h
    obtain ⟨p', ds, rs2, b1, b2, b3⟩ := eachRO_sound hg r c _ d rs1 rs' hr (fun u hu => h1 u (by simp [hu])) a1
    refine ⟨p ++ p', q :: ds, rs2, b1, fun hp => ?_, by simp [b3]⟩
    obtain ⟨hp1, hp2⟩ := AllP.append (l := p) (r := p') hp
    exact ⟨v, c, a2 hp1, by rw [h1 v (by simp)]; rfl, b2 hp2⟩

/-- What the caller's own data may be seen as. -/
structure BanOk (w0 : World) (M : Nat → Prop) (ρ : Nat → Pl) (H : Nat → Option SB) (ban : List Nat) (M' : Nat → Prop) : Prop where
  own : ∀ key ro l, memN key ban = false → H key = some (.segs ro l) → 0 < (ρ key).cap → ¬ M' (ρ key).blk
  old : ∀ b, b < w0.heap.size → ¬ M b → ¬ M' b
  pool : ∀ key k ms i, H key = some (.pool k ms) → i < ms.length → 0 < (ρ key).pc i → ¬ M' ((ρ key).pb i)

theorem BanOk.keeps {ban : List Nat} {M' : Nat → Prop} (hB : BanOk w0 M ρ H ban M') (hm : Mem w0 M ρ H w) : Keeps w0 w (OutB w0 M) (OutB w M') := fun b hb =>
  ⟨⟨Nat.lt_of_lt_of_le hb.1 hm.frame.size, hB.old b hb.1 hb.2⟩, hm.frame.block b hb.1 hb.2⟩

/-- A pool's row, as data. -/
theorem ps_ro (hm : Mem w0 M ρ H w) {ban : List Nat} {M' : Nat → Prop} (hB : BanOk w0 M ρ H ban M') {key r : Nat} {k : IntKind} {ms : List (List Int)} (hkey : H key = some (.pool k ms)) {len : SI} {v : Value} (hx : D (dmOf H) ρ (.ps key r len) v) (hle : len.z ≤ ((ms.getD r []).length : Int)) :
    RoD w (OutB w M') (.ints k) (.l ((ms.getD r []).take len.z.toNat)) v := by
  simp only [D] at hx
  obtain ⟨hk, hrp, hl, hr, ad, cap, rfl, hlc, hdis⟩ := hx
  have hP := hm.pools.pool key k ms hkey
  have hrl : r < ms.length := by rw [← hP.cnt]; exact hrp
  have hrm : ms[r]? = some (ms.getD r []) := by rw [List.getD_eq_getElem?_getD, List.getElem?_eq_getElem hrl]; rfl
  obtain ⟨a1, a2, a3, a4⟩ := hP.row r _ hrm
  have hll : ((ms.getD r []).take len.z.toNat).length = len.z.toNat := by rw [List.length_take]; omega
  simp only [RoD, InR] at hr ⊢
  have er : roL (.l ((ms.getD r []).take len.z.toNat)) = (ms.getD r []).take len.z.toNat := rfl
  rw [er, hll]
  refine ⟨ad, cap, rfl, hlc, by omega, fun z hz => a1 z (List.mem_of_mem_take hz), ?_⟩
  rcases hdis with ⟨rfl, hcap⟩ | ⟨q1, q2⟩
  · rcases Nat.eq_zero_or_pos cap with h0 | h0
    · exact .inr ⟨by omega, h0⟩
    · have hcp : 0 < (ρ key).pc r := by omega
      refine .inl ⟨_, _, rfl, ⟨hP.lt r hrl hcp, hB.pool key k ms r hkey hrl hcp⟩, fun j u hu => ?_⟩
      rw [List.map_take, List.getElem?_take] at hu
      split at hu
      · exact a3 j u hu
      · cases hu
  · exact .inr ⟨by omega, q2⟩

theorem hdrs_chain (hm : Mem w0 M ρ H w) {ban : List Nat} {M' : Nat → Prop} (hB : BanOk w0 M ρ H ban M') {pk : Nat} {k : IntKind} {ms : List (List Int)} (hkey : H pk = some (.pool k ms)) : ∀ (hs : List (Nat × Nat)) (cs : List Value), HdrsD (dmOf H) ρ pk hs cs →
    (∀ h ∈ hs, h.2 ≤ (ms.getD h.1 []).length) → ChainR (RoD w (OutB w M') (.ints k)) (hs.map fun h => .l ((ms.getD h.1 []).take h.2)) cs
  | [], cs, h, _ => h
  | x :: t, cs, h, hl => by
    obtain ⟨v, c, h1, rfl, h3⟩ := h
    refine ⟨v, c, ?_, ?_, hdrs_chain hm hB hkey t c h3 fun y hy => hl y (by simp [hy])⟩
    · have := ps_ro hm hB hkey h1 (by have := hl x (by simp); simp only; omega)
      simpa using this
    · rw [(single_cell rfl h1).2]; rfl

theorem hdr_ro (hm : Mem w0 M ρ H w) {ban : List Nat} {M' : Nat → Prop} (hB : BanOk w0 M ρ H ban M') {key pk : Nat} {ro : Bool} {hs : List (Nat × Nat)} {k : IntKind} (hban : memN key ban = false) (hkey : H key = some (.segs ro [.rowH pk hs])) {off len : SI} {v : Value} (hx : D (dmOf H) ρ (.sl key 0 1 off len) v)
    {f : List Prop → RO → RP Delta} {d : Delta} {rs rs' : List Nat} (h : (hdrRO k off len pk hs f).run H rs = some (d, rs')) :
    ∃ p q rs1, (f p q).run H rs1 = some (d, rs') ∧ (AllP p → RoD w (OutB w M') (.l (.ints k)) q v) := by
  unfold hdrRO at h
  simp only [RP.run] at h
  split at h
  · rename_i k' ms hpk
    split at h
    · rename_i hkk
      have hkk := keq_eq hkk
      subst hkk
      refine ⟨_, _, _, h, fun hp => ?_⟩
      have hle : off.z + len.z ≤ (hs.length : Int) := hp.1
      have hall := hp.2.1
      simp only [D] at hx
      obtain ⟨_, ho, hl, hr, ad, cap, rfl, hlc, hdis⟩ := hx
      obtain ⟨vs, h1, h2, h3, _⟩ := hm.segs hkey
      obtain ⟨c1, c2, ⟨_, e1⟩, rfl, e3⟩ := h1
      have e4 : c2 = [] := e3
      subst e4
      simp only [List.append_nil] at h2 h3
      have hcl := e1.len
      have hln : (((hs.drop off.z.toNat).take len.z.toNat).map fun h => RO.l ((ms.getD h.1 []).take h.2)).length = len.z.toNat := by simp; omega
      simp only [RoD, InR] at hr ⊢
      have er : ∀ l, roX (.r l) = l := fun _ => rfl
      rw [er, hln]
      refine ⟨ad, cap, (c1.drop off.z.toNat).take len.z.toNat, rfl, hlc, by omega, hdrs_chain hm hB hpk _ _ ((e1.drop _).take _) hall, ?_⟩
      rcases hdis with ⟨rfl, hcap⟩ | ⟨hz, hc0⟩
      · rcases Nat.eq_zero_or_pos cap with h0 | h0
        · exact .inr ⟨by omega, h0⟩
        · have hcp : 0 < (ρ key).cap := by omega
          refine .inl ⟨(ρ key).blk, (ρ key).off + off.z.toNat, by simp [at_], ⟨hm.heap.lt key ro _ hkey hcp, hB.own key ro _ hban hkey hcp⟩, rangeAt_part h3 _ _⟩
      · exact .inr ⟨by omega, hc0⟩
    · simp [RP.run] at h
  · simp [RP.run] at h

mutual
theorem viewRO_sound (P : Program) (hm : Mem w0 M ρ H w) {ban : List Nat} {M' : Nat → Prop} (hB : BanOk w0 M ρ H ban M') : ∀ (sh : Sh) (x : SV) (v : Value) (f : List Prop → RO → RP Delta) (d : Delta) (rs rs' : List Nat), D (dmOf H) ρ x v → (viewRO ban sh x f).run H rs = some (d, rs') →
    ∃ p q rs1, (f p q).run H rs1 = some (d, rs') ∧ (AllP p → RoD w (OutB w M') sh q v)
  | .ints k, x, v, f, d, rs, rs', hx, h => by
    simp only [viewRO] at h
    split at h
    · rename_i key sh dd
      simp only [RP.run] at h
      split at h
      · rename_i hkey
        split at h
        · rename_i he
          have e := shEq_eq _ _ he
          subst e
          simp only [D] at hx
          have hrel := hx.2.1
          rw [hm.view key hkey] at hrel
          exact ⟨[], dd, _, h, fun _ => RoD.mono (hB.keeps hm) _ _ _ hrel⟩
        · simp [RP.run] at h
      · simp [RP.run] at h
    · simp only [D] at hx
      subst hx
      refine ⟨[], _, _, h, fun _ => ?_⟩
      simp only [RoD]
      exact ⟨none, 0, rfl, Nat.le_refl _, by simp [roL], (fun z hz => by cases hz), .inr ⟨rfl, rfl⟩⟩
    · rename_i key c est off len
      split at h
      · simp [RP.run] at h
      · rename_i hban
        obtain ⟨p, q, rs1, hw, hq, ro, lx, hkey, hcE⟩ := withCon_more (P := P) hm hx h
        split at hw
        · rename_i k' l
          split at hw
          · rename_i hkk
            have hkk := keq_eq hkk
            subst hkk
            refine ⟨p, _, rs1, hw, fun hp => ?_⟩
            have hcon := hq hp
            simp only [D] at hx
            obtain ⟨_, ho, hl, hr, ad, cap, rfl, hlc, hdis⟩ := hx
            obtain ⟨e1, e2, e3⟩ := hcon.at_ ad _ cap rfl
            have e1 : len.z.toNat = l.length := e1
            simp only [RoD, InR] at hr ⊢
            have er : roL (.l l) = l := rfl
            rw [er]
            refine ⟨ad, cap, by rw [e1], by omega, by omega, hcon.ok, ?_⟩
            rcases e3 with ⟨a, b⟩ | ⟨b, o, rfl, hlt, hra⟩
            · exact .inr ⟨a, b⟩
            · rcases hdis with ⟨ha', hc2⟩ | ⟨hz, hc0⟩
              · simp only [Option.some.injEq, at_, Addr.mk.injEq, and_true] at ha'
                obtain ⟨hb', ho'⟩ := ha'
                have hest : conSize (Con.ints k' l) = est := con_est hcE
                have hest1 : est = 1 := hest.symm
                subst hest1
                rcases Nat.eq_zero_or_pos cap with h0 | h0
                · exact .inr ⟨by omega, h0⟩
                · have hcp : 0 < (ρ key).cap := by omega
                  refine .inl ⟨b, o, rfl, ⟨hlt (by simpa [conSize] using h0), ?_⟩, hra⟩
                  rw [hb']
                  exact hB.own key ro lx hban hkey hcp
              · exact .inr ⟨by omega, hc0⟩
          · simp [RP.run] at hw
        · simp [RP.run] at hw
    · rename_i key r len
      simp only [withCon, RP.run] at h
      split at h
      · rename_i kk ms hkey
        split at h
        · rename_i hkk
          have hkk := keq_eq hkk
          subst hkk
          refine ⟨_, _, _, h, fun hp => ?_⟩
          have hle : len.z ≤ ((ms.getD r []).length : Int) := hp.1
          exact ps_ro hm hB hkey hx hle
        · simp [RP.run] at h
      · simp [RP.run] at h
    · simp [RP.run] at h
  | .l e, x, v, f, d, rs, rs', hx, h => by
    simp only [viewRO] at h
    split at h
    · rename_i key sh dd
      simp only [RP.run] at h
      split at h
      · rename_i hkey
        split at h
        · rename_i he
          have e := shEq_eq _ _ he
          subst e
          simp only [D] at hx
          have hrel := hx.2.1
          rw [hm.view key hkey] at hrel
          exact ⟨[], dd, _, h, fun _ => RoD.mono (hB.keeps hm) _ _ _ hrel⟩
        · simp [RP.run] at h
      · simp [RP.run] at h
    · simp only [D] at hx
      subst hx
      refine ⟨[], _, _, h, fun _ => ?_⟩
      simp only [RoD]
      exact ⟨none, 0, [], rfl, Nat.le_refl _, by simp [roX], rfl, .inr ⟨rfl, rfl⟩⟩
    · rename_i key n
      split at h
      · simp [RP.run] at h
      · rename_i hban
        simp only [RP.run] at h
        split at h
        · rename_i ro l hkey
          split at h
          · rename_i xs hxs
            split at h
            · rename_i hn
              simp only [Bool.and_eq_true] at hn
              have hn1 := Nat.eq_of_beq_eq_true hn.1
              have hn2 : 0 < n := by have := hn.2; simp [Nat.blt] at this; omega
              obtain ⟨vs, h1, h2, h3, _⟩ := hm.segs hkey
              obtain ⟨q1, q2, q3⟩ := ones_D l xs vs hxs h1
              obtain ⟨p, ds, rs1, a1, a2, a3⟩ := eachRO_sound (R := RoD w (OutB w M') e) (fun x v f d rs rs' hx h => viewRO_sound P hm hB e x v f d rs rs' hx h) xs vs _ d _ rs' q1 q2 h
              refine ⟨p, _, rs1, a1, fun hp => ?_⟩
              simp only [D] at hx
              obtain ⟨_, ho, hl, hr, ad, cap, rfl, hlc, hdis⟩ := hx
              have er : roX (.r ds) = ds := rfl
              have hnn : (Int.ofNat n).toNat = n := rfl
              simp only [RoD, InR] at hr ⊢
              rw [er]
              simp only [hnn] at hlc ⊢
              rcases hdis with ⟨rfl, hcap⟩ | ⟨hz, hc0⟩
              · refine ⟨_, cap, vs, by rw [a3, hn1]; simp [at_], by omega, by omega, a2 hp, .inl ⟨(ρ key).blk, (ρ key).off, rfl, ?_, h3⟩⟩
                have hcp : 0 < (ρ key).cap := by simp at hcap; omega
                exact ⟨hm.heap.lt key ro l hkey hcp, hB.own key ro l hban hkey hcp⟩
              · simp at hz; omega
            · simp [RP.run] at h
          · simp [RP.run] at h
        · simp [RP.run] at h
    · rename_i key off len _
      split at h
      · simp [RP.run] at h
      · rename_i hban
        simp only [RP.run] at h
        split at h
        · rename_i ro pk hs hkey
          split at h
          · rename_i k
            exact hdr_ro hm hB hban hkey hx h
          · simp [RP.run] at h
        · simp [RP.run] at h
    · simp [RP.run] at h
  | .i k, x, v, f, d, rs, rs', hx, h => by
    simp only [viewRO] at h
    split at h
    · rename_i k' a
      split at h
      · rename_i hk
        have e := keq_eq hk
        subst e
        refine ⟨[], _, _, h, fun _ => ?_⟩
        simp only [D] at hx
        simp only [RoD]
        exact hx
      · simp [RP.run] at h
    · simp [RP.run] at h
  | .tb, x, v, f, d, rs, rs', hx, h => by
    simp only [viewRO] at h
    split at h
    · refine ⟨[], _, _, h, fun _ => ?_⟩
      simp only [D] at hx
      simp only [RoD]
      exact hx
    · simp [RP.run] at h
  | .ts, x, v, f, d, rs, rs', hx, h => by
    simp only [viewRO] at h
    split at h
    · refine ⟨[], _, _, h, fun _ => ?_⟩
      simp only [D] at hx
      simp only [RoD]
      exact hx
    · simp [RP.run] at h
  | .arr n k, x, v, f, d, rs, rs', hx, h => by
    simp only [viewRO] at h
    split at h
    · rename_i k' m ex l
      split at h
      · rename_i hk
        simp only [Bool.and_eq_true] at hk
        have e := keq_eq hk.1
        have e2 := Nat.eq_of_beq_eq_true hk.2
        subst e e2
        refine ⟨[], _, _, h, fun _ => ?_⟩
        simp only [D] at hx
        simp only [RoD]
        exact hx
      · simp [RP.run] at h
    · simp [RP.run] at h
  | .r fs, x, v, f, d, rs, rs', hx, h => by
    simp only [viewRO] at h
    split at h
    · rename_i xs
      simp only [D] at hx
      obtain ⟨cs, hc, rfl⟩ := hx
      obtain ⟨p, ds, rs1, a1, a2⟩ := viewROs_sound P hm hB fs xs cs _ d rs rs' hc h
      refine ⟨p, _, rs1, a1, fun hp => ?_⟩
      simp only [RoD]
      exact ⟨cs, by simpa using a2 hp [], rfl⟩
    · simp [RP.run] at h
theorem viewROs_sound (P : Program) (hm : Mem w0 M ρ H w) {ban : List Nat} {M' : Nat → Prop} (hB : BanOk w0 M ρ H ban M') : ∀ (fs : List Sh) (xs : List SV) (cs : List Value) (f : List Prop → List RO → RP Delta) (d : Delta) (rs rs' : List Nat), Cs (dmOf H) ρ xs cs → (viewROs ban fs xs f).run H rs = some (d, rs') →
    ∃ p q rs1, (f p q).run H rs1 = some (d, rs') ∧ (AllP p → ∀ pre : List RO, RoCs w (OutB w M') fs (.r (pre ++ q)) pre.length cs)
  | [], xs, cs, f, d, rs, rs', hx, h => by
    simp only [viewROs] at h
    split at h
    · rw [show cs = [] from hx]
      exact ⟨[], [], rs, h, fun _ _ => rfl⟩
    · simp [RP.run] at h
  | s :: fs, xs, cs, f, d, rs, rs', hx, h => by
    simp only [viewROs] at h
    split at h
    · rename_i x xs
      simp only [Cs] at hx
      obtain ⟨v, c, h1, rfl, h2⟩ := hx
      obtain ⟨p, q, rs1, a1, a2⟩ := viewRO_sound P hm hB s x v _ d rs rs' h1 h
      obtain ⟨p', ds, rs2, b1, b2⟩ := viewROs_sound P hm hB fs xs c _ d rs1 rs' h2 a1
      refine ⟨p ++ p', q :: ds, rs2, b1, fun hp pre => ?_⟩
      obtain ⟨hp1, hp2⟩ := AllP.append (l := p) (r := p') hp
      simp only [RoCs]
      refine ⟨v, c, ?_, rfl, ?_⟩
      · have : roN (.r (pre ++ q :: ds)) pre.length = q := by simp [roN, roX, List.getD_eq_getElem?_getD]
        rw [this]; exact a2 hp1
      · have := b2 hp2 (pre ++ [q])
        simpa using this
    · simp [RP.run] at h
end

/-- The arguments, as a contract sees them, and the keys of the caller's records among them. -/
def AsD (w : World) (Out : Nat → Prop) (H : Nat → Option SB) (ρ : Nat → Pl) : List AV → List Value → List Nat → Prop
  | [], vs, ks => vs = [] ∧ ks = []
  | .v x :: r, vs, ks => ∃ u c, vs = u :: c ∧ D (dmOf H) ρ x u ∧ AsD w Out H ρ r c ks
  | .d sh d :: r, vs, ks => ∃ u c, vs = u :: c ∧ RoD w Out sh d u ∧ AsD w Out H ρ r c ks
  | .m l :: r, vs, ks => ∃ c k ks', ks = k :: ks' ∧ vs = .pointer (some (at_ (ρ k) 0)) :: c ∧ H k = some (.segs false l) ∧ AsD w Out H ρ r c ks'
  | .o q :: r, vs, ks => ∃ u c k ks', ks = k :: ks' ∧ vs = u :: c ∧ H k = some (.segs false [conRow q]) ∧
      (∃ ad cap, u = .slice ad (conLen q) cap ∧ conLen q ≤ cap ∧ ((conLen q : Nat) : Int) < 9223372036854775808 ∧ ((ad = some (at_ (ρ k) 0) ∧ conSize q * cap ≤ (ρ k).cap) ∨ (conLen q = 0 ∧ cap = 0))) ∧ AsD w Out H ρ r c ks'

theorem getA_sound (P : Program) (hm : Mem w0 M ρ H w) {ban : List Nat} {M' : Nat → Prop} (hB : BanOk w0 M ρ H ban M') : ∀ (ms : List Md) (xs : List SV) (vs : List Value) (f : List Prop → List AV → RP Delta) (d : Delta) (rs rs' : List Nat), Ds (dmOf H) ρ xs vs → (getA ban ms xs f).run H rs = some (d, rs') →
    ∃ p avs rs1, (f p avs).run H rs1 = some (d, rs') ∧ (AllP p → AsD w (OutB w M') H ρ avs vs (ownKeys ms xs))
  | [], [], vs, f, d, rs, rs', hd, h => ⟨[], [], rs, h, fun _ => ⟨hd, rfl⟩⟩
  | [], _ :: _, vs, f, d, rs, rs', hd, h => by simp [getA, RP.run] at h
  | .v :: _, [], vs, f, d, rs, rs', hd, h => by simp [getA, RP.run] at h
  | .d _ :: _, [], vs, f, d, rs, rs', hd, h => by simp [getA, RP.run] at h
  | .m :: _, [], vs, f, d, rs, rs', hd, h => by simp [getA, RP.run] at h
  | .o :: _, [], vs, f, d, rs, rs', hd, h => by simp [getA, RP.run] at h
  | .v :: ms, x :: xs, vs, f, d, rs, rs', hd, h => by
    simp only [Ds] at hd
    obtain ⟨v, c, h1, rfl, h2⟩ := hd
    simp only [getA] at h
    obtain ⟨p, avs, rs1, q1, q2⟩ := getA_sound P hm hB ms xs c _ d rs rs' h2 h
    refine ⟨p, _, rs1, q1, fun hp => ⟨v, c, rfl, h1, ?_⟩⟩
    have : ownKeys (.v :: ms) (x :: xs) = ownKeys ms xs := by cases x <;> rfl
    rw [this]; exact q2 hp
  | .d sh :: ms, x :: xs, vs, f, d, rs, rs', hd, h => by
    simp only [Ds] at hd
    obtain ⟨v, c, h1, rfl, h2⟩ := hd
    simp only [getA] at h
    obtain ⟨p, q, rs1, q1, q2⟩ := viewRO_sound P hm hB sh x v _ d rs rs' h1 h
    obtain ⟨p', avs, rs2, q3, q4⟩ := getA_sound P hm hB ms xs c _ d rs1 rs' h2 q1
    refine ⟨p ++ p', _, rs2, q3, fun hp => ?_⟩
    obtain ⟨hp1, hp2⟩ := AllP.append (l := p) (r := p') hp
    have : ownKeys (.d sh :: ms) (x :: xs) = ownKeys ms xs := by cases x <;> rfl
    rw [this]
    exact ⟨v, c, rfl, q2 hp1, q4 hp2⟩
  | .m :: ms, x :: xs, vs, f, d, rs, rs', hd, h => by
    simp only [Ds] at hd
    obtain ⟨v, c, h1, rfl, h2⟩ := hd
    simp only [getA] at h
    split at h
    · rename_i key
      simp only [RP.run] at h
      split at h
      · rename_i l hkey
        obtain ⟨p, avs, rs1, q1, q2⟩ := getA_sound P hm hB ms xs c _ d _ rs' h2 h
        simp only [D] at h1
        exact ⟨p, _, rs1, q1, fun hp => ⟨c, key, _, rfl, by rw [h1.2], hkey, q2 hp⟩⟩
      · simp [RP.run] at h
    · obtain ⟨p, avs, rs1, q1, q2⟩ := getA_sound P hm hB ms xs c _ d rs rs' h2 h
      exact ⟨p, _, rs1, q1, fun hp => ⟨v, c, rfl, h1, q2 hp⟩⟩
    · simp [RP.run] at h
  | .o :: ms, x :: xs, vs, f, d, rs, rs', hd, h => by
    simp only [Ds] at hd
    obtain ⟨v, c, h1, rfl, h2⟩ := hd
    simp only [getA] at h
    split at h
    · rename_i key est len
      simp only [RP.run] at h
      split at h
      · rename_i g hkey
        split at h
        · rename_i q hq
          split at h
          · rename_i hest
            have hest := Nat.eq_of_beq_eq_true hest
            obtain ⟨p, avs, rs1, q1, q2⟩ := getA_sound P hm hB ms xs c _ d _ rs' h2 h
            have hg : g = conRow q := by
              cases g <;> simp only [rowCon, Option.some.injEq, reduceCtorEq] at hq <;> subst hq <;> rfl
            subst hg
            refine ⟨_, _, rs1, q1, fun hp => ?_⟩
            have hlen : len.z = ((conLen q : Nat) : Int) := hp.1
            simp only [D] at h1
            obtain ⟨_, ho, hl, hr, ad, cap, rfl, hlc, hdis⟩ := h1
            simp only [InR] at hr
            have hln : len.z.toNat = conLen q := by omega
            refine ⟨_, c, key, _, rfl, rfl, hkey, ⟨ad, cap, by rw [hln], by omega, by omega, ?_⟩, q2 hp.2⟩
            rcases hdis with ⟨ha, hc⟩ | ⟨hz, hc0⟩
            · exact .inl ⟨by simpa using ha, by rw [← hest]; simpa using hc⟩
            · exact .inr ⟨by omega, hc0⟩
          · simp [RP.run] at h
        · simp [RP.run] at h
      · simp [RP.run] at h
    · obtain ⟨p, avs, rs1, q1, q2⟩ := getA_sound P hm hB ms xs c _ d rs rs' h2 h
      exact ⟨p, _, rs1, q1, fun hp => ⟨v, c, rfl, h1, q2 hp⟩⟩
    · simp [RP.run] at h

theorem AsD.fact (hm : Mem w0 M ρ H w) {Out : Nat → Prop} : ∀ (avs : List AV) (vs : List Value) (ks : List Nat), AsD w Out H ρ avs vs ks → FactA avs
  | [], vs, ks, h => trivial
  | .v x :: r, vs, ks, h => by
    obtain ⟨u, c, rfl, h1, h2⟩ := h
    exact ⟨D.fact x u h1, AsD.fact hm r c ks h2⟩
  | .d sh d :: r, vs, ks, h => by
    obtain ⟨u, c, rfl, h1, h2⟩ := h
    exact ⟨RoD.fact sh d u h1, AsD.fact hm r c ks h2⟩
  | .m l :: r, vs, ks, h => by
    obtain ⟨c, k, ks', rfl, rfl, h1, h2⟩ := h
    obtain ⟨cs, hcs, _⟩ := hm.heap.blk k _ h1
    exact ⟨SegsD.fact l cs hcs, AsD.fact hm r c ks' h2⟩
  | .o q :: r, vs, ks, h => by
    obtain ⟨u, c, k, ks', rfl, rfl, h1, ⟨ad, cap, h3, h4, h5, _⟩, h2⟩ := h
    obtain ⟨cs, ⟨c1, c2, hq, _⟩, _⟩ := hm.heap.blk k _ h1
    refine ⟨⟨?_, h5⟩, AsD.fact hm r c ks' h2⟩
    cases q <;> exact hq.1

theorem AsD.keys {Out : Nat → Prop} : ∀ (avs : List AV) (vs : List Value) (ks : List Nat), AsD w Out H ρ avs vs ks → ∀ k ∈ ks, ∃ l, H k = some (.segs false l)
  | [], vs, ks, h => by obtain ⟨_, rfl⟩ := h; intro k hk; cases hk
  | .v x :: r, vs, ks, h => by
    obtain ⟨u, c, rfl, h1, h2⟩ := h
    exact AsD.keys r c ks h2
  | .d sh d :: r, vs, ks, h => by
    obtain ⟨u, c, rfl, h1, h2⟩ := h
    exact AsD.keys r c ks h2
  | .m l :: r, vs, ks, h => by
    obtain ⟨c, k, ks', rfl, rfl, h1, h2⟩ := h
    intro k' hk
    rcases List.mem_cons.1 hk with rfl | hk
    · exact ⟨_, h1⟩
    · exact AsD.keys r c ks' h2 k' hk
  | .o q :: r, vs, ks, h => by
    obtain ⟨u, c, k, ks', rfl, rfl, h1, _, h2⟩ := h
    intro k' hk
    rcases List.mem_cons.1 hk with rfl | hk
    · exact ⟨_, h1⟩
    · exact AsD.keys r c ks' h2 k' hk

/-- The callee's records are the caller's. -/
theorem okA_heap {Out : Nat → Prop} : ∀ (avs : List AV) (vs : List Value) (ks : List Nat) (j : Nat) (args' : List SV) (h : Heap), AsD w Out H ρ avs vs ks → okA j avs args' h →
    (∀ k b, assoc h k = some b → ∃ i, k = j + i ∧ i < ks.length ∧ ∃ l l', b = .segs false l' ∧ H (ks.getD i 0) = some (.segs false l) ∧ ∀ (dm : Nat → Prop) (ρ' : Nat → Pl) (cs : List Value), SegsD (dmOf H) ρ l cs → SegsD dm ρ' l' cs) ∧
    (∀ i, i < ks.length → (assoc h (j + i)).isSome = true)
  | [], vs, ks, j, [], [], h, ho => by
    obtain ⟨_, rfl⟩ := h
    exact ⟨fun k b hb => by simp [assoc] at hb, fun i hi => by simp at hi⟩
  | [], vs, ks, j, [], _ :: _, h, ho => ho.elim
  | [], vs, ks, j, _ :: _, _, h, ho => by simp [okA] at ho
  | .v x :: r, vs, ks, j, [], h', h, ho => by simp [okA] at ho
  | .v x :: r, vs, ks, j, y :: t, h', h, ho => by
    obtain ⟨u, c, rfl, h1, h2⟩ := h
    exact okA_heap r c ks j t h' h2 ho.2
  | .d sh d :: r, vs, ks, j, [], h', h, ho => by simp [okA] at ho
  | .d sh d :: r, vs, ks, j, y :: t, h', h, ho => by
    obtain ⟨u, c, rfl, h1, h2⟩ := h
    exact okA_heap r c ks j t h' h2 ho.2
  | .m l :: r, vs, ks, j, [], h', h, ho => by simp [okA] at ho
  | .m l :: r, vs, ks, j, y :: t, [], h, ho => by simp [okA] at ho
  | .m l :: r, vs, ks, j, y :: t, (k0, b0) :: h', h, ho => by
    obtain ⟨c, k, ks', rfl, rfl, h1, h2⟩ := h
    obtain ⟨_, rfl, ⟨l', rfl, he⟩, ho⟩ := ho
    obtain ⟨q1, q2⟩ := okA_heap r c ks' (k0 + 1) t h' h2 ho
    refine ⟨fun k b hb => ?_, fun i hi => ?_⟩
    · simp only [assoc] at hb
      split at hb
      · rename_i e
        have e := Nat.eq_of_beq_eq_true e
        simp only [Option.some.injEq] at hb
        subst hb
        exact ⟨0, by omega, by simp, l, l', rfl, by simpa using h1, fun dm ρ' cs hcs => eqSegs_D l l' cs he hcs⟩
      · obtain ⟨i, e, hi, rest⟩ := q1 k b hb
        exact ⟨i + 1, by omega, by simpa using hi, by simpa using rest⟩
    · cases i with
      | zero => simp [assoc, Nat.beq_refl]
      | succ i =>
        have : Nat.beq k0 (k0 + (i + 1)) = false := by
          cases hb : Nat.beq k0 (k0 + (i + 1)) with
          | false => rfl
          | true => have := Nat.eq_of_beq_eq_true hb; omega
        simp only [assoc, this]
        have := q2 i (by simpa using hi)
        rwa [show k0 + 1 + i = k0 + (i + 1) by omega] at this
  | .o q :: r, vs, ks, j, [], h', h, ho => by simp [okA] at ho
  | .o q :: r, vs, ks, j, y :: t, [], h, ho => by simp [okA] at ho
  | .o q :: r, vs, ks, j, y :: t, (k0, b0) :: h', h, ho => by
    obtain ⟨u, c, k, ks', rfl, rfl, h1, _, h2⟩ := h
    obtain ⟨_, rfl, rfl, ho⟩ := ho
    obtain ⟨q1, q2⟩ := okA_heap r c ks' (k0 + 1) t h' h2 ho
    refine ⟨fun k b hb => ?_, fun i hi => ?_⟩
    · simp only [assoc] at hb
      split at hb
      · rename_i e
        have e := Nat.eq_of_beq_eq_true e
        simp only [Option.some.injEq] at hb
        subst hb
        refine ⟨0, by omega, by simp, _, _, rfl, by simpa using h1, fun dm ρ' cs hcs => ?_⟩
        obtain ⟨c1, c2, hq, rfl, hc2⟩ := hcs
        refine ⟨c1, c2, ?_, rfl, hc2⟩
        cases q <;> exact hq
      · obtain ⟨i, e, hi, rest⟩ := q1 k b hb
        exact ⟨i + 1, by omega, by simpa using hi, by simpa using rest⟩
    · cases i with
      | zero => simp [assoc, Nat.beq_refl]
      | succ i =>
        have : Nat.beq k0 (k0 + (i + 1)) = false := by
          cases hb : Nat.beq k0 (k0 + (i + 1)) with
          | false => rfl
          | true => have := Nat.eq_of_beq_eq_true hb; omega
        simp only [assoc, this]
        have := q2 i (by simpa using hi)
        rwa [show k0 + 1 + i = k0 + (i + 1) by omega] at this

theorem okA_args {Out : Nat → Prop} {dm' : Nat → Prop} {ρ' : Nat → Pl} (h490 : dm' 490) (hrel : (ρ' 490).rel = RoD w Out) : ∀ (avs : List AV) (vs : List Value) (ks : List Nat) (j : Nat) (args' : List SV) (h : Heap), AsD w Out H ρ avs vs ks → okA j avs args' h →
    (∀ i, i < ks.length → dm' (j + i) ∧ ρ' (j + i) = ρ (ks.getD i 0)) → Ds dm' ρ' args' vs
  | [], vs, ks, j, [], [], h, ho, hk => h.1
  | [], vs, ks, j, [], _ :: _, h, ho, hk => ho.elim
  | [], vs, ks, j, _ :: _, _, h, ho, hk => by simp [okA] at ho
  | .v x :: r, vs, ks, j, [], h', h, ho, hk => by simp [okA] at ho
  | .v x :: r, vs, ks, j, y :: t, h', h, ho, hk => by
    obtain ⟨u, c, rfl, h1, h2⟩ := h
    exact ⟨u, c, eqV_D x y u ho.1 h1, rfl, okA_args h490 hrel r c ks j t h' h2 ho.2 hk⟩
  | .d sh d :: r, vs, ks, j, [], h', h, ho, hk => by simp [okA] at ho
  | .d sh d :: r, vs, ks, j, y :: t, h', h, ho, hk => by
    obtain ⟨u, c, rfl, h1, h2⟩ := h
    obtain ⟨rfl, ho⟩ := ho
    exact ⟨_, c, svOf_D h490 hrel sh d u h1, rfl, okA_args h490 hrel r c ks j t h' h2 ho hk⟩
  | .m l :: r, vs, ks, j, [], h', h, ho, hk => by simp [okA] at ho
  | .m l :: r, vs, ks, j, y :: t, [], h, ho, hk => by simp [okA] at ho
  | .m l :: r, vs, ks, j, y :: t, (k0, b0) :: h', h, ho, hk => by
    obtain ⟨c, k, ks', rfl, rfl, h1, h2⟩ := h
    obtain ⟨rfl, rfl, ⟨l', rfl, he⟩, ho⟩ := ho
    have h0 := hk 0 (by simp)
    refine ⟨_, c, ⟨by simpa using h0.1, ?_⟩, rfl, okA_args h490 hrel r c ks' (k0 + 1) t h' h2 ho fun i hi => ?_⟩
    · have := h0.2
      simp only [Nat.add_zero, List.getD_cons_zero] at this
      rw [this]
    · have := hk (i + 1) (by simpa using hi)
      rw [show k0 + 1 + i = k0 + (i + 1) by omega]
      simpa using this
  | .o q :: r, vs, ks, j, [], h', h, ho, hk => by simp [okA] at ho
  | .o q :: r, vs, ks, j, y :: t, [], h, ho, hk => by simp [okA] at ho
  | .o q :: r, vs, ks, j, y :: t, (k0, b0) :: h', h, ho, hk => by
    obtain ⟨u, c, k, ks', rfl, rfl, h1, ⟨ad, cap, rfl, h3, h4, h5⟩, h2⟩ := h
    obtain ⟨rfl, rfl, rfl, ho⟩ := ho
    have h0 := hk 0 (by simp)
    refine ⟨_, c, sl_D (by simpa using h0.1) _ h4 h3 ?_, rfl, okA_args h490 hrel r c ks' (k0 + 1) t h' h2 ho fun i hi => ?_⟩
    · have := h0.2
      simp only [Nat.add_zero, List.getD_cons_zero] at this
      rw [this]; exact h5
    · have := hk (i + 1) (by simpa using hi)
      rw [show k0 + 1 + i = k0 + (i + 1) by omega]
      simpa using this

end
end Go.Gx

/- Contracts in general: off functions that the evaluator has run. -/
namespace Go.Gx
open Go.RowKit
set_option linter.unusedVariables false

/-- An answer of the callee's, and where it lies. -/
def RvD (H : Nat → Option SB) (ρ : Nat → Pl) (w : World) : RV → Value → Prop
  | .v x, v => D (dmOf H) ρ x v
  | .row q, v => conOk q ∧ ∃ key l pl ad cap, 1000 ≤ key ∧ H key = some (.segs false l) ∧ v = .slice ad (conLen q) cap ∧ conLen q ≤ cap ∧ ((conLen q : Nat) : Int) < 9223372036854775808 ∧
      ((ad = some (at_ pl 0) ∧ conSize q * cap ≤ pl.cap) ∨ (conLen q = 0 ∧ cap = 0)) ∧ (conCells q).length ≤ pl.cap ∧ w.rangeAt pl.blk pl.off (conCells q) ∧ w.there pl.blk pl.off pl.cap ∧ (0 < pl.cap → pl.blk = (ρ key).blk ∧ 0 < (ρ key).cap)
  | .ptr l, v => ∃ key, 1000 ≤ key ∧ H key = some (.segs false l) ∧ v = .pointer (some (at_ (ρ key) 0))
def RvsD (H : Nat → Option SB) (ρ : Nat → Pl) (w : World) : List RV → List Value → Prop
  | [], vs => vs = []
  | x :: r, vs => ∃ v c, RvD H ρ w x v ∧ vs = v :: c ∧ RvsD H ρ w r c

section
variable {P : Program} {Γ : Tab} {w0 : World} {M : Nat → Prop} {ρ : Nat → Pl} {w : World}

theorem canV_sound {h : Heap} (hm : Mem w0 M ρ (assoc h) w) {x : SV} {v : Value} (hx : D (dmOf (assoc h)) ρ x v) {K : RV → Prop} (hk : canV h x K) : ∃ r, K r ∧ RvD (assoc h) ρ w r v := by
  unfold canV at hk
  split at hk
  · rename_i key c est off len
    split at hk
    · rename_i l hkey1 hkey
      have hge : 1000 ≤ key := Nat.le_of_ble_eq_true hkey1
      split at hk
      · rename_i g hs
        split at hk
        · rename_i p q hq
          obtain ⟨hp, hK⟩ := preK_of _ _ hk
          simp only [D] at hx
          obtain ⟨hdm, ho, hl, hlr, a, cap, rfl, hcap, hpl⟩ := hx
          simp only [InR] at hlr
          obtain ⟨vs, h1, h2, h3, h4⟩ := hm.segs hkey
          obtain ⟨pre, cs, post, e1, e2, e3, _, _⟩ := segAt_D l c vs g 0 h1 hs
          obtain ⟨a1, a2, a3, a4, a5⟩ := conSeg_sound hq e2 hp ho hl
          have heq : conCells q = (vs.drop (c + est * off.z.toNat)).take (est * len.z.toNat) := by
            rw [a4, e1, show c + est * off.z.toNat = pre.length + est * off.z.toNat by omega, drop_mid _ _ _ _ _ a5]
          have hra := rangeAt_part h3 (c + est * off.z.toNat) (est * len.z.toNat)
          rw [← heq] at hra
          have hcl := conCells_length a1
          have hth := h4 rfl
          rcases hpl with ⟨ha, hle⟩ | ⟨h0, hc0⟩
          · refine ⟨_, hK, a1, key, l, ({ blk := (ρ key).blk, off := (ρ key).off + (c + est * off.z.toNat), cap := est * cap } : Pl), a, cap, hge, hkey, by rw [a2], by omega, by omega, .inl ⟨by rw [ha]; simp [at_], by rw [a3]; exact Nat.le_refl _⟩, ?_, hra, ?_, fun hc => ⟨rfl, ?_⟩⟩
            · show (conCells q).length ≤ est * cap
              rw [hcl, a3, a2, Nat.mul_comm]; exact Nat.mul_le_mul_left _ hcap
            · intro j hj
              have hj' : j < est * cap := hj
              have := hth (c + est * off.z.toNat + j) (by omega)
              rw [show (ρ key).off + (c + est * off.z.toNat) + j = (ρ key).off + (c + est * off.z.toNat + j) by omega]
              exact this
            · have hc : 0 < est * cap := hc
              omega
          · have hz : conLen q = 0 := by rw [a2]; omega
            have hnil : conCells q = [] := List.eq_nil_of_length_eq_zero (by rw [hcl, hz]; simp)
            refine ⟨_, hK, a1, key, l, ({ blk := 0, off := 0, cap := 0 } : Pl), a, cap, hge, hkey, by rw [a2], by omega, by omega, .inr ⟨hz, hc0⟩, by rw [hnil]; simp, by rw [hnil]; exact rangeAt_nil _ _ _, there_zero _ _ _, fun hc => absurd hc (by simp)⟩
        · exact hk.elim
      · exact hk.elim
    · exact hk.elim
  · rename_i key
    split at hk
    · rename_i l hkey1 hkey
      simp only [D] at hx
      exact ⟨_, hk, key, Nat.le_of_ble_eq_true hkey1, hkey, hx.2⟩
    · exact hk.elim
  · exact ⟨_, hk, hx⟩

theorem canVs_sound {h : Heap} (hm : Mem w0 M ρ (assoc h) w) : ∀ (xs : List SV) (vs : List Value) (K : List RV → Prop), Ds (dmOf (assoc h)) ρ xs vs → canVs h xs K → ∃ rs, K rs ∧ RvsD (assoc h) ρ w rs vs ∧ rs.length = xs.length
  | [], vs, K, hx, hk => ⟨[], hk, hx, rfl⟩
  | x :: r, vs, K, hx, hk => by
    simp only [Ds] at hx
    obtain ⟨v, c, h1, rfl, h2⟩ := hx
    obtain ⟨y, q1, q2⟩ := canV_sound hm h1 hk
    obtain ⟨ys, q3, q4, q5⟩ := canVs_sound hm r c _ h2 q1
    exact ⟨y :: ys, q3, ⟨v, c, q2, rfl, q4⟩, by simp [q5]⟩

/-- What the callee's records hold at the end. -/
def FinH (H : Nat → Option SB) : Nat → List (Option (List Seg)) → Prop
  | _, [] => True
  | j, some l :: r => H j = some (.segs false l) ∧ FinH H (j + 1) r
  | j, none :: r => H j = some .gone ∧ FinH H (j + 1) r

theorem canF_sound {h : Heap} : ∀ (n j : Nat) (K : List (Option (List Seg)) → Prop), canF h j n K → ∃ fs, K fs ∧ FinH (assoc h) j fs ∧ fs.length = n
  | 0, j, K, hk => ⟨[], hk, trivial, rfl⟩
  | n + 1, j, K, hk => by
    simp only [canF] at hk
    split at hk
    · rename_i l hl
      obtain ⟨fs, q1, q2, q3⟩ := canF_sound n (j + 1) _ hk
      exact ⟨_, q1, ⟨hl, q2⟩, by simp [q3]⟩
    · rename_i hl
      obtain ⟨fs, q1, q2, q3⟩ := canF_sound n (j + 1) _ hk
      exact ⟨_, q1, ⟨hl, q2⟩, by simp [q3]⟩
    · exact hk.elim

/-- The answers, one value or more. -/
def RvsOf (H : Nat → Option SB) (ρ : Nat → Pl) (w : World) (rs : List RV) (v : Value) : Prop :=
  (∃ r, rs = [r] ∧ RvD H ρ w r v) ∨ (rs.length ≠ 1 ∧ ∃ vs, v = .tuple vs.toArray ∧ RvsD H ρ w rs vs)

theorem kvG_sound {h : Heap} (hm : Mem w0 M ρ (assoc h) w) {n : Nat} {x : SV} {v : Value} (hx : D (dmOf (assoc h)) ρ x v) {K : List RV → List (Option (List Seg)) → Prop} (hk : kvG n x h K) :
    ∃ rs fs, K rs fs ∧ RvsOf (assoc h) ρ w rs v ∧ FinH (assoc h) 600 fs ∧ fs.length = n := by
  unfold kvG at hk
  split at hk
  · rename_i xs
    split at hk
    · exact hk.elim
    · rename_i hn
      simp only [D] at hx
      obtain ⟨vs, h1, rfl⟩ := hx
      obtain ⟨rs, q1, q2, q3⟩ := canVs_sound hm xs vs _ h1 hk
      obtain ⟨fs, q4, q5, q6⟩ := canF_sound n 600 _ q1
      refine ⟨rs, fs, q4, .inr ⟨fun e => ?_, vs, rfl, q2⟩, q5, q6⟩
      rw [q3] at e
      rw [e] at hn
      exact absurd hn (by decide)
  · obtain ⟨r, q1, q2⟩ := canV_sound hm hx hk
    obtain ⟨fs, q4, q5, q6⟩ := canF_sound n 600 _ q1
    exact ⟨_, fs, q4, .inl ⟨r, rfl, q2⟩, q5, q6⟩

theorem eqCon_eq {a b : Con} (h : eqCon a b) : a = b := by
  cases a <;> cases b <;> simp only [eqCon] at h
  · rw [keq_eq h.1, h.2]
  · rw [keq_eq h.1, h.2.1, h.2.2]

/-- Where the fresh block among the answers lies. -/
def FreshAt (H : Nat → Option SB) (ρ : Nat → Pl) (w : World) (l : List Seg) (pl : Pl) : Prop :=
  ∃ vs, SegsD (fun _ => False) (fun _ => ({ blk := 0, off := 0, cap := 0 } : Pl)) l vs ∧ vs.length ≤ pl.cap ∧ w.rangeAt pl.blk pl.off vs ∧ w.there pl.blk pl.off pl.cap ∧
    (0 < pl.cap → ∃ key l', 1000 ≤ key ∧ H key = some (.segs false l') ∧ pl.blk = (ρ key).blk ∧ 0 < (ρ key).cap)

theorem res_one {h : Heap} (hm : Mem w0 M ρ (assoc h) w) {r r' : RV} {v : Value} (hr : RvD (assoc h) ρ w r v) (he : eqRV1 r r') :
    ∃ pl, (∀ l, frOf [r'] = some l → FreshAt (assoc h) ρ w l pl) ∧ ∀ (dm : Nat → Prop) (ρ' : Nat → Pl) (stamp : Nat), (frOf [r'] ≠ none → dm stamp ∧ ρ' stamp = pl) → D dm ρ' (resG stamp r') v := by
  cases r' with
  | v y =>
    refine ⟨({ blk := 0, off := 0, cap := 0 } : Pl), (fun l hl => by cases hl), fun dm ρ' stamp _ => ?_⟩
    cases r with
    | v x =>
      have he' : eqRV (.v x) (.v y) := by cases x <;> exact he
      exact eqV_D x y v he' hr
    | row q => exact (show eqRV (.row q) (.v y) from he).elim
    | ptr l => exact (show eqRV (.ptr l) (.v y) from he).elim
  | ptr l' =>
    cases r with
    | v x => have he' : eqRV (.v x) (.ptr l') := by cases x <;> exact he
             exact he'.elim
    | row q => exact (show eqRV (.row q) (.ptr l') from he).elim
    | ptr l =>
      have he' : eqSegs l l' := he
      obtain ⟨key, k1, k2, rfl⟩ := hr
      obtain ⟨cs, s1, s2, s3, s4⟩ := hm.segs k2
      refine ⟨ρ key, fun l0 hl => ?_, fun dm ρ' stamp hs => ?_⟩
      · simp only [frOf, Option.some.injEq] at hl
        subst hl
        exact ⟨cs, eqSegs_D l l' cs he' s1, s2, s3, s4 rfl, fun hc => ⟨key, l, k1, k2, rfl, hc⟩⟩
      · obtain ⟨q1, q2⟩ := hs (by simp [frOf])
        simp only [resG, D]
        exact ⟨q1, by rw [q2]⟩
  | row q' =>
    have main : ∀ q, conOk q → q = q' → (∃ key l pl ad cap, 1000 ≤ key ∧ assoc h key = some (.segs false l) ∧ v = .slice ad (conLen q) cap ∧ conLen q ≤ cap ∧ ((conLen q : Nat) : Int) < 9223372036854775808 ∧
      ((ad = some (at_ pl 0) ∧ conSize q * cap ≤ pl.cap) ∨ (conLen q = 0 ∧ cap = 0)) ∧ (conCells q).length ≤ pl.cap ∧ w.rangeAt pl.blk pl.off (conCells q) ∧ w.there pl.blk pl.off pl.cap ∧ (0 < pl.cap → pl.blk = (ρ key).blk ∧ 0 < (ρ key).cap)) →
        ∃ pl, (∀ l, frOf [RV.row q'] = some l → FreshAt (assoc h) ρ w l pl) ∧ ∀ (dm : Nat → Prop) (ρ' : Nat → Pl) (stamp : Nat), (frOf [RV.row q'] ≠ none → dm stamp ∧ ρ' stamp = pl) → D dm ρ' (resG stamp (.row q')) v := by
      rintro q hok rfl ⟨key, l, pl, ad, cap, k1, k2, rfl, k3, k4, k5, k6, k7, k8, k9⟩
      refine ⟨pl, fun l0 hl => ?_, fun dm ρ' stamp hs => ?_⟩
      · simp only [frOf, Option.some.injEq] at hl
        subst hl
        exact ⟨conCells q, segs_one (conRow_D hok), k6, k7, k8, fun hc => ⟨key, l, k1, k2, k9 hc⟩⟩
      · obtain ⟨q1, q2⟩ := hs (by simp [frOf])
        simp only [resG]
        exact sl_D q1 _ k4 k3 (by rw [q2]; exact k5)
    cases r with
    | v x =>
      cases x with
      | nsl =>
        obtain ⟨e1, e2⟩ := (show conLen q' = 0 ∧ conOk q' from he)
        have hv : v = .slice none 0 0 := hr
        subst hv
        have hnil : conCells q' = [] := List.eq_nil_of_length_eq_zero (by rw [conCells_length e2, e1]; simp)
        refine ⟨({ blk := 0, off := 0, cap := 0 } : Pl), fun l0 hl => ?_, fun dm ρ' stamp hs => ?_⟩
        · simp only [frOf, Option.some.injEq] at hl
          subst hl
          have := segs_one (conRow_D (ρ := fun _ => ({ blk := 0, off := 0, cap := 0 } : Pl)) (dm := fun _ => False) e2)
          rw [hnil] at this
          exact ⟨[], this, Nat.le_refl _, rangeAt_nil _ _ _, there_zero _ _ _, fun hc => absurd hc (by simp)⟩
        · obtain ⟨q1, q2⟩ := hs (by simp [frOf])
          simp only [resG]
          have := sl_D (es := conSize q') (a := none) (cap := 0) (ρ := ρ') q1 (conLen q') (by omega) (by omega) (.inr ⟨e1, rfl⟩)
          rwa [show (Value.slice none (conLen q') 0) = .slice none 0 0 by rw [e1]] at this
      | _ => simp [eqRV1, eqRV] at he
    | ptr l => exact (show eqRV (.ptr l) (.row q') from he).elim
    | row q => exact main q hr.1 (eqCon_eq (show eqCon q q' from he)) hr.2

theorem res_all {h : Heap} (hm : Mem w0 M ρ (assoc h) w) : ∀ (rs rs' : List RV) (vs : List Value), RvsD (assoc h) ρ w rs vs → eqRVs rs rs' → oneFr rs' = true →
    ∃ pl, (∀ l, frOf rs' = some l → FreshAt (assoc h) ρ w l pl) ∧ ∀ (dm : Nat → Prop) (ρ' : Nat → Pl) (stamp : Nat), (frOf rs' ≠ none → dm stamp ∧ ρ' stamp = pl) → Ds dm ρ' (resGs stamp rs') vs
  | [], [], vs, hr, he, ho => ⟨({ blk := 0, off := 0, cap := 0 } : Pl), (fun l hl => by cases hl), fun dm ρ' stamp _ => hr⟩
  | [], _ :: _, vs, hr, he, ho => he.elim
  | _ :: _, [], vs, hr, he, ho => he.elim
  | r :: t, r' :: t', vs, hr, he, ho => by
    obtain ⟨v, c, h1, rfl, h2⟩ := hr
    obtain ⟨pl, a1, a2⟩ := res_one hm h1 he.1
    cases hf : frOf [r'] with
    | none =>
      have hff : frOf (r' :: t') = frOf t' := by cases r' <;> simp [frOf] at hf ⊢
      have ho' : oneFr t' = true := by cases r' <;> simp [frOf] at hf; exact ho
      obtain ⟨pl2, b1, b2⟩ := res_all hm t t' c h2 he.2 ho'
      refine ⟨pl2, fun l hl => b1 l (by rw [← hff]; exact hl), fun dm ρ' stamp hs => ?_⟩
      exact ⟨v, _, a2 dm ρ' stamp (fun h => absurd hf h), rfl, b2 dm ρ' stamp (fun h => hs (by rw [hff]; exact h))⟩
    | some l0 =>
      have hft : frOf t' = none := by
        cases r' with
        | v x => simp [frOf] at hf
        | row q => simp only [oneFr] at ho; split at ho <;> simp_all
        | ptr l => simp only [oneFr] at ho; split at ho <;> simp_all
      have ho' : oneFr t' = true := by
        have : ∀ t : List RV, frOf t = none → oneFr t = true := by
          intro t
          induction t with
          | nil => intro _; rfl
          | cons x r ih => intro hh; cases x <;> simp [frOf] at hh; exact ih hh
        exact this t' hft
      have hff : frOf (r' :: t') = frOf [r'] := by cases r' <;> simp [frOf] at hf ⊢
      obtain ⟨pl2, b1, b2⟩ := res_all hm t t' c h2 he.2 ho'
      refine ⟨pl, fun l hl => a1 l (by rw [← hff]; exact hl), fun dm ρ' stamp hs => ?_⟩
      have hs' := hs (by rw [hff, hf]; simp)
      exact ⟨v, _, a2 dm ρ' stamp (fun _ => hs'), rfl, b2 dm ρ' stamp (fun h => absurd hft h)⟩

theorem res_of {h : Heap} (hm : Mem w0 M ρ (assoc h) w) {rs rs' : List RV} {v : Value} (hr : RvsOf (assoc h) ρ w rs v) (he : eqRVs rs rs') (ho : oneFr rs' = true) :
    ∃ pl, (∀ l, frOf rs' = some l → FreshAt (assoc h) ρ w l pl) ∧ ∀ (dm : Nat → Prop) (ρ' : Nat → Pl) (stamp : Nat), (frOf rs' ≠ none → dm stamp ∧ ρ' stamp = pl) → D dm ρ' (resOf stamp rs') v := by
  have hlen : ∀ (a b : List RV), eqRVs a b → a.length = b.length := by
    intro a
    induction a with
    | nil => intro b hb; cases b <;> simp [eqRVs] at hb ⊢
    | cons x r ih => intro b hb; cases b <;> simp [eqRVs] at hb ⊢; exact ih _ hb.2
  rcases hr with ⟨r, rfl, h1⟩ | ⟨hn, vs, rfl, h1⟩
  · match rs', he with
    | [r'], he =>
      obtain ⟨pl, a1, a2⟩ := res_one hm h1 he.1
      exact ⟨pl, a1, fun dm ρ' stamp hs => a2 dm ρ' stamp hs⟩
  · obtain ⟨pl, a1, a2⟩ := res_all hm rs rs' vs h1 he ho
    refine ⟨pl, a1, fun dm ρ' stamp hs => ?_⟩
    have e : resOf stamp rs' = .tup (resGs stamp rs') := by
      match rs', hlen rs rs' he with
      | [], _ => rfl
      | [r'], hl => exact absurd hl hn
      | _ :: _ :: _, _ => rfl
    rw [e]
    simp only [D]
    exact ⟨vs, a2 dm ρ' stamp hs, rfl⟩

theorem nodupN_iff : ∀ {l : List Nat}, nodupN l = true → l.Nodup
  | [], _ => List.nodup_nil
  | x :: r, h => by
    simp only [nodupN] at h
    split at h
    · cases h
    · rename_i e
      refine List.nodup_cons.2 ⟨fun hx => ?_, nodupN_iff h⟩
      rw [memN_iff.2 hx] at e; cases e

def finB : Option (List Seg) → SB
  | some l => .segs false l
  | none => .gone

theorem finW_len : ∀ {ks : List Nat} {fin : List (Option (List Seg))} {ws : List (Nat × SB)}, finW ks fin = some ws → fin.length = ks.length
  | [], [], ws, h => rfl
  | [], _ :: _, ws, h => by simp [finW] at h
  | _ :: _, [], ws, h => by simp [finW] at h
  | k :: ks, some l :: r, ws, h => by
    simp only [finW] at h
    split at h
    · rename_i ws' e; simp [finW_len e]
    · cases h
  | k :: ks, none :: r, ws, h => by
    simp only [finW] at h
    split at h
    · rename_i ws' e; simp [finW_len e]
    · cases h

theorem finW_upd : ∀ {ks : List Nat} {fin : List (Option (List Seg))} {ws : List (Nat × SB)}, finW ks fin = some ws → ks.Nodup → ∀ (H : Nat → Option SB),
    (∀ k, k ∉ ks → updsH H ws k = H k) ∧ ∀ i, i < ks.length → updsH H ws (ks.getD i 0) = some (finB (fin.getD i none))
  | [], [], ws, h, hn, H => by
    simp only [finW, Option.some.injEq] at h; subst h
    exact ⟨fun k _ => rfl, fun i hi => by simp at hi⟩
  | [], _ :: _, ws, h, _, _ => by simp [finW] at h
  | _ :: _, [], ws, h, _, _ => by simp [finW] at h
  | k :: ks, b :: r, ws, h, hn, H => by
    have hh : ∃ ws', finW ks r = some ws' ∧ ws = (k, finB b) :: ws' := by
      cases b <;> simp only [finW] at h <;> split at h
      · rename_i ws' e; exact ⟨ws', e, (Option.some.inj h).symm⟩
      · cases h
      · rename_i ws' e; exact ⟨ws', e, (Option.some.inj h).symm⟩
      · cases h
    obtain ⟨ws', e, rfl⟩ := hh
    obtain ⟨hk, hn'⟩ := List.nodup_cons.1 hn
    obtain ⟨q1, q2⟩ := finW_upd e hn' (updH H k (finB b))
    refine ⟨fun k' hk' => ?_, fun i hi => ?_⟩
    · simp only [List.mem_cons, not_or] at hk'
      show updsH (updH H k (finB b)) ws' k' = H k'
      rw [q1 k' hk'.2, updH_ne hk'.1]
    · show updsH (updH H k (finB b)) ws' _ = _
      cases i with
      | zero =>
        simp only [List.getD_cons_zero]
        rw [q1 k hk, updH_same]
      | succ i =>
        simp only [List.getD_cons_succ]
        exact q2 i (by simpa using hi)

theorem finH_at {H : Nat → Option SB} : ∀ (fs : List (Option (List Seg))) (j i : Nat), FinH H j fs → i < fs.length → H (j + i) = some (finB (fs.getD i none))
  | some l :: r, j, 0, h, hi => h.1
  | none :: r, j, 0, h, hi => h.1
  | some l :: r, j, i + 1, h, hi => by
    have := finH_at r (j + 1) i h.2 (by simpa using hi)
    rw [show j + (i + 1) = j + 1 + i by omega]; simpa using this
  | none :: r, j, i + 1, h, hi => by
    have := finH_at r (j + 1) i h.2 (by simpa using hi)
    rw [show j + (i + 1) = j + 1 + i by omega]; simpa using this

theorem eqFin_at : ∀ (fs fs' : List (Option (List Seg))) (i : Nat), eqFin fs fs' → ∀ l', fs'.getD i none = some l' → ∃ l, fs.getD i none = some l ∧ eqSegs l l'
  | [], [], i, h, l', hl => by simp at hl
  | [], _ :: _, i, h, l', hl => h.elim
  | _ :: _, [], i, h, l', hl => h.elim
  | x :: r, y :: t, 0, h, l', hl => by
    simp only [List.getD_cons_zero] at hl ⊢
    subst hl
    cases x with
    | none => exact h.1.elim
    | some l => exact ⟨l, rfl, h.1⟩
  | x :: r, y :: t, i + 1, h, l', hl => by
    simp only [List.getD_cons_succ] at hl ⊢
    exact eqFin_at r t i h.2 l' hl

end
end Go.Gx

/- Contracts in general: the theorem. -/
namespace Go.Gx
open Go.RowKit
set_option linter.unusedVariables false

section
variable {P : Program} {Γ : Tab}

/-- What a general contract has read. -/
theorem genCtr_run {H : Nat → Option SB} {ms : List Md} {spec : List AV → Option (List Prop × List RV × List (Option (List Seg)))} {stamp : Nat} {args : List SV} {rs rs' : List Nat} {d : Delta} (h : (genCtr ms spec stamp args).run H rs = some (d, rs')) :
    nodupN (ownKeys ms args) = true ∧ ∃ f : List Prop → List AV → RP Delta, (getA (ownKeys ms args) ms args f).run H rs = some (d, rs') ∧ ∀ p avs rs1, (f p avs).run H rs1 = some (d, rs') →
      ∃ p' rvs fin ws, spec avs = some (p', rvs, fin) ∧ finW (ownKeys ms args) fin = some ws ∧ (oneFr rvs && Nat.ble fin.length 100) = true ∧
        ((frOf rvs = none ∧ d = ⟨p ++ p', resOf stamp rvs, ws, true⟩) ∨ ∃ l, frOf rvs = some l ∧ H stamp = none ∧ d = ⟨p ++ p', resOf stamp rvs, (stamp, .segs false l) :: ws, true⟩) := by
  unfold genCtr at h
  simp only at h
  split at h
  · rename_i hn
    refine ⟨hn, _, h, fun p avs rs1 h1 => ?_⟩
    split at h1
    · rename_i p' rvs fin hs
      split at h1
      · rename_i ws hws ho
        split at h1
        · rename_i hf
          exact ⟨p', rvs, fin, ws, hs, hws, ho, .inl ⟨hf, run_ret h1⟩⟩
        · rename_i l hf
          simp only [RP.run] at h1
          split at h1
          · rename_i hst
            exact ⟨p', rvs, fin, ws, hs, hws, ho, .inr ⟨l, hf, hst, run_ret h1⟩⟩
          · simp [RP.run] at h1
      · simp [RP.run] at h1
    · simp [RP.run] at h1
  · simp [RP.run] at h

/-- The callee's heap. -/
theorem gen_mem {w0 : World} {M : Nat → Prop} {ρ : Nat → Pl} {H : Nat → Option SB} {w : World} (hG : Glob Γ.gh w0 M) (hgl : Γ.gl = keysOf Γ.gh) (hlow : ∀ g ∈ keysOf Γ.gh, g < 490) (hm : Mem w0 M ρ H w) {ks : List Nat} (hks : ∀ k ∈ ks, ∃ l, H k = some (.segs false l)) (hnd : ks.Nodup)
    {M' : Nat → Prop} (hM' : ∀ b, M' b ↔ ∃ k ∈ ks, 0 < (ρ k).cap ∧ b = (ρ k).blk) {h6 : Heap}
    (h1 : ∀ k b, assoc h6 k = some b → ∃ i, k = 600 + i ∧ i < ks.length ∧ ∃ l l', b = .segs false l' ∧ H (ks.getD i 0) = some (.segs false l) ∧ ∀ (dm : Nat → Prop) (ρ' : Nat → Pl) (cs : List Value), SegsD (dmOf H) ρ l cs → SegsD dm ρ' l' cs)
    (h2 : ∀ i, i < ks.length → (assoc h6 (600 + i)).isSome = true) :
    ∃ ρ1 : Nat → Pl, Mem w M' ρ1 (assoc (Γ.gh ++ (490, .world) :: h6)) w ∧ GlOk Γ w M' ρ1 (assoc (Γ.gh ++ (490, .world) :: h6)) ∧ dmOf (assoc (Γ.gh ++ (490, .world) :: h6)) 490 ∧ (ρ1 490).rel = RoD w (OutB w M') ∧
      ∀ i, i < ks.length → dmOf (assoc (Γ.gh ++ (490, .world) :: h6)) (600 + i) ∧ ρ1 (600 + i) = ρ (ks.getD i 0) := by
  obtain ⟨ρg, g1, g2, g3⟩ := mem_of_glob hG hm
  have hMo : ∀ b, M' b → w0.heap.size ≤ b ∨ M b := fun b hb => by
    obtain ⟨k, hk, hc, rfl⟩ := (hM' b).1 hb
    obtain ⟨l, hl⟩ := hks k hk
    exact hm.own k l hl hc
  have hne : ∀ g b, (g, b) ∈ Γ.gh → ¬ M' g := fun g b hgb hb => by
    obtain ⟨_, _, _, _, _, q1, q2⟩ := hG g b hgb
    rcases hMo g hb with hh | hh
    · omega
    · exact q1 hh
  have hlow : ∀ k b, assoc Γ.gh k = some b → k < 490 := fun k b hb => hlow k (keysOf_of_dm (by unfold dmOf; rw [hb]; rfl))
  have hro : ∀ k b, assoc Γ.gh k = some b → ∃ l, b = .segs true l := fun k b hb => by
    obtain ⟨l, _, e, _⟩ := g2 k b (assoc_mem hb); exact ⟨l, e⟩
  let HH : Heap := Γ.gh ++ (490, .world) :: h6
  have hat : ∀ k b, assoc HH k = some b → (k < 490 ∧ assoc Γ.gh k = some b) ∨ (k = 490 ∧ b = .world) ∨ (600 ≤ k ∧ assoc h6 k = some b) := fun k b hb => by
    have hb : assoc (Γ.gh ++ (490, .world) :: h6) k = some b := hb
    rw [assoc_app] at hb
    split at hb
    · rename_i x hx
      rw [hb] at hx
      exact .inl ⟨hlow k b hx, hx⟩
    · simp only [assoc] at hb
      split at hb
      · rename_i e
        simp only [Option.some.injEq] at hb
        exact .inr (.inl ⟨(Nat.eq_of_beq_eq_true e).symm, hb.symm⟩)
      · obtain ⟨i, rfl, _⟩ := h1 k b hb
        exact .inr (.inr ⟨by omega, hb⟩)
  have hup : ∀ k b, assoc Γ.gh k = some b → assoc HH k = some b := fun k b hb => by
    show assoc (Γ.gh ++ (490, .world) :: h6) k = _
    rw [assoc_app, hb]
  have hnlow : ∀ k, 490 ≤ k → assoc Γ.gh k = none := fun k hk => by
    cases e : assoc Γ.gh k with
    | none => rfl
    | some b => have := hlow k b e; omega
  have h490 : assoc HH 490 = some .world := by
    show assoc (Γ.gh ++ (490, .world) :: h6) 490 = _
    rw [assoc_app, hnlow 490 (Nat.le_refl _)]
    simp [assoc]
  have hup6 : ∀ k, 600 ≤ k → assoc HH k = assoc h6 k := fun k hk => by
    show assoc (Γ.gh ++ (490, .world) :: h6) k = _
    rw [assoc_app, hnlow k (by omega)]
    have : Nat.beq 490 k = false := by
      cases hb : Nat.beq 490 k with
      | false => rfl
      | true => have := Nat.eq_of_beq_eq_true hb; omega
    simp only [assoc, this]
  let ρ1 : Nat → Pl := fun k => if k < 490 then ρg k else if k < 600 then { blk := 0, off := 0, cap := 0, rel := RoD w (OutB w M') } else ρ (ks.getD (k - 600) 0)
  have hρg : ∀ k, k < 490 → ρ1 k = ρg k := fun k hk => by simp [ρ1, hk]
  have hρ6 : ∀ i, ρ1 (600 + i) = ρ (ks.getD i 0) := fun i => by
    have h1 : ¬ (600 + i < 490) := by omega
    have h2 : ¬ (600 + i < 600) := by omega
    simp only [ρ1, h1, h2, if_false]
    rw [Nat.add_sub_cancel_left]
  have hmk : ∀ i, i < ks.length → ks.getD i 0 ∈ ks := fun i hi => by
    rw [List.getD_eq_getElem?_getD, List.getElem?_eq_getElem hi]
    exact List.getElem_mem hi
  have hinj : ∀ i i', i < ks.length → i' < ks.length → i ≠ i' → ks.getD i 0 ≠ ks.getD i' 0 := fun i i' hi hi' hne e => by
    rw [List.getD_eq_getElem?_getD, List.getD_eq_getElem?_getD, List.getElem?_eq_getElem hi, List.getElem?_eq_getElem hi'] at e
    have e : ks[i] = ks[i'] := e
    rcases Nat.lt_or_gt_of_ne hne with h | h
    · exact List.pairwise_iff_getElem.1 hnd i i' hi hi' h e
    · exact List.pairwise_iff_getElem.1 hnd i' i hi' hi h e.symm
  refine ⟨ρ1, ⟨⟨fun k b hb => ?_, fun k k' ro ro' l1 l2 e1 e2 hkk hr c1 c2 => ?_, fun k ro l1 e1 c1 => ?_⟩, FrameW.refl _ _, fun k l1 e1 c1 => ?_, fun k e1 => ?_, fun k l1 e1 c1 => ?_, .none (fun k kd ms e1 => by
      rcases hat k _ e1 with ⟨_, h⟩ | ⟨_, h⟩ | ⟨_, h⟩
      · obtain ⟨_, e⟩ := hro k _ h; cases e
      · cases h
      · obtain ⟨i, _, h⟩ := h1 k _ h
        obtain ⟨_, _, _, e, _⟩ := h
        cases e)⟩, ⟨fun g hg => ?_, fun g b hgb => ?_⟩, by unfold dmOf; rw [h490]; rfl, by simp [ρ1], fun i hi => ⟨?_, hρ6 i⟩⟩
  · rcases hat k b hb with ⟨hk, hb'⟩ | ⟨rfl, rfl⟩ | ⟨hk, hb'⟩
    · refine (g1.heap.blk k b hb').of_block (fun j hj => ?_) (fun j hj => ?_) (hρg k hk) (fun _ _ _ _ => rfl)
      · unfold dmOf at hj ⊢
        obtain ⟨b', hb''⟩ := Option.isSome_iff_exists.1 hj
        rw [hup j b' hb'']; rfl
      · unfold dmOf at hj
        obtain ⟨b', hb''⟩ := Option.isSome_iff_exists.1 hj
        exact .of_eq (hρg j (hlow j b' hb''))
    · trivial
    · obtain ⟨i, rfl, hi, l, l', rfl, hl, hd⟩ := h1 k b hb'
      obtain ⟨cs, hcs, hcl, hra, hth⟩ := hm.heap.blk _ _ hl
      exact ⟨cs, hd _ _ cs hcs, by rw [hρ6]; exact hcl, by rw [hρ6]; exact hra, fun _ => by rw [hρ6]; exact hth rfl⟩
  · have hk0 : ∀ a b lx, assoc HH a = some (.segs b lx) → 0 < (ρ1 a).cap → (a < 490 ∧ b = true ∧ ¬ M' (ρ1 a).blk) ∨ (∃ i, a = 600 + i ∧ i < ks.length ∧ M' (ρ1 a).blk) := fun a b lx ha hca => by
      rcases hat a _ ha with ⟨ha1, ha'⟩ | ⟨_, ha'⟩ | ⟨ha1, ha'⟩
      · obtain ⟨lz, ez⟩ := hro a _ ha'
        simp only [SB.segs.injEq] at ez
        exact .inl ⟨ha1, ez.1, by rw [hρg a ha1, (g3 a).1]; exact hne a _ (assoc_mem ha')⟩
      · cases ha'
      · obtain ⟨i, rfl, hi, l, l', e, hl, hd⟩ := h1 a _ ha'
        exact .inr ⟨i, rfl, hi, (hM' _).2 ⟨ks.getD i 0, hmk i hi, by rw [hρ6] at hca; exact hca, by rw [hρ6]⟩⟩
    rcases hk0 k ro l1 e1 c1 with ⟨a1, a2, a3⟩ | ⟨i, rfl, hi, a3⟩
    · rcases hk0 k' ro' l2 e2 c2 with ⟨b1, b2, b3⟩ | ⟨i', rfl, hi', b3⟩
      · rw [a2, b2] at hr; rcases hr with hr | hr <;> cases hr
      · intro e; rw [e] at a3; exact a3 b3
    · rcases hk0 k' ro' l2 e2 c2 with ⟨b1, b2, b3⟩ | ⟨i', rfl, hi', b3⟩
      · intro e; rw [e] at a3; exact b3 a3
      · rw [hρ6] at c1 ⊢
        rw [hρ6] at c2 ⊢
        obtain ⟨l, hl⟩ := hks _ (hmk i hi)
        obtain ⟨l', hl'⟩ := hks _ (hmk i' hi')
        exact hm.heap.sep _ _ false false l l' hl hl' (hinj i i' hi hi' (fun e => hkk (by rw [e]))) (.inl rfl) c1 c2
  · rcases hat k _ e1 with ⟨h1', h1''⟩ | ⟨_, h1'⟩ | ⟨hk, h1'⟩
    · rw [hρg k h1'] at c1 ⊢; exact g1.heap.lt k ro l1 h1'' c1
    · cases h1'
    · obtain ⟨i, rfl, hi, l, l', e, hl, hd⟩ := h1 k _ h1'
      rw [hρ6] at c1 ⊢
      exact hm.heap.lt _ _ _ hl c1
  · rcases hat k _ e1 with ⟨h1', h1''⟩ | ⟨_, h1'⟩ | ⟨hk, h1'⟩
    · obtain ⟨lz, ez⟩ := hro k _ h1''
      simp only [SB.segs.injEq] at ez
      cases ez.1
    · cases h1'
    · obtain ⟨i, rfl, hi, l, l', e, hl, hd⟩ := h1 k _ h1'
      exact .inr ((hM' _).2 ⟨ks.getD i 0, hmk i hi, by rw [hρ6] at c1; exact c1, by rw [hρ6]⟩)
  · rcases hat k _ e1 with ⟨h1', h1''⟩ | ⟨rfl, _⟩ | ⟨hk, h1'⟩
    · obtain ⟨lz, ez⟩ := hro k _ h1''; cases ez
    · simp [ρ1]
    · obtain ⟨i, rfl, hi, l, l', e, hl, hd⟩ := h1 k _ h1'; cases e
  · rcases hat k _ e1 with ⟨h1', h1''⟩ | ⟨_, h1'⟩ | ⟨hk, h1'⟩
    · obtain ⟨lz, ez⟩ := hro k _ h1''
      simp only [SB.segs.injEq] at ez
      cases ez.1
    · cases h1'
    · obtain ⟨i, rfl, hi, l, l', e, hl, hd⟩ := h1 k _ h1'
      rw [hρ6] at c1 ⊢
      exact hm.clean _ _ hl c1
  · have hdm : dmOf (assoc Γ.gh) g := assoc_dm (by rw [← hgl]; exact hg)
    unfold dmOf at hdm
    obtain ⟨b', hb''⟩ := Option.isSome_iff_exists.1 hdm
    refine ⟨by unfold dmOf; rw [hup g b' hb'']; rfl, ?_, ?_⟩
    · rw [hρg g (hlow g b' hb'')]; exact (g3 g).1
    · rw [hρg g (hlow g b' hb'')]; exact (g3 g).2
  · obtain ⟨lz, vz, q0, q1, q2, _, q4⟩ := g2 g b hgb
    exact ⟨lz, vz, q0, q1, q2, hne g b hgb, q4⟩
  · unfold dmOf
    rw [hup6 _ (by omega)]
    exact h2 i hi

/-- The contract of a function that the evaluator has run. -/
theorem call_gen (hΓ : TabOk P Γ) (hgl : Γ.gl = keysOf Γ.gh) (hlow : ∀ g ∈ keysOf Γ.gh, g < 490) {f : FuncId} {fn : Func} (hf : P.funcs[f]? = some fn) (hn : (fn.name == "runtime.NumGoroutine") = false) (hb : fn.body.isNone = false)
    (ms : List Md) (spec : List AV → Option (List Prop × List RV × List (Option (List Seg))))
    (h : ∀ avs p rvs fin, spec avs = some (p, rvs, fin) → AllP p → FactA avs → ∃ args' h6 L inv, okA 600 avs args' h6 ∧ args'.length ≤ fn.ntmps ∧ VcG fin.length Γ fn L (Γ.gh ++ (490, .world) :: h6) args' (fun rvs' fin' => eqRVs rvs' rvs ∧ eqFin fin' fin) inv) : CallOk P Γ.gh f (genCtr ms spec) := by
  intro stamp args H rs rs' d vs w0 M ρ w hG hc hp hD hm
  obtain ⟨hnd0, f0, hget, hf0⟩ := genCtr_run hc
  have hnd := nodupN_iff hnd0
  generalize hks : ownKeys ms args = ks at *
  let M' : Nat → Prop := fun b => ∃ k ∈ ks, (∃ l, H k = some (.segs false l)) ∧ 0 < (ρ k).cap ∧ b = (ρ k).blk
  have hB : BanOk w0 M ρ H ks M' := ⟨fun key ro l hban hkey hc hb => by
    obtain ⟨k, hk, ⟨l', hl'⟩, hc', e⟩ := hb
    have hne : key ≠ k := fun e => by subst e; rw [memN_iff.2 hk] at hban; cases hban
    exact hm.heap.sep key k ro false l l' hkey hl' hne (.inr rfl) hc hc' e, fun b hb hnM hb' => by
    obtain ⟨k, hk, ⟨l', hl'⟩, hc', rfl⟩ := hb'
    rcases hm.own k l' hl' hc' with h | h
    · omega
    · exact hnM h, fun key k ms i hkey hi hc hb => by
    obtain ⟨k0, hk0, ⟨l', hl'⟩, hc', e⟩ := hb
    exact hm.pools.apart key k ms k0 false l' i hkey hl' hc' hi hc e.symm⟩
  obtain ⟨p, avs, rs1, hrun, hAs⟩ := getA_sound P hm hB ms args vs f0 d rs rs' hD hget
  obtain ⟨p', rvs, fin, ws, hs, hws, ho, hcase⟩ := hf0 p avs rs1 hrun
  simp only [Bool.and_eq_true] at ho
  have hsmall := Nat.le_of_ble_eq_true ho.2
  have ho := ho.1
  have hpp : AllP p ∧ AllP p' := by
    rcases hcase with ⟨_, rfl⟩ | ⟨l, _, _, rfl⟩ <;> exact AllP.append (l := p) (r := p') hp
  have hA := hAs hpp.1
  rw [hks] at hA
  have hkeys := AsD.keys avs vs ks hA
  obtain ⟨args', h6, L, inv, k1, k2, k3⟩ := h avs p' rvs fin hs hpp.2 (AsD.fact hm avs vs ks hA)
  have hM'' : ∀ b, M' b ↔ ∃ k ∈ ks, 0 < (ρ k).cap ∧ b = (ρ k).blk := fun b => ⟨fun ⟨k, a, _, c⟩ => ⟨k, a, c⟩, fun ⟨k, a, c⟩ => ⟨k, a, hkeys k a, c⟩⟩
  obtain ⟨hh1, hh2⟩ := okA_heap avs vs ks 600 args' h6 hA k1
  obtain ⟨ρ1, m1, m2, m3, m4, m5⟩ := gen_mem hG hgl hlow hm hkeys hnd hM'' hh1 hh2
  have hargs := okA_args m3 m4 avs vs ks 600 args' h6 hA k1 m5
  refine .inr ⟨f, _, GoFn.run ⟨fn, hf, hn, hb⟩ _ _, (vcG_calls hΓ hf k3 k2 m2 m1 hargs).mono fun e w' he => ?_⟩
  obtain ⟨x, v, h', ρ', rfl, r1, r2, r3, r4⟩ := he
  obtain ⟨rvs', fin', ⟨t1, t2⟩, t3, t4, t5⟩ := kvG_sound r3 r2 r1
  obtain ⟨pl, u1, u2⟩ := res_of r3 t3 t1 ho
  have hfl := finW_len hws
  obtain ⟨up1, up2⟩ := finW_upd hws hnd H
  have hρ6 : ∀ i, i < ks.length → PlLe (ρ (ks.getD i 0)) (ρ' (600 + i)) := fun i hi => by
    have := (r4 _ (m5 i hi).1).2
    rwa [(m5 i hi).2] at this
  have hmk : ∀ i, i < ks.length → ks.getD i 0 ∈ ks := fun i hi => by
    rw [List.getD_eq_getElem?_getD, List.getElem?_eq_getElem hi]
    exact List.getElem_mem hi
  have hidx : ∀ k ∈ ks, ∃ i, i < ks.length ∧ ks.getD i 0 = k := fun k hk => by
    obtain ⟨i, hi, e⟩ := List.getElem_of_mem hk
    exact ⟨i, hi, by rw [List.getD_eq_getElem?_getD, List.getElem?_eq_getElem hi]; exact e⟩
  have hMo : ∀ b, M' b → w0.heap.size ≤ b ∨ M b := fun b hb => by
    obtain ⟨k, hk, ⟨l, hl⟩, hc, rfl⟩ := hb
    exact hm.own k l hl hc
  -- the records, at the end
  have hrec : ∀ i, i < ks.length → ∀ l', fin.getD i none = some l' → ∃ l, assoc h' (600 + i) = some (.segs false l) ∧ eqSegs l l' := fun i hi l' hl' => by
    obtain ⟨l, q1, q2⟩ := eqFin_at fin' fin i t2 l' hl'
    have := finH_at fin' 600 i t4 (by omega)
    rw [q1] at this
    exact ⟨l, this, q2⟩
  have main : ∀ (T : Nat → Prop) (H' : Nat → Option SB) (ρ'' : Nat → Pl), (∀ k, T k ↔ k ∈ ks ∨ (k = stamp ∧ frOf rvs ≠ none)) → (frOf rvs ≠ none → H stamp = none) → (∀ k, k ∉ ks → k ≠ stamp → H' k = H k) → (frOf rvs = none → ∀ k, k ∉ ks → H' k = H k) →
      (∀ i, i < ks.length → H' (ks.getD i 0) = some (finB (fin.getD i none))) → (∀ l, frOf rvs = some l → H' stamp = some (.segs false l)) → (∀ k, k ≠ stamp → ρ'' k = ρ k) → (frOf rvs = none → ρ'' = ρ) → (frOf rvs ≠ none → ρ'' stamp = pl) → Mem w0 M ρ'' H' w' := by
    intro T H' ρ'' hTd hst hk1 hk2 hk3 hk4 hr1 hr2 hr3
    have hstk : frOf rvs ≠ none → stamp ∉ ks := fun hne hmem => by
      obtain ⟨l, hl⟩ := hkeys stamp hmem
      rw [hst hne] at hl; cases hl
    have hρk : ∀ k ∈ ks, ρ'' k = ρ k := fun k hk => by
      by_cases e : frOf rvs = none
      · rw [hr2 e]
      · exact hr1 k fun e' => hstk e (e' ▸ hk)
    refine Mem.merge hm r3.frame (T := T) (fun k hk => ?_) (fun k hk => ?_) (fun k hk => ?_) hMo (fun k ro l hk hkk hc hb => ?_) (fun k b hk hkb => ?_) (fun k kd ms hk e => by
      rcases (hTd k).1 hk with h | ⟨h, h2⟩
      · obtain ⟨i, hi, rfl⟩ := hidx k h
        rw [hk3 i hi] at e
        cases hfi : fin.getD i none <;> rw [hfi] at e <;> cases e
      · subst h
        cases hfr : frOf rvs with
        | none => exact h2 hfr
        | some l => rw [hk4 l hfr] at e; cases e) (fun k kd ms i hk hi h0 hb => by
      obtain ⟨k0, hk0, ⟨l0, hl0⟩, hc0, e⟩ := hb
      exact hm.pools.apart k kd ms k0 false l0 i hk hl0 hc0 hi h0 e.symm) (fun k k' l l' t1 t2 hkk e1 e2 c1 c2 => ?_)
    · have hk := fun h => hk ((hTd k).2 h)
      by_cases e : frOf rvs = none
      · exact hk2 e k fun h => hk (.inl h)
      · exact hk1 k (fun h => hk (.inl h)) fun h => hk (.inr ⟨h, e⟩)
    · by_cases e : frOf rvs = none
      · rw [hr2 e]
      · refine hr1 k fun e' => ?_
        subst e'
        unfold dmOf at hk
        rw [hst e] at hk; cases hk
    · by_cases e : k ∈ ks
      · obtain ⟨i, hi, rfl⟩ := hidx k e
        unfold dmOf; rw [hk3 i hi]; rfl
      · by_cases e' : k = stamp
        · by_cases e2 : frOf rvs = none
          · unfold dmOf at hk ⊢; rw [hk2 e2 k e]; exact hk
          · subst e'
            unfold dmOf at hk
            rw [hst e2] at hk; cases hk
        · unfold dmOf at hk ⊢; rw [hk1 k e e']; exact hk
    · obtain ⟨k0, hk0, ⟨l0, hl0⟩, hc0, e⟩ := hb
      have hne : k ≠ k0 := fun e => hk ((hTd k).2 (.inl (e ▸ hk0)))
      exact hm.heap.sep k k0 ro false l l0 hkk hl0 hne (.inr rfl) hc hc0 e
    · rcases (hTd k).1 hk with hk | ⟨rfl, hne⟩
      · obtain ⟨i, hi, rfl⟩ := hidx k hk
        rw [hk3 i hi] at hkb
        simp only [Option.some.injEq] at hkb
        subst hkb
        cases hfi : fin.getD i none with
        | none => exact ⟨⟨by simp [finB], fun _ _ => by simp [finB]⟩, fun ro l e => by cases e⟩
        | some l' =>
          refine ⟨⟨by simp [finB], fun _ _ => by simp [finB]⟩, fun ro l e => ?_⟩
          simp only [finB, SB.segs.injEq] at e
          obtain ⟨rfl, rfl⟩ := e
          obtain ⟨l1, q1, q2⟩ := hrec i hi l' hfi
          obtain ⟨cs, s1, s2, s3, s4⟩ := r3.segs q1
          rw [hρk _ hk, ← (hρ6 i hi).blk, ← (hρ6 i hi).off, ← (hρ6 i hi).cap]
          refine ⟨rfl, ⟨cs, eqSegs_D l1 l' cs q2 s1, s2, s3, s4 rfl⟩, fun hc => ⟨r3.heap.lt _ _ _ q1 hc, ?_, r3.clean _ _ q1 hc⟩⟩
          exact r3.own _ _ q1 hc
      · cases hfr : frOf rvs with
        | none => exact absurd hfr hne
        | some l0 =>
          rw [hk4 l0 hfr] at hkb
          simp only [Option.some.injEq] at hkb
          subst hkb
          refine ⟨⟨by simp, fun _ _ => by simp⟩, fun ro l e => ?_⟩
          simp only [SB.segs.injEq] at e
          obtain ⟨rfl, rfl⟩ := e
          obtain ⟨cs, s1, s2, s3, s4, s5⟩ := u1 l0 hfr
          rw [hr3 hne]
          refine ⟨rfl, ⟨cs, s1, s2, s3, s4⟩, fun hc => ?_⟩
          obtain ⟨key, lk, z1, z2, z3, z4⟩ := s5 hc
          rw [z3]
          exact ⟨r3.heap.lt key _ _ z2 z4, r3.own key _ z2 z4, r3.clean key _ z2 z4⟩
    · have hone : ∀ k l, k ∈ ks → H' k = some (.segs false l) → 0 < (ρ'' k).cap → ∃ i, i < ks.length ∧ ks.getD i 0 = k ∧ ∃ l1, assoc h' (600 + i) = some (.segs false l1) ∧ (ρ'' k).blk = (ρ' (600 + i)).blk ∧ (ρ'' k).cap = (ρ' (600 + i)).cap := fun k l hk e c => by
        obtain ⟨i, hi, rfl⟩ := hidx k hk
        rw [hk3 i hi] at e
        simp only [Option.some.injEq] at e
        cases hfi : fin.getD i none with
        | none => rw [hfi] at e; cases e
        | some l' =>
          obtain ⟨l1, q1, q2⟩ := hrec i hi l' hfi
          exact ⟨i, hi, rfl, l1, q1, by rw [hρk _ hk, (hρ6 i hi).blk], by rw [hρk _ hk, (hρ6 i hi).cap]⟩
      have hfr : ∀ l, frOf rvs ≠ none → H' stamp = some (.segs false l) → 0 < (ρ'' stamp).cap → ∃ key l', 1000 ≤ key ∧ assoc h' key = some (.segs false l') ∧ (ρ'' stamp).blk = (ρ' key).blk ∧ 0 < (ρ' key).cap := fun l hne e c => by
        cases hfr : frOf rvs with
        | none => exact absurd hfr hne
        | some l0 =>
          obtain ⟨cs, s1, s2, s3, s4, s5⟩ := u1 l0 hfr
          rw [hr3 hne] at c ⊢
          exact s5 c
      rcases (hTd k).1 t1 with hk | ⟨rfl, hne⟩
      · obtain ⟨i, hi, rfl, la, q1, q2⟩ := hone k l hk e1 c1
        rcases (hTd k').1 t2 with hk' | ⟨rfl, hne⟩
        · obtain ⟨i', hi', rfl, lb, q1', q2'⟩ := hone k' l' hk' e2 c2
          rw [q2.2] at c1
          rw [q2'.2] at c2
          rw [q2.1, q2'.1]
          exact r3.heap.sep _ _ false false la lb q1 q1' (fun e => hkk (by rw [show i = i' by omega])) (.inl rfl) c1 c2
        · obtain ⟨key, lk, z1, z2, z3, z4⟩ := hfr l' hne e2 c2
          rw [q2.2] at c1
          rw [q2.1]
          rw [z3]
          by_cases e : 600 + i = key
          · exfalso
            omega
          · exact r3.heap.sep _ _ false false la lk q1 z2 e (.inl rfl) c1 z4
      · obtain ⟨key, lk, z1, z2, z3, z4⟩ := hfr l hne e1 c1
        rcases (hTd k').1 t2 with hk' | ⟨rfl, _⟩
        · obtain ⟨i', hi', rfl, lb, q1', q2'⟩ := hone k' l' hk' e2 c2
          rw [q2'.2] at c2
          rw [q2'.1]
          rw [z3]
          by_cases e : 600 + i' = key
          · exfalso
            omega
          · exact r3.heap.sep _ _ false false lk lb z2 q1' (Ne.symm e) (.inl rfl) z4 c2
        · exact absurd rfl hkk
  rcases hcase with ⟨hfn, rfl⟩ | ⟨l, hfs, hst, rfl⟩
  · refine ⟨v, rfl, ρ, .refl _ _, u2 _ _ _ (fun h => absurd hfn h), ?_⟩
    exact main (fun k => k ∈ ks ∨ (k = stamp ∧ frOf rvs ≠ none)) _ ρ (fun k => .rfl) (fun h => absurd hfn h) (fun k hk _ => up1 k hk) (fun _ k hk => up1 k hk) up2 (fun l hl => by rw [hfn] at hl; cases hl) (fun _ _ => rfl) (fun _ => rfl) (fun h => absurd hfn h)
  · have hstk : stamp ∉ ks := fun hmem => by
      obtain ⟨l, hl⟩ := hkeys stamp hmem
      rw [hst] at hl; cases hl
    obtain ⟨up1', up2'⟩ := finW_upd hws hnd (updH H stamp (.segs false l))
    have hne : frOf rvs ≠ none := by rw [hfs]; simp
    have hH : ∀ k, updsH H ((stamp, .segs false l) :: ws) k = updsH (updH H stamp (.segs false l)) ws k := fun k => rfl
    have hstv : updsH H ((stamp, .segs false l) :: ws) stamp = some (.segs false l) := by rw [hH, up1' stamp hstk, updH_same]
    refine ⟨v, rfl, updP ρ stamp pl, updP_keeps hst, u2 _ _ _ (fun _ => ⟨by unfold dmOf; rw [hstv]; rfl, updP_same _ _ _⟩), ?_⟩
    exact main (fun k => k ∈ ks ∨ (k = stamp ∧ frOf rvs ≠ none)) _ (updP ρ stamp pl) (fun k => .rfl) (fun _ => hst) (fun k hk hks => by rw [hH, up1' k hk, updH_ne hks]) (fun h => absurd h hne) (fun i hi => by rw [hH]; exact up2' i hi) (fun l' hl => by rw [hfs] at hl; simp only [Option.some.injEq] at hl; subst hl; exact hstv) (fun k hk => updP_ne hk) (fun h => absurd h hne) (fun _ => updP_same _ _ _)

end
end Go.Gx
