/- Part 5 of the proof: the evaluator of the code, its soundness, and what it shows of the functions. -/
import Derived.Test.YtihihilhfijloaaDoorM4

/- Size and Sum of a record. -/
namespace Go.Sp
open Go.Gx
def hin (n : Int) : Int := IntKind.u64.wrap n * 8 / 18446744073709551616
def lon (n : Int) : Int := IntKind.u64.wrap n * 8 % 18446744073709551616
def setlen (b : List Int) (n : Int) : List Int := ((((((((((((((((b).set 119 (IntKind.u8.wrap (shrI .u64 (hin n) 0))).set 127 (IntKind.u8.wrap (shrI .u64 (lon n) 0))).set 118 (IntKind.u8.wrap (shrI .u64 (hin n) 8))).set 126 (IntKind.u8.wrap (shrI .u64 (lon n) 8))).set 117 (IntKind.u8.wrap (shrI .u64 (hin n) 16))).set 125 (IntKind.u8.wrap (shrI .u64 (lon n) 16))).set 116 (IntKind.u8.wrap (shrI .u64 (hin n) 24))).set 124 (IntKind.u8.wrap (shrI .u64 (lon n) 24))).set 115 (IntKind.u8.wrap (shrI .u64 (hin n) 32))).set 123 (IntKind.u8.wrap (shrI .u64 (lon n) 32))).set 114 (IntKind.u8.wrap (shrI .u64 (hin n) 40))).set 122 (IntKind.u8.wrap (shrI .u64 (lon n) 40))).set 113 (IntKind.u8.wrap (shrI .u64 (hin n) 48))).set 121 (IntKind.u8.wrap (shrI .u64 (lon n) 48))).set 112 (IntKind.u8.wrap (shrI .u64 (hin n) 56))).set 120 (IntKind.u8.wrap (shrI .u64 (lon n) 56))
def endb (bl : List Int) (n : Int) : List Int := (splice bl (n.tmod 128).toNat (List.replicate (128 - n.tmod 128).toNat 0)).set (n.tmod 128).toNat 128
def finw (ws bl : List Int) (n : Int) : List Int :=
 if n.tmod 128 ≥ 112 then compr (compr ws (endb bl n)) (setlen (splice (endb bl n) 0 (List.replicate 128 0)) n) else compr ws (setlen (endb bl n) n)
def outb (w : List Int) : List Int := ((((((((((((((((((((((((((((((((((((((((((((((((((((((((((((((((List.replicate 64 (0 : Int)).set 0 (IntKind.u8.wrap (shrI .u64 (w.getD 0 0) 56))).set 1 (IntKind.u8.wrap (shrI .u64 (w.getD 0 0) 48))).set 2 (IntKind.u8.wrap (shrI .u64 (w.getD 0 0) 40))).set 3 (IntKind.u8.wrap (shrI .u64 (w.getD 0 0) 32))).set 4 (IntKind.u8.wrap (shrI .u64 (w.getD 0 0) 24))).set 5 (IntKind.u8.wrap (shrI .u64 (w.getD 0 0) 16))).set 6 (IntKind.u8.wrap (shrI .u64 (w.getD 0 0) 8))).set 7 (IntKind.u8.wrap (shrI .u64 (w.getD 0 0) 0))).set 8 (IntKind.u8.wrap (shrI .u64 (w.getD 1 0) 56))).set 9 (IntKind.u8.wrap (shrI .u64 (w.getD 1 0) 48))).set 10 (IntKind.u8.wrap (shrI .u64 (w.getD 1 0) 40))).set 11 (IntKind.u8.wrap (shrI .u64 (w.getD 1 0) 32))).set 12 (IntKind.u8.wrap (shrI .u64 (w.getD 1 0) 24))).set 13 (IntKind.u8.wrap (shrI .u64 (w.getD 1 0) 16))).set 14 (IntKind.u8.wrap (shrI .u64 (w.getD 1 0) 8))).set 15 (IntKind.u8.wrap (shrI .u64 (w.getD 1 0) 0))).set 16 (IntKind.u8.wrap (shrI .u64 (w.getD 2 0) 56))).set 17 (IntKind.u8.wrap (shrI .u64 (w.getD 2 0) 48))).set 18 (IntKind.u8.wrap (shrI .u64 (w.getD 2 0) 40))).set 19 (IntKind.u8.wrap (shrI .u64 (w.getD 2 0) 32))).set 20 (IntKind.u8.wrap (shrI .u64 (w.getD 2 0) 24))).set 21 (IntKind.u8.wrap (shrI .u64 (w.getD 2 0) 16))).set 22 (IntKind.u8.wrap (shrI .u64 (w.getD 2 0) 8))).set 23 (IntKind.u8.wrap (shrI .u64 (w.getD 2 0) 0))).set 24 (IntKind.u8.wrap (shrI .u64 (w.getD 3 0) 56))).set 25 (IntKind.u8.wrap (shrI .u64 (w.getD 3 0) 48))).set 26 (IntKind.u8.wrap (shrI .u64 (w.getD 3 0) 40))).set 27 (IntKind.u8.wrap (shrI .u64 (w.getD 3 0) 32))).set 28 (IntKind.u8.wrap (shrI .u64 (w.getD 3 0) 24))).set 29 (IntKind.u8.wrap (shrI .u64 (w.getD 3 0) 16))).set 30 (IntKind.u8.wrap (shrI .u64 (w.getD 3 0) 8))).set 31 (IntKind.u8.wrap (shrI .u64 (w.getD 3 0) 0))).set 32 (IntKind.u8.wrap (shrI .u64 (w.getD 4 0) 56))).set 33 (IntKind.u8.wrap (shrI .u64 (w.getD 4 0) 48))).set 34 (IntKind.u8.wrap (shrI .u64 (w.getD 4 0) 40))).set 35 (IntKind.u8.wrap (shrI .u64 (w.getD 4 0) 32))).set 36 (IntKind.u8.wrap (shrI .u64 (w.getD 4 0) 24))).set 37 (IntKind.u8.wrap (shrI .u64 (w.getD 4 0) 16))).set 38 (IntKind.u8.wrap (shrI .u64 (w.getD 4 0) 8))).set 39 (IntKind.u8.wrap (shrI .u64 (w.getD 4 0) 0))).set 40 (IntKind.u8.wrap (shrI .u64 (w.getD 5 0) 56))).set 41 (IntKind.u8.wrap (shrI .u64 (w.getD 5 0) 48))).set 42 (IntKind.u8.wrap (shrI .u64 (w.getD 5 0) 40))).set 43 (IntKind.u8.wrap (shrI .u64 (w.getD 5 0) 32))).set 44 (IntKind.u8.wrap (shrI .u64 (w.getD 5 0) 24))).set 45 (IntKind.u8.wrap (shrI .u64 (w.getD 5 0) 16))).set 46 (IntKind.u8.wrap (shrI .u64 (w.getD 5 0) 8))).set 47 (IntKind.u8.wrap (shrI .u64 (w.getD 5 0) 0))).set 48 (IntKind.u8.wrap (shrI .u64 (w.getD 6 0) 56))).set 49 (IntKind.u8.wrap (shrI .u64 (w.getD 6 0) 48))).set 50 (IntKind.u8.wrap (shrI .u64 (w.getD 6 0) 40))).set 51 (IntKind.u8.wrap (shrI .u64 (w.getD 6 0) 32))).set 52 (IntKind.u8.wrap (shrI .u64 (w.getD 6 0) 24))).set 53 (IntKind.u8.wrap (shrI .u64 (w.getD 6 0) 16))).set 54 (IntKind.u8.wrap (shrI .u64 (w.getD 6 0) 8))).set 55 (IntKind.u8.wrap (shrI .u64 (w.getD 6 0) 0))).set 56 (IntKind.u8.wrap (shrI .u64 (w.getD 7 0) 56))).set 57 (IntKind.u8.wrap (shrI .u64 (w.getD 7 0) 48))).set 58 (IntKind.u8.wrap (shrI .u64 (w.getD 7 0) 40))).set 59 (IntKind.u8.wrap (shrI .u64 (w.getD 7 0) 32))).set 60 (IntKind.u8.wrap (shrI .u64 (w.getD 7 0) 24))).set 61 (IntKind.u8.wrap (shrI .u64 (w.getD 7 0) 16))).set 62 (IntKind.u8.wrap (shrI .u64 (w.getD 7 0) 8))).set 63 (IntKind.u8.wrap (shrI .u64 (w.getD 7 0) 0))
def sumL (ws bl : List Int) (n : Int) (m : Bool) : List Int := if m = true then outb (finw ws bl n) else List.replicate 64 0
def sizeL (n : Int) (m : Bool) : Int := if m = true then n else 0
end Go.Sp
namespace Go.Gx
open Go.Proofs Go.Sp
set_option linter.unusedVariables false

set_option maxRecDepth 100000 in
theorem out_law {w : List Int} {x0 x1 x2 x3 x4 x5 x6 x7 x8 x9 x10 x11 x12 x13 x14 x15 x16 x17 x18 x19 x20 x21 x22 x23 x24 x25 x26 x27 x28 x29 x30 x31 x32 x33 x34 x35 x36 x37 x38 x39 x40 x41 x42 x43 x44 x45 x46 x47 x48 x49 x50 x51 x52 x53 x54 x55 x56 x57 x58 x59 x60 x61 x62 x63 x64 x65 x66 x67 x68 x69 x70 x71 x72 x73 x74 x75 x76 x77 x78 x79 x80 x81 x82 x83 x84 x85 x86 x87 x88 x89 x90 x91 x92 x93 x94 x95 x96 x97 x98 x99 x100 x101 x102 x103 x104 x105 x106 x107 x108 x109 x110 x111 x112 x113 x114 x115 x116 x117 x118 x119 x120 x121 x122 x123 x124 x125 x126 x127 : Int} (e0 : x0 = shrI .u64 (w.getD 0 0) 56) (e1 : x1 = IntKind.u8.wrap x0) (e2 : x2 = shrI .u64 (w.getD 0 0) 48) (e3 : x3 = IntKind.u8.wrap x2) (e4 : x4 = shrI .u64 (w.getD 0 0) 40) (e5 : x5 = IntKind.u8.wrap x4) (e6 : x6 = shrI .u64 (w.getD 0 0) 32) (e7 : x7 = IntKind.u8.wrap x6) (e8 : x8 = shrI .u64 (w.getD 0 0) 24) (e9 : x9 = IntKind.u8.wrap x8) (e10 : x10 = shrI .u64 (w.getD 0 0) 16) (e11 : x11 = IntKind.u8.wrap x10) (e12 : x12 = shrI .u64 (w.getD 0 0) 8) (e13 : x13 = IntKind.u8.wrap x12) (e14 : x14 = shrI .u64 (w.getD 0 0) 0) (e15 : x15 = IntKind.u8.wrap x14) (e16 : x16 = shrI .u64 (w.getD 1 0) 56) (e17 : x17 = IntKind.u8.wrap x16) (e18 : x18 = shrI .u64 (w.getD 1 0) 48) (e19 : x19 = IntKind.u8.wrap x18) (e20 : x20 = shrI .u64 (w.getD 1 0) 40) (e21 : x21 = IntKind.u8.wrap x20) (e22 : x22 = shrI .u64 (w.getD 1 0) 32) (e23 : x23 = IntKind.u8.wrap x22) (e24 : x24 = shrI .u64 (w.getD 1 0) 24) (e25 : x25 = IntKind.u8.wrap x24) (e26 : x26 = shrI .u64 (w.getD 1 0) 16) (e27 : x27 = IntKind.u8.wrap x26) (e28 : x28 = shrI .u64 (w.getD 1 0) 8) (e29 : x29 = IntKind.u8.wrap x28) (e30 : x30 = shrI .u64 (w.getD 1 0) 0) (e31 : x31 = IntKind.u8.wrap x30) (e32 : x32 = shrI .u64 (w.getD 2 0) 56) (e33 : x33 = IntKind.u8.wrap x32) (e34 : x34 = shrI .u64 (w.getD 2 0) 48) (e35 : x35 = IntKind.u8.wrap x34) (e36 : x36 = shrI .u64 (w.getD 2 0) 40) (e37 : x37 = IntKind.u8.wrap x36) (e38 : x38 = shrI .u64 (w.getD 2 0) 32) (e39 : x39 = IntKind.u8.wrap x38) (e40 : x40 = shrI .u64 (w.getD 2 0) 24) (e41 : x41 = IntKind.u8.wrap x40) (e42 : x42 = shrI .u64 (w.getD 2 0) 16) (e43 : x43 = IntKind.u8.wrap x42) (e44 : x44 = shrI .u64 (w.getD 2 0) 8) (e45 : x45 = IntKind.u8.wrap x44) (e46 : x46 = shrI .u64 (w.getD 2 0) 0) (e47 : x47 = IntKind.u8.wrap x46) (e48 : x48 = shrI .u64 (w.getD 3 0) 56) (e49 : x49 = IntKind.u8.wrap x48) (e50 : x50 = shrI .u64 (w.getD 3 0) 48) (e51 : x51 = IntKind.u8.wrap x50) (e52 : x52 = shrI .u64 (w.getD 3 0) 40) (e53 : x53 = IntKind.u8.wrap x52) (e54 : x54 = shrI .u64 (w.getD 3 0) 32) (e55 : x55 = IntKind.u8.wrap x54) (e56 : x56 = shrI .u64 (w.getD 3 0) 24) (e57 : x57 = IntKind.u8.wrap x56) (e58 : x58 = shrI .u64 (w.getD 3 0) 16) (e59 : x59 = IntKind.u8.wrap x58) (e60 : x60 = shrI .u64 (w.getD 3 0) 8) (e61 : x61 = IntKind.u8.wrap x60) (e62 : x62 = shrI .u64 (w.getD 3 0) 0) (e63 : x63 = IntKind.u8.wrap x62) (e64 : x64 = shrI .u64 (w.getD 4 0) 56) (e65 : x65 = IntKind.u8.wrap x64) (e66 : x66 = shrI .u64 (w.getD 4 0) 48) (e67 : x67 = IntKind.u8.wrap x66) (e68 : x68 = shrI .u64 (w.getD 4 0) 40) (e69 : x69 = IntKind.u8.wrap x68) (e70 : x70 = shrI .u64 (w.getD 4 0) 32) (e71 : x71 = IntKind.u8.wrap x70) (e72 : x72 = shrI .u64 (w.getD 4 0) 24) (e73 : x73 = IntKind.u8.wrap x72) (e74 : x74 = shrI .u64 (w.getD 4 0) 16) (e75 : x75 = IntKind.u8.wrap x74) (e76 : x76 = shrI .u64 (w.getD 4 0) 8) (e77 : x77 = IntKind.u8.wrap x76) (e78 : x78 = shrI .u64 (w.getD 4 0) 0) (e79 : x79 = IntKind.u8.wrap x78) (e80 : x80 = shrI .u64 (w.getD 5 0) 56) (e81 : x81 = IntKind.u8.wrap x80) (e82 : x82 = shrI .u64 (w.getD 5 0) 48) (e83 : x83 = IntKind.u8.wrap x82) (e84 : x84 = shrI .u64 (w.getD 5 0) 40) (e85 : x85 = IntKind.u8.wrap x84) (e86 : x86 = shrI .u64 (w.getD 5 0) 32) (e87 : x87 = IntKind.u8.wrap x86) (e88 : x88 = shrI .u64 (w.getD 5 0) 24) (e89 : x89 = IntKind.u8.wrap x88) (e90 : x90 = shrI .u64 (w.getD 5 0) 16) (e91 : x91 = IntKind.u8.wrap x90) (e92 : x92 = shrI .u64 (w.getD 5 0) 8) (e93 : x93 = IntKind.u8.wrap x92) (e94 : x94 = shrI .u64 (w.getD 5 0) 0) (e95 : x95 = IntKind.u8.wrap x94) (e96 : x96 = shrI .u64 (w.getD 6 0) 56) (e97 : x97 = IntKind.u8.wrap x96) (e98 : x98 = shrI .u64 (w.getD 6 0) 48) (e99 : x99 = IntKind.u8.wrap x98) (e100 : x100 = shrI .u64 (w.getD 6 0) 40) (e101 : x101 = IntKind.u8.wrap x100) (e102 : x102 = shrI .u64 (w.getD 6 0) 32) (e103 : x103 = IntKind.u8.wrap x102) (e104 : x104 = shrI .u64 (w.getD 6 0) 24) (e105 : x105 = IntKind.u8.wrap x104) (e106 : x106 = shrI .u64 (w.getD 6 0) 16) (e107 : x107 = IntKind.u8.wrap x106) (e108 : x108 = shrI .u64 (w.getD 6 0) 8) (e109 : x109 = IntKind.u8.wrap x108) (e110 : x110 = shrI .u64 (w.getD 6 0) 0) (e111 : x111 = IntKind.u8.wrap x110) (e112 : x112 = shrI .u64 (w.getD 7 0) 56) (e113 : x113 = IntKind.u8.wrap x112) (e114 : x114 = shrI .u64 (w.getD 7 0) 48) (e115 : x115 = IntKind.u8.wrap x114) (e116 : x116 = shrI .u64 (w.getD 7 0) 40) (e117 : x117 = IntKind.u8.wrap x116) (e118 : x118 = shrI .u64 (w.getD 7 0) 32) (e119 : x119 = IntKind.u8.wrap x118) (e120 : x120 = shrI .u64 (w.getD 7 0) 24) (e121 : x121 = IntKind.u8.wrap x120) (e122 : x122 = shrI .u64 (w.getD 7 0) 16) (e123 : x123 = IntKind.u8.wrap x122) (e124 : x124 = shrI .u64 (w.getD 7 0) 8) (e125 : x125 = IntKind.u8.wrap x124) (e126 : x126 = shrI .u64 (w.getD 7 0) 0) (e127 : x127 = IntKind.u8.wrap x126) : ((((((((((((((((((((((((((((((((((((((((((((((((((((((((((((((((List.replicate 64 (0 : Int)).set 0 x1).set 1 x3).set 2 x5).set 3 x7).set 4 x9).set 5 x11).set 6 x13).set 7 x15).set 8 x17).set 9 x19).set 10 x21).set 11 x23).set 12 x25).set 13 x27).set 14 x29).set 15 x31).set 16 x33).set 17 x35).set 18 x37).set 19 x39).set 20 x41).set 21 x43).set 22 x45).set 23 x47).set 24 x49).set 25 x51).set 26 x53).set 27 x55).set 28 x57).set 29 x59).set 30 x61).set 31 x63).set 32 x65).set 33 x67).set 34 x69).set 35 x71).set 36 x73).set 37 x75).set 38 x77).set 39 x79).set 40 x81).set 41 x83).set 42 x85).set 43 x87).set 44 x89).set 45 x91).set 46 x93).set 47 x95).set 48 x97).set 49 x99).set 50 x101).set 51 x103).set 52 x105).set 53 x107).set 54 x109).set 55 x111).set 56 x113).set 57 x115).set 58 x117).set 59 x119).set 60 x121).set 61 x123).set 62 x125).set 63 x127 = outb w := by
 subst e0 e1 e2 e3 e4 e5 e6 e7 e8 e9 e10 e11 e12 e13 e14 e15 e16 e17 e18 e19 e20 e21 e22 e23 e24 e25 e26 e27 e28 e29 e30 e31 e32 e33 e34 e35 e36 e37 e38 e39 e40 e41 e42 e43 e44 e45 e46 e47 e48 e49 e50 e51 e52 e53 e54 e55 e56 e57 e58 e59 e60 e61 e62 e63 e64 e65 e66 e67 e68 e69 e70 e71 e72 e73 e74 e75 e76 e77 e78 e79 e80 e81 e82 e83 e84 e85 e86 e87 e88 e89 e90 e91 e92 e93 e94 e95 e96 e97 e98 e99 e100 e101 e102 e103 e104 e105 e106 e107 e108 e109 e110 e111 e112 e113 e114 e115 e116 e117 e118 e119 e120 e121 e122 e123 e124 e125 e126 e127
 rfl
theorem len_law {b : List Int} {n : Int} {x0 x1 x2 x3 x4 x5 x6 x7 x8 x9 x10 x11 x12 x13 x14 x15 x16 x17 x18 x19 x20 x21 x22 x23 x24 x25 x26 x27 x28 x29 x30 x31 : Int} (e0 : x0 = shrI .u64 (hin n) 0) (e1 : x1 = IntKind.u8.wrap x0) (e2 : x2 = shrI .u64 (lon n) 0) (e3 : x3 = IntKind.u8.wrap x2) (e4 : x4 = shrI .u64 (hin n) 8) (e5 : x5 = IntKind.u8.wrap x4) (e6 : x6 = shrI .u64 (lon n) 8) (e7 : x7 = IntKind.u8.wrap x6) (e8 : x8 = shrI .u64 (hin n) 16) (e9 : x9 = IntKind.u8.wrap x8) (e10 : x10 = shrI .u64 (lon n) 16) (e11 : x11 = IntKind.u8.wrap x10) (e12 : x12 = shrI .u64 (hin n) 24) (e13 : x13 = IntKind.u8.wrap x12) (e14 : x14 = shrI .u64 (lon n) 24) (e15 : x15 = IntKind.u8.wrap x14) (e16 : x16 = shrI .u64 (hin n) 32) (e17 : x17 = IntKind.u8.wrap x16) (e18 : x18 = shrI .u64 (lon n) 32) (e19 : x19 = IntKind.u8.wrap x18) (e20 : x20 = shrI .u64 (hin n) 40) (e21 : x21 = IntKind.u8.wrap x20) (e22 : x22 = shrI .u64 (lon n) 40) (e23 : x23 = IntKind.u8.wrap x22) (e24 : x24 = shrI .u64 (hin n) 48) (e25 : x25 = IntKind.u8.wrap x24) (e26 : x26 = shrI .u64 (lon n) 48) (e27 : x27 = IntKind.u8.wrap x26) (e28 : x28 = shrI .u64 (hin n) 56) (e29 : x29 = IntKind.u8.wrap x28) (e30 : x30 = shrI .u64 (lon n) 56) (e31 : x31 = IntKind.u8.wrap x30) : ((((((((((((((((b).set 119 x1).set 127 x3).set 118 x5).set 126 x7).set 117 x9).set 125 x11).set 116 x13).set 124 x15).set 115 x17).set 123 x19).set 114 x21).set 122 x23).set 113 x25).set 121 x27).set 112 x29).set 120 x31 = setlen b n := by
 subst e0 e1 e2 e3 e4 e5 e6 e7 e8 e9 e10 e11 e12 e13 e14 e15 e16 e17 e18 e19 e20 e21 e22 e23 e24 e25 e26 e27 e28 e29 e30 e31
 rfl

end Go.Gx

/- Size and Sum of nil; the table so far. -/
namespace Go.Gx
open Go.Proofs Go.Sp
set_option linter.unusedVariables false

def Γ5 : Tab := Γ4
theorem Γ5_ok : TabOk Tryd.prog Γ5 := Γ4_ok
end Go.Gx

/- Contracts of methods that turn a record and read slices. -/
namespace Go.Gx
open Go.RowKit
set_option linter.unusedVariables false

section
variable {P : Program} {Γ : Tab}

theorem con_est {est : Nat} {q : Con} (h : ∃ g off len p, conSeg g est off len = some (p, q)) : conSize q = est := by
 obtain ⟨g, off, len, p, h⟩ := h
 cases g <;> simp only [conSeg] at h
 ·cases h
 ·split at h
  ·rename_i e _; simp only [Option.some.injEq, Prod.mk.injEq] at h; rw [← h.2]; exact (Nat.eq_of_beq_eq_true e).symm
  ·cases h
 ·split at h
  ·rename_i e; simp only [Option.some.injEq, Prod.mk.injEq] at h; rw [← h.2]; exact (Nat.eq_of_beq_eq_true e).symm
  ·cases h
 ·split at h
  ·rename_i e; simp only [Option.some.injEq, Prod.mk.injEq] at h; rw [← h.2]; exact (Nat.eq_of_beq_eq_true e).symm
  ·cases h
 ·cases h
 ·cases h

theorem withCon_more {w0 : World} {M : Nat → Prop} {ρ : Nat → Pl} {H : Nat → Option SB} {w : World} (hm : Mem w0 M ρ H w) {key c est : Nat} {off len : SI} {v : Value} (hx : D (dmOf H) ρ (.sl key c est off len) v) {f : List Prop → Con → RP Delta} {d : Delta} {rs rs' : List Nat} (h : (withCon (.sl key c est off len) f).run H rs = some (d, rs')) :
  ∃ p q rs1, (f p q).run H rs1 = some (d, rs') ∧ (AllP p → ConAt P w v q) ∧ ∃ ro l, H key = some (.segs ro l) ∧ ∃ g off len p, conSeg g est off len = some (p, q) := by
 have h0 := h
 unfold withCon at h
 simp only [RP.run] at h
 split at h
 ·rename_i ro l hkey
  split at h
  ·rename_i g hs
   split at h
   ·rename_i p q hq
    obtain ⟨p', q', rs1, a1, a2⟩ := withCon_sound (P := P) hm hx (f := fun p' q' => .ret ⟨[q' = q ∧ p' = p], .any, [], false⟩) (d := ⟨[q = q ∧ p = p], .any, [], false⟩) (rs := rs) (rs' := key :: rs) (by
     unfold withCon
     simp only [RP.run, hkey, hs, hq])
    simp only [RP.run, Option.some.injEq, Prod.mk.injEq, Delta.mk.injEq, List.cons.injEq, and_true] at a1
    have e : (q' = q ∧ p' = p) := by have e0 := a1.1; simp only [eq_iff_iff, iff_true] at e0; exact e0
    obtain ⟨rfl, rfl⟩ := e
    exact ⟨p', q', _, h, a2, ro, l, hkey, g, off, len, p', hq⟩
   ·simp [RP.run] at h
  ·simp [RP.run] at h
 ·simp [RP.run] at h

end
end Go.Gx

/- Write, Reset, Clone of nil. -/
namespace Go.Sp
open Go.Gx
structure HS where
 ws : List Int
 bl : List Int
 n : Int
def stp (s : HS) (c : Int) : HS := ⟨if (s.n % 128).toNat = 127 then compr s.ws (s.bl.set 127 c) else s.ws, s.bl.set (s.n % 128).toNat c, s.n + 1⟩
def feed : List Int → HS → HS
 | [], s => s
 | c :: r, s => feed r (stp s c)
def wr (m : Bool) (s : HS) (b : List Int) : HS := if m = true ∧ (b.length : Int) ≤ 1152921504606846976 - s.n then feed b s else s
end Go.Sp
namespace Go.Gx
open Go.Proofs Go.Sp
set_option linter.unusedVariables false
set_option maxRecDepth 100000

theorem feed_append : ∀ (a b : List Int) (s : HS), feed (a ++ b) s = feed b (feed a s)
 | [], b, s => rfl
 | c :: r, b, s => by rw [List.cons_append, feed, feed, feed_append r b]
theorem feed_n : ∀ (b : List Int) (s : HS), (feed b s).n = s.n + (b.length : Int)
 | [], s => by simp [feed]
 | c :: r, s => by rw [feed, feed_n r]; simp [stp]; omega
theorem feed_bl : ∀ (b : List Int) (s : HS), (feed b s).bl.length = s.bl.length
 | [], s => rfl
 | c :: r, s => by rw [feed, feed_bl r]; simp [stp]
theorem splice_nil (l : List Int) (j : Nat) (h : j ≤ l.length) : splice l j [] = l := by simp [splice]
theorem splice_cons (l : List Int) (j : Nat) (c : Int) (r : List Int) (h : j < l.length) : splice (l.set j c) (j + 1) r = splice l j (c :: r) := by
 unfold splice
 have h1 : (l.set j c).take (j + 1) = l.take j ++ [c] := by
  rw [List.take_set]
  rw [List.take_add_one, List.getElem?_eq_getElem h]
  simp only [Option.toList_some]
  rw [List.set_append_right _ _ (by simp; omega)]
  simp [Nat.min_eq_left (Nat.le_of_lt h)]
 rw [h1, List.drop_set_of_lt (by omega)]
 simp [List.append_assoc, Nat.add_comm, Nat.add_left_comm]
theorem feed_chunk : ∀ (t : List Int) (s : HS), 0 ≤ s.n → s.bl.length = 128 → (s.n % 128).toNat + t.length ≤ 128 → t ≠ [] →
  feed t s = ⟨if (s.n % 128).toNat + t.length = 128 then compr s.ws (splice s.bl (s.n % 128).toNat t) else s.ws, splice s.bl (s.n % 128).toNat t, s.n + (t.length : Int)⟩
 | [], s, _, _, _, h => absurd rfl h
 | [c], s, h0, hb, hl, _ => by
  have hlt : (s.n % 128).toNat < s.bl.length := by rw [hb]; omega
  have e : splice s.bl (s.n % 128).toNat [c] = s.bl.set (s.n % 128).toNat c := by
   rw [← splice_cons _ _ _ _ hlt, splice_nil _ _ (by rw [List.length_set]; omega)]
  rw [feed, feed, e]
  unfold stp
  by_cases h7 : (s.n % 128).toNat = 127
  ·rw [h7]; simp
  ·have : ¬ ((s.n % 128).toNat + [c].length = 128) := by simp; omega
   rw [if_neg h7, if_neg this]
   simp
 | c :: d :: r, s, h0, hb, hl, _ => by
  have hl' : (s.n % 128).toNat + (r.length + 2) ≤ 128 := by simpa using hl
  have h7 : ¬ (s.n % 128).toNat = 127 := by omega
  have hst : stp s c = ⟨s.ws, s.bl.set (s.n % 128).toNat c, s.n + 1⟩ := by unfold stp; rw [if_neg h7]
  have hm : ((s.n + 1) % 128).toNat = (s.n % 128).toNat + 1 := by omega
  rw [feed, hst, feed_chunk (d :: r) _ (by show 0 ≤ s.n + 1; omega) (by show (s.bl.set _ c).length = 128; rw [List.length_set]; exact hb) (by show ((s.n + 1) % 128).toNat + (d :: r).length ≤ 128; rw [hm]; simp; omega) (by simp)]
  show HS.mk _ _ _ = _
  dsimp only
  rw [hm, splice_cons _ _ _ _ (by rw [hb]; omega)]
  simp only [List.length_cons]
  by_cases h8 : (s.n % 128).toNat + (r.length + 1 + 1) = 128
  ·rw [if_pos h8, if_pos (by omega)]
   congr 1
   push_cast; omega
  ·rw [if_neg h8, if_neg (by omega)]
   congr 1
   push_cast; omega

end Go.Gx

/- Contracts in general: arguments that are values, data that is only read, records and rows of the caller's; answers that are values, fresh rows, fresh records. -/
namespace Go.Gx
open Go.RowKit
set_option linter.unusedVariables false

inductive Md where
 | v
 | d (sh : Sh)
 | m
 | o

inductive AV where
 | v (x : SV)
 | d (sh : Sh) (d : RO)
 | m (l : List Seg)
 | o (q : Con)

inductive RV where
 | v (x : SV)
 | row (q : Con)
 | ptr (l : List Seg)

def onesOf : List Seg → Option (List SV)
 | [] => some []
 | .one x :: r => (match onesOf r with | some xs => some (x :: xs) | none => none)
 | _ => none

def eachRO (g : SV → (List Prop → RO → RP Delta) → RP Delta) : List SV → (List Prop → List RO → RP Delta) → RP Delta
 | [], f => f [] []
 | x :: r, f => g x fun p d => eachRO g r fun p' ds => f (p ++ p') (d :: ds)

def hdrRO (k : IntKind) (off len : SI) (pk : Nat) (hs : List (Nat × Nat)) (f : List Prop → RO → RP Delta) : RP Delta :=
 .get pk fun b => (match b with
  | some (.pool (.k k') ms) => (match keq k' k with
   | true => f [off.z + len.z ≤ (hs.length : Int), ∀ h ∈ (hs.drop off.z.toNat).take len.z.toNat, h.2 ≤ (ms.getD h.1 []).length] (.r (((hs.drop off.z.toNat).take len.z.toNat).map fun h => .l ((ms.getD h.1 []).take h.2)))
   | false => .fail)
  | _ => .fail)

def boxV (ban : List Nat) (x : SV) (k : IntKind) (f : List Prop → RO → RP Delta) (g : RP Delta) : RP Delta :=
 match x with
 | .sl key 0 1 ⟨true, .ofNat 0⟩ len => .get key fun b => (match b with
  | some (.boxv pk) => .get pk fun c => (match c with
   | some (.pool (.b k' (some (q, r))) ms) => (match keq k' k && Nat.beq q key && !memN pk ban with
    | true => f [len.z = ((ms.getD r []).length : Int)] (.l (ms.getD r []))
    | false => .fail)
   | _ => .fail)
  | _ => g)
 | _ => g

mutual
def viewRO (ban : List Nat) : Sh → SV → (List Prop → RO → RP Delta) → RP Delta
 | .ints k, x, f => (match x with
  | .ro key sh d => .get key fun b => (match b with
   | some .world => (match shEq sh (.ints k) with | true => f [] d | false => .fail)
   | _ => .fail)
  | .nsl => f [] (.l [])
  | .sl key c est off len => (match memN key ban with
   | true => .fail
   | false => boxV ban (.sl key c est off len) k f (withCon (.sl key c est off len) fun p q => (match q with
    | .ints k' l => (match keq k' k with | true => f p (.l l) | false => .fail)
    | _ => .fail)))
  | .ps key r len => withCon (.ps key r len) fun p q => (match q with
    | .ints k' l => (match keq k' k with | true => f p (.l l) | false => .fail)
    | _ => .fail)
  | _ => .fail)
 | .l e, x, f => (match x with
  | .ro key sh d => .get key fun b => (match b with
   | some .world => (match shEq sh (.l e) with | true => f [] d | false => .fail)
   | _ => .fail)
  | .nsl => f [] (.r [])
  | .sl key 0 1 ⟨true, .ofNat 0⟩ ⟨true, .ofNat n⟩ => (match memN key ban with
   | true => .fail
   | false => .get key fun b => (match b with
    | some (.segs _ l) => (match onesOf l with
     | some xs => (match Nat.beq xs.length n && Nat.blt 0 n with
      | true => eachRO (viewRO ban e) xs fun p ds => f p (.r ds)
      | false => .fail)
     | none => .fail)
    | _ => .fail))
  | .sl key 0 1 off len => (match memN key ban with
   | true => .fail
   | false => .get key fun b => (match b with
    | some (.segs _ [.rowH pk hs]) => (match e with
     | .ints k => hdrRO k off len pk hs f
     | _ => .fail)
    | _ => .fail))
  | .sl key c est off len => (match e with
   | .arr n k => (match memN key ban, Nat.blt 0 n with
    | false, true => withCon (.sl key c est off len) fun p q => (match q with
     | .arrs k' m l => (match keq k' k && Nat.beq m n with | true => f p (.r (l.map RO.l)) | false => .fail)
     | _ => .fail)
    | _, _ => .fail)
   | _ => .fail)
  | _ => .fail)
 | .r fs, x, f => (match x with
  | .agg xs => viewROs ban fs xs fun p ds => f p (.r ds)
  | _ => .fail)
 | .i k, x, f => (match x with
  | .i k' a => (match keq k' k with | true => f [] (.i a.z) | false => .fail)
  | _ => .fail)
 | .tb, x, f => (match x with
  | .b _ v => f [] (.b v)
  | _ => .fail)
 | .ts, x, f => (match x with
  | .s v => f [] (.s v)
  | _ => .fail)
 | .arr n k, x, f => (match x with
  | .arr k' m _ l => (match keq k' k && Nat.beq m n with | true => f [] (.l l) | false => .fail)
  | _ => .fail)
def viewROs (ban : List Nat) : List Sh → List SV → (List Prop → List RO → RP Delta) → RP Delta
 | [], xs, f => (match xs with | [] => f [] [] | _ => .fail)
 | s :: fs, xs, f => (match xs with
  | x :: xs => viewRO ban s x fun p d => viewROs ban fs xs fun p' ds => f (p ++ p') (d :: ds)
  | [] => .fail)
end

def ownKeys : List Md → List SV → List Nat
 | .m :: ms, .p key _ :: xs => key :: ownKeys ms xs
 | .o :: ms, .sl key _ _ _ _ :: xs => key :: ownKeys ms xs
 | _ :: ms, _ :: xs => ownKeys ms xs
 | _, _ => []

def getA (ban : List Nat) : List Md → List SV → (List Prop → List AV → RP Delta) → RP Delta
 | [], [], f => f [] []
 | .v :: ms, x :: xs, f => getA ban ms xs fun p avs => f p (.v x :: avs)
 | .d sh :: ms, x :: xs, f => viewRO ban sh x fun p d => getA ban ms xs fun p' avs => f (p ++ p') (.d sh d :: avs)
 | .m :: ms, x :: xs, f => (match x with
  | .p key 0 => .get key fun b => (match b with
   | some (.segs false l) => getA ban ms xs fun p avs => f p (.m l :: avs)
   | _ => .fail)
  | .np => getA ban ms xs fun p avs => f p (.v .np :: avs)
  | _ => .fail)
 | .o :: ms, x :: xs, f => (match x with
  | .sl key 0 est ⟨true, .ofNat 0⟩ len => .get key fun b => (match b with
   | some (.segs false [g]) => (match rowCon g with
    | some q => (match Nat.beq est (conSize q) with
     | true => getA ban ms xs fun p avs => f ((len.z = ((conLen q : Nat) : Int)) :: p) (.o q :: avs)
     | false => .fail)
    | none => .fail)
   | _ => .fail)
  | .nsl => getA ban ms xs fun p avs => f p (.v .nsl :: avs)
  | _ => .fail)
 | _, _, _ => .fail

def frOf : List RV → Option (List Seg)
 | [] => none
 | .v _ :: r => frOf r
 | .row q :: _ => some [conRow q]
 | .ptr l :: _ => some l
def oneFr : List RV → Bool
 | [] => true
 | .v _ :: r => oneFr r
 | _ :: r => (match frOf r with | some _ => false | none => true)

def resG (stamp : Nat) : RV → SV
 | .v x => x
 | .row q => .sl stamp 0 (conSize q) ⟨true, 0⟩ ⟨false, ((conLen q : Nat) : Int)⟩
 | .ptr _ => .p stamp 0
def resGs (stamp : Nat) : List RV → List SV
 | [] => []
 | r :: t => resG stamp r :: resGs stamp t
def resOf (stamp : Nat) : List RV → SV
 | [r] => resG stamp r
 | rs => .tup (resGs stamp rs)

def finW : List Nat → List (Option (List Seg)) → Option (List (Nat × SB))
 | [], [] => some []
 | k :: ks, some l :: r => (match finW ks r with | some ws => some ((k, .segs false l) :: ws) | none => none)
 | k :: ks, none :: r => (match finW ks r with | some ws => some ((k, .gone) :: ws) | none => none)
 | _, _ => none

def genCtr (ms : List Md) (spec : List AV → Option (List Prop × List RV × List (Option (List Seg)))) : Ctr := fun stamp args =>
 match ownKeys ms args with
 | ks => (match nodupN ks with
  | true => getA ks ms args fun p avs => (match spec avs with
   | some (p', rvs, fin) => (match finW ks fin, oneFr rvs && Nat.ble fin.length 100 with
    | some ws, true => (match frOf rvs with
     | none => .ret ⟨p ++ p', resOf stamp rvs, ws, true⟩
     | some l => .get stamp fun b => (match b with
      | none => .ret ⟨p ++ p', resOf stamp rvs, (stamp, .segs false l) :: ws, true⟩
      | some _ => .fail))
    | _, _ => .fail)
   | none => .fail)
  | false => .fail)

/-! ### The callee's side -/

def canV (h : Heap) (x : SV) (K : RV → Prop) : Prop :=
 match x with
 | .sl key c est off len => (match Nat.ble 1000 key, assoc h key with
  | true, some (.segs false l) => (match segAt l c with
   | some (g, 0) => (match conSeg g est off len with | some (p, q) => preK p (K (.row q)) | none => False)
   | _ => False)
  | _, _ => False)
 | .p key 0 => (match Nat.ble 1000 key, assoc h key with
  | true, some (.segs false l) => K (.ptr l)
  | _, _ => False)
 | x => K (.v x)
def canVs (h : Heap) : List SV → (List RV → Prop) → Prop
 | [], K => K []
 | x :: r, K => canV h x fun y => canVs h r fun ys => K (y :: ys)
def canF (h : Heap) : (j n : Nat) → (List (Option (List Seg)) → Prop) → Prop
 | _, 0, K => K []
 | j, n + 1, K => (match assoc h j with
  | some (.segs false l) => canF h (j + 1) n fun r => K (some l :: r)
  | some .gone => canF h (j + 1) n fun r => K (none :: r)
  | _ => False)
def kvG (n : Nat) (x : SV) (h : Heap) (K : List RV → List (Option (List Seg)) → Prop) : Prop :=
 match x with
 | .tup xs => (match Nat.beq xs.length 1 with | true => False | false => canVs h xs fun rs => canF h 600 n fun fs => K rs fs)
 | x => canV h x fun r => canF h 600 n fun fs => K [r] fs

def eqCon : Con → Con → Prop
 | .ints k l, .ints k' l' => keq k k' = true ∧ l = l'
 | .arrs k n l, .arrs k' n' l' => keq k k' = true ∧ n = n' ∧ l = l'
 | _, _ => False
def eqRV : RV → RV → Prop
 | .v x, .v y => eqV x y
 | .row q, .row q' => eqCon q q'
 | .ptr l, .ptr l' => eqSegs l l'
 | _, _ => False
def eqRV1 (x y : RV) : Prop :=
 match x, y with
 | .v .nsl, .row q => conLen q = 0 ∧ conOk q
 | x, y => eqRV x y
def eqRVs : List RV → List RV → Prop
 | [], [] => True
 | x :: r, y :: t => eqRV1 x y ∧ eqRVs r t
 | _, _ => False
def eqFin : List (Option (List Seg)) → List (Option (List Seg)) → Prop
 | [], [] => True
 | x :: r, y :: t => (match x, y with
  | some l, some l' => eqSegs l l'
  | _, none => True
  | none, some _ => False) ∧ eqFin r t
 | _, _ => False

def fnVcG (n : Nat) (Γ : Tab) (fn : Func) (L : Loops) (args : List SV) (h : Heap) (K : List RV → List (Option (List Seg)) → Prop) (Q : Nat → List Pv → Prop) : Prop :=
 runFn Γ fn (loopKeysM L) args h (fun x h' => kvG n x h' K) (handM L Q)
def loopVcG (n : Nat) (Γ : Tab) (fn : Func) (L : Loops) (key : Nat) (ps : List Pv) (K : List RV → List (Option (List Seg)) → Prop) (Q : Nat → List Pv → Prop) : Prop :=
 match assoc L key with
 | some t => runLoop Γ fn (loopKeysM L) (key % 1000) (instSt t ps) (fun x h' => kvG n x h' K) (handM L Q)
 | none => False

structure VcG (n : Nat) (Γ : Tab) (fn : Func) (L : Loops) (h : Heap) (args : List SV) (K : List RV → List (Option (List Seg)) → Prop) (inv : Nat → List Pv → Nat → Prop) : Prop where
 low : ∀ k t, (k, t) ∈ L → ∀ g, g ∈ keysOf h → g < 1000 ∧ (assoc t.heap g).isSome = true
 loop : ∀ vk t ps m, (vk, t) ∈ L → inv vk ps m → runLoop Γ fn (loopKeysM L) (vk % 1000) (instSt t ps) (fun x h' => kvG n x h' K) (handM L fun key' ps' => ∃ m', m' < m ∧ inv key' ps' m')
 entry : fnVcG n Γ fn L args h K fun key' ps' => ∃ m', inv key' ps' m'

theorem vcG_noloops {n : Nat} {Γ : Tab} {fn : Func} {h : Heap} {args : List SV} {K : List RV → List (Option (List Seg)) → Prop} (hv : fnVcG n Γ fn [] args h K fun _ _ => False) : VcG n Γ fn [] h args K fun _ _ _ => False :=
 ⟨fun k t ht => by simp at ht, fun vk t ps m ht => by simp at ht, by simpa using hv⟩

def okA : Nat → List AV → List SV → Heap → Prop
 | _, [], [], [] => True
 | j, .v x :: r, y :: t, h => eqV x y ∧ okA j r t h
 | j, .d sh d :: r, y :: t, h => y = svOf 490 sh d ∧ okA j r t h
 | j, .m l :: r, y :: t, (k, b) :: h => y = .p j 0 ∧ k = j ∧ (∃ l', b = .segs false l' ∧ eqSegs l l') ∧ okA (j + 1) r t h
 | j, .o q :: r, y :: t, (k, b) :: h => y = .sl j 0 (conSize q) ⟨true, 0⟩ ⟨false, ((conLen q : Nat) : Int)⟩ ∧ k = j ∧ b = .segs false [conRow q] ∧ okA (j + 1) r t h
 | _, _, _, _ => False

def FactA : List AV → Prop
 | [] => True
 | .v x :: r => FactV x ∧ FactA r
 | .d sh d :: r => RoF sh d ∧ FactA r
 | .m l :: r => FactSegs l ∧ FactA r
 | .o q :: r => (conOk q ∧ ((conLen q : Nat) : Int) < 9223372036854775808) ∧ FactA r

section
variable {P : Program} {Γ : Tab}

theorem Mem.merge {w0 : World} {M : Nat → Prop} {ρ ρ' : Nat → Pl} {H H' : Nat → Option SB} {w w' : World} (hm : Mem w0 M ρ H w) {M' : Nat → Prop} (hf : FrameW M' w w') {T : Nat → Prop}
  (hkeep : ∀ k, ¬ T k → H' k = H k) (hρ : ∀ k, dmOf H k → ρ' k = ρ k) (hdm : ∀ k, dmOf H k → dmOf H' k) (hM : ∀ b, M' b → w0.heap.size ≤ b ∨ M b)
  (hsep : ∀ k ro l, ¬ T k → H k = some (.segs ro l) → 0 < (ρ k).cap → ¬ M' (ρ k).blk)
  (hT : ∀ k b, T k → H' k = some b → (b ≠ .world ∧ ∀ a i, b ≠ .alias a i) ∧ ∀ ro l, b = .segs ro l → ro = false ∧ (∃ vs, SegsD (fun _ => False) (fun _ => ({ blk := 0, off := 0, cap := 0 } : Pl)) l vs ∧ vs.length ≤ (ρ' k).cap ∧ w'.rangeAt (ρ' k).blk (ρ' k).off vs ∧ w'.there (ρ' k).blk (ρ' k).off (ρ' k).cap) ∧
   (0 < (ρ' k).cap → (ρ' k).blk < w'.heap.size ∧ (w.heap.size ≤ (ρ' k).blk ∨ M' (ρ' k).blk) ∧ Clean w' (ρ' k).blk))
  (hPT : ∀ k kd ms, T k → H' k ≠ some (.pool kd ms)) (hPM : ∀ k kd ms i c, H k = some (.pool kd ms) → i < ms.length → OwnB w (ρ k) kd i c → ¬ M' c)
  (hTT : ∀ k k' l l', T k → T k' → k ≠ k' → H' k = some (.segs false l) → H' k' = some (.segs false l') → 0 < (ρ' k).cap → 0 < (ρ' k').cap → (ρ' k).blk ≠ (ρ' k').blk) : Mem w0 M ρ' H' w' := by
 have hdk : ∀ k b, H k = some b → dmOf H k := fun k b h => dm_of h
 have hun : ∀ k ro l, ¬ T k → H' k = some (.segs ro l) → 0 < (ρ' k).cap → H k = some (.segs ro l) ∧ ρ' k = ρ k ∧ (ρ' k).blk < w.heap.size ∧ ¬ M' (ρ' k).blk := fun k ro l ht hk hc => by
  rw [hkeep k ht] at hk
  have e := hρ k (hdk k _ hk)
  rw [e] at hc ⊢
  exact ⟨hk, rfl, hm.heap.lt k ro l hk hc, hsep k ro l ht hk hc⟩
 refine ⟨⟨fun k b hb => ?_, fun k k' ro ro' l l' h1 h2 hkk hr c1 c2 => ?_, fun k ro l h1 c1 => ?_⟩, ⟨hf.os.trans hm.frame.os, hf.tape.trans hm.frame.tape, hf.output.trans hm.frame.output, Nat.le_trans hm.frame.size hf.size, fun k hk1 hk2 => ?_⟩, fun k l h1 c1 => ?_, fun k h1 => ?_, fun k l h1 c1 => ?_, ?_⟩
 ·by_cases ht : T k
  ·obtain ⟨q1, q2⟩ := hT k b ht hb
   cases b with
   | gone => trivial
   | world => trivial
   | pool _ _ => trivial
   | boxv _ => trivial
   | alias a i => exact absurd rfl (q1.2 a i)
   | segs ro l =>
    obtain ⟨rfl, ⟨vs, s1, s2, s3, s4⟩, _⟩ := q2 ro l rfl
    exact ⟨vs, SegsD.mono (fun _ h => h.elim) (fun _ h => h.elim) l vs s1, s2, s3, fun _ => s4⟩
  ·rw [hkeep k ht] at hb
   exact (hm.heap.blk k b hb).of_block hdm (fun k hk => .of_eq (hρ k hk)) (hρ k (hdk k _ hb)) fun ro l e c => by
    subst e
    exact hf.block _ (hm.heap.lt k ro l hb c) (hsep k ro l ht hb c)
 ·by_cases t1 : T k
  ·obtain ⟨rfl, _, q1⟩ := (hT k _ t1 h1).2 ro l rfl
   by_cases t2 : T k'
   ·obtain ⟨rfl, _, _⟩ := (hT k' _ t2 h2).2 ro' l' rfl
    exact hTT k k' l l' t1 t2 hkk h1 h2 c1 c2
   ·obtain ⟨_, _, a1, a2⟩ := hun k' ro' l' t2 h2 c2
    intro e
    rcases (q1 c1).2.1 with q | q
    ·omega
    ·rw [e] at q; exact a2 q
  ·obtain ⟨b1, b2, a1, a2⟩ := hun k ro l t1 h1 c1
   by_cases t2 : T k'
   ·obtain ⟨rfl, _, q1⟩ := (hT k' _ t2 h2).2 ro' l' rfl
    intro e
    rcases (q1 c2).2.1 with q | q
    ·omega
    ·rw [← e] at q; exact a2 q
   ·obtain ⟨d1, d2, _, _⟩ := hun k' ro' l' t2 h2 c2
    rw [b2] at c1 ⊢
    rw [d2] at c2 ⊢
    exact hm.heap.sep k k' ro ro' l l' b1 d1 hkk hr c1 c2
 ·by_cases t1 : T k
  ·obtain ⟨rfl, _, q1⟩ := (hT k _ t1 h1).2 ro l rfl
   exact (q1 c1).1
  ·obtain ⟨_, _, a1, _⟩ := hun k ro l t1 h1 c1
   exact Nat.lt_of_lt_of_le a1 hf.size
 ·have hn : ¬ M' k := fun h => by
   rcases hM k h with h | h
   ·omega
   ·exact hk2 h
  rw [hf.block k (Nat.lt_of_lt_of_le hk1 hm.frame.size) hn]
  exact hm.frame.block k hk1 hk2
 ·by_cases t1 : T k
  ·obtain ⟨_, _, q1⟩ := (hT k _ t1 h1).2 false l rfl
   rcases (q1 c1).2.1 with q | q
   ·exact .inl (Nat.le_trans hm.frame.size q)
   ·exact hM _ q
  ·obtain ⟨b1, b2, _, _⟩ := hun k false l t1 h1 c1
   rw [b2] at c1 ⊢
   exact hm.own k l b1 c1
 ·by_cases t1 : T k
  ·exact absurd rfl (hT k _ t1 h1).1.1
  ·rw [hkeep k t1] at h1
   rw [hρ k (hdk k _ h1)]
   exact hm.view k h1
 ·by_cases t1 : T k
  ·obtain ⟨_, _, q1⟩ := (hT k _ t1 h1).2 false l rfl
   exact (q1 c1).2.2
  ·obtain ⟨b1, b2, a1, a2⟩ := hun k false l t1 h1 c1
   rw [b2] at c1 ⊢
   rw [b2] at a2
   exact (hm.clean k l b1 c1).of_block (hf.block _ (hm.heap.lt k false l b1 c1) a2)
 ·have hpk : ∀ k kd ms, H' k = some (.pool kd ms) → ¬ T k ∧ H k = some (.pool kd ms) ∧ ρ' k = ρ k := fun k kd ms h => by
   have ht : ¬ T k := fun t => hPT k kd ms t h
   rw [hkeep k ht] at h
   exact ⟨ht, h, hρ k (hdk k _ h)⟩
  have hO : ∀ k kd ms i c, H k = some (.pool kd ms) → i < ms.length → OwnB w' (ρ k) kd i c → OwnB w (ρ k) kd i c := fun k kd ms i c hk hi ho => ho.of_block fun h0 => hf.block _ ((hm.pools.pool k kd ms hk).lt i hi h0) (hPM k kd ms i _ hk hi (.pb h0))
  refine ⟨fun key kd ms hk => ?_, fun key kd ms key' ro l i c h1 h2 h3 h4 h5 => ?_, fun key kd ms key' kd' ms' i j c h1 h2 h3 h4 h5 h6 h7 => ?_, fun key kd q r ms hk => ?_⟩
  rotate_left 3
  ·obtain ⟨_, a, b⟩ := hpk key _ ms hk
   obtain ⟨v1, v2, v3, v4⟩ := hm.pools.view key kd q r ms a
   rw [b]
   exact ⟨hdm q v1, v2, v3, v4.step (hf.block _ ((hm.pools.pool key _ ms a).lt r v2 v3) (hPM key _ ms r _ a v2 (.pb v3))) (.of_eq (hρ q v1))⟩
  ·obtain ⟨_, a, b⟩ := hpk key kd ms hk
   rw [b]
   exact (hm.pools.pool key kd ms a).step rfl hf.size (fun _ _ _ _ h => h) (fun i c hi h0 => hf.block _ ((hm.pools.pool key kd ms a).ltD i c hi h0) (hPM key kd ms i c a hi h0))
  ·obtain ⟨_, a, b⟩ := hpk key kd ms h1
   rw [b] at h5
   have h5 := hO _ _ _ _ _ a h4 h5
   have hlt := (hm.pools.pool key kd ms a).ltD i c h4 h5
   by_cases t : T key'
   ·obtain ⟨rfl, _, q⟩ := (hT key' _ t h2).2 ro l rfl
    rcases (q h3).2.1 with q | q
    ·omega
    ·intro e
     rw [e] at q
     exact hPM key kd ms i c a h4 h5 q
   ·obtain ⟨b1, b2, _, _⟩ := hun key' ro l t h2 h3
    rw [b2] at h3 ⊢
    exact hm.pools.apartD key kd ms key' ro l i c a b1 h3 h4 h5
  ·obtain ⟨_, a, b⟩ := hpk key kd ms h1
   obtain ⟨_, a', b'⟩ := hpk key' kd' ms' h2
   rw [b] at h6
   rw [b'] at h7
   exact hm.pools.twoD key kd ms key' kd' ms' i j c a a' h3 h4 h5 (hO _ _ _ _ _ a h4 h6) (hO _ _ _ _ _ a' h5 h7)

theorem vcG_calls {n : Nat} (hΓ : TabOk P Γ) {f : FuncId} {fn : Func} (hf : P.funcs[f]? = some fn) {L : Loops} {h : Heap} {args : List SV} {K : List RV → List (Option (List Seg)) → Prop} {inv : Nat → List Pv → Nat → Prop} (hv : VcG n Γ fn L h args K inv) (hlen : args.length ≤ fn.ntmps)
  {w : World} {M : Nat → Prop} {ρg : Nat → Pl} {vs : List Value} (hgo : GlOk Γ w M ρg (assoc h)) (g1 : Mem w M ρg (assoc h) w) (ha : Ds (dmOf (assoc h)) ρg args vs) :
  Calls P f vs.toArray w fun e w' => ∃ x v h' ρ', e = .returned v ∧ kvG n x h' K ∧ D (dmOf (assoc h')) ρ' x v ∧ Mem w M ρ' (assoc h') w' ∧ ∀ k, dmOf (assoc h) k → dmOf (assoc h') k ∧ PlLe (ρg k) (ρ' k) := by
 have hweak : ∀ vk t σ' ps, (vk, t) ∈ L → matchSt t σ' = some ps → Weak (assoc h) σ' (instSt t ps) := fun vk t σ' ps ht hm =>
  weak_of_match hm fun k hk => hv.low vk t ht k (keysOf_of_dm hk)
 refine (fn_calls hΓ hf hgo hlen ha g1 (fun m key σ => ∃ vk t ps, (vk, t) ∈ L ∧ vk % 1000 = key ∧ σ = instSt t ps ∧ inv vk ps m) (fun m => handM L fun key' ps' => ∃ m', m' < m ∧ inv key' ps' m') (fun m key σ hj => ?_) (fun m key σ' h => ?_)
  (handM L fun key' ps' => ∃ m', inv key' ps' m') (fun key σ' h => ?_) hv.entry).mono fun e w' he => ?_
 ·obtain ⟨vk, t, ps, ht, rfl, rfl, hinv⟩ := hj
  exact hv.loop vk t ps m ht hinv
 ·obtain ⟨vk, t, ps, ht, hk, hps, m', hlt, hinv⟩ := handM_of h
  exact ⟨m', hlt, _, hweak _ _ _ _ ht hps, vk, t, ps, ht, hk, rfl, hinv⟩
 ·obtain ⟨vk, t, ps, ht, hk, hps, m', hinv⟩ := handM_of h
  exact ⟨m', _, hweak _ _ _ _ ht hps, vk, t, ps, ht, hk, rfl, hinv⟩
 ·obtain ⟨x, v, h', ρ', rfl, k1, k2, k3, k4⟩ := he
  exact ⟨x, v, h', ρ', rfl, k1, k2, k3, k4⟩

end
end Go.Gx

/- Contracts in general: that they hold. -/
namespace Go.Gx
open Go.RowKit
set_option linter.unusedVariables false

section
variable {P : Program} {Γ : Tab} {w0 : World} {M : Nat → Prop} {ρ : Nat → Pl} {H : Nat → Option SB} {w : World}

theorem ones_D {dm : Nat → Prop} : ∀ (l : List Seg) (xs : List SV) (cs : List Value), onesOf l = some xs → SegsD dm ρ l cs → Ds dm ρ xs cs ∧ (∀ v ∈ cs, v.cells = #[v]) ∧ cs.length = xs.length
 | [], xs, cs, h, hd => by
  simp only [onesOf, Option.some.injEq] at h; subst h
  rw [show cs = [] from hd]
  exact ⟨rfl, (fun v hv => by cases hv), rfl⟩
 | .one x :: r, xs, cs, h, hd => by
  simp only [onesOf] at h
  split at h
  ·rename_i ys hy
   simp only [Option.some.injEq] at h; subst h
   obtain ⟨c1, c2, ⟨h1, v, hv, rfl⟩, rfl, h3⟩ := hd
   obtain ⟨q1, q2, q3⟩ := ones_D r ys c2 hy h3
   refine ⟨⟨v, c2, hv, rfl, q1⟩, fun u hu => ?_, by simp [q3]⟩
   simp only [List.cons_append, List.nil_append, List.mem_cons] at hu
   rcases hu with rfl | hu
   ·exact (single_cell h1 hv).2
   ·exact q2 u hu
  ·cases h
 | .arr .. :: r, xs, cs, h, hd => by simp [onesOf] at h
 | .rowI .. :: r, xs, cs, h, hd => by simp [onesOf] at h
 | .rowA .. :: r, xs, cs, h, hd => by simp [onesOf] at h
 | .rowH .. :: r, xs, cs, h, hd => by simp [onesOf] at h
 | .rowP .. :: r, xs, cs, h, hd => by simp [onesOf] at h

theorem eachRO_sound {R : RO → Value → Prop} {g : SV → (List Prop → RO → RP Delta) → RP Delta} (hg : ∀ (x : SV) (v : Value) (f : List Prop → RO → RP Delta) (d : Delta) (rs rs' : List Nat), D (dmOf H) ρ x v → (g x f).run H rs = some (d, rs') → ∃ p q rs1, (f p q).run H rs1 = some (d, rs') ∧ (AllP p → R q v)) :
  ∀ (xs : List SV) (vs : List Value) (f : List Prop → List RO → RP Delta) (d : Delta) (rs rs' : List Nat), Ds (dmOf H) ρ xs vs → (∀ v ∈ vs, v.cells = #[v]) → (eachRO g xs f).run H rs = some (d, rs') →
   ∃ p ds rs1, (f p ds).run H rs1 = some (d, rs') ∧ (AllP p → ChainR R ds vs) ∧ ds.length = xs.length
 | [], vs, f, d, rs, rs', hd, h1, h => ⟨[], [], rs, h, fun _ => hd, rfl⟩
 | x :: r, vs, f, d, rs, rs', hd, h1, h => by
  simp only [Ds] at hd
  obtain ⟨v, c, hx, rfl, hr⟩ := hd
  simp only [eachRO] at h
  obtain ⟨p, q, rs1, a1, a2⟩ := hg x v _ d rs rs' hx h
  obtain ⟨p', ds, rs2, b1, b2, b3⟩ := eachRO_sound hg r c _ d rs1 rs' hr (fun u hu => h1 u (by simp [hu])) a1
  refine ⟨p ++ p', q :: ds, rs2, b1, fun hp => ?_, by simp [b3]⟩
  obtain ⟨hp1, hp2⟩ := AllP.append (l := p) (r := p') hp
  exact ⟨v, c, a2 hp1, by rw [h1 v (by simp)]; rfl, b2 hp2⟩

structure BanOk (w0 : World) (M : Nat → Prop) (ρ : Nat → Pl) (H : Nat → Option SB) (w : World) (ban : List Nat) (M' : Nat → Prop) : Prop where
 own : ∀ key ro l, memN key ban = false → H key = some (.segs ro l) → 0 < (ρ key).cap → ¬ M' (ρ key).blk
 old : ∀ b, b < w0.heap.size → ¬ M b → ¬ M' b
 poolD : ∀ key (k : PK) ms i c, k.rcd = false → (k.box = true → memN key ban = false) → H key = some (.pool k ms) → i < ms.length → OwnB w (ρ key) k i c → ¬ M' c

theorem BanOk.pool {w0 : World} {M : Nat → Prop} {ρ : Nat → Pl} {H : Nat → Option SB} {w : World} {ban : List Nat} {M' : Nat → Prop} (h : BanOk w0 M ρ H w ban M') (key : Nat) (k : IntKind) (ms : List (List Int)) (i : Nat) (h1 : H key = some (.pool k ms)) (h2 : i < ms.length) (h3 : 0 < (ρ key).pc i) : ¬ M' ((ρ key).pb i) := h.poolD key k ms i _ rfl (fun e => by cases e) h1 h2 (.pb h3)

theorem BanOk.keeps {ban : List Nat} {M' : Nat → Prop} (hB : BanOk w0 M ρ H w ban M') (hm : Mem w0 M ρ H w) : Keeps w0 w (OutB w0 M) (OutB w M') := fun b hb =>
 ⟨⟨Nat.lt_of_lt_of_le hb.1 hm.frame.size, hB.old b hb.1 hb.2⟩, hm.frame.block b hb.1 hb.2⟩

theorem ps_ro (hm : Mem w0 M ρ H w) {ban : List Nat} {M' : Nat → Prop} (hB : BanOk w0 M ρ H w ban M') {key r : Nat} {k : IntKind} {ms : List (List Int)} (hkey : H key = some (.pool k ms)) {len : SI} {v : Value} (hx : D (dmOf H) ρ (.ps key r len) v) (hle : len.z ≤ ((ms.getD r []).length : Int)) :
  RoD w (OutB w M') (.ints k) (.l ((ms.getD r []).take len.z.toNat)) v := by
 simp only [D] at hx
 obtain ⟨hk, hrp, hl, hr, ad, cap, rfl, hlc, hdis⟩ := hx
 have hP := hm.pools.pool key k ms hkey
 have hrl : r < ms.length := by rw [← hP.cnt]; exact hrp
 have hrm : ms[r]? = some (ms.getD r []) := by rw [List.getD_eq_getElem?_getD, List.getElem?_eq_getElem hrl]; rfl
 obtain ⟨a1, a2, a3, a4⟩ := hP.rowk r _ hrm
 have hll : ((ms.getD r []).take len.z.toNat).length = len.z.toNat := by rw [List.length_take]; omega
 simp only [RoD, InR] at hr ⊢
 have er : roL (.l ((ms.getD r []).take len.z.toNat)) = (ms.getD r []).take len.z.toNat := rfl
 rw [er, hll]
 refine ⟨ad, cap, rfl, hlc, by omega, fun z hz => a1 z (List.mem_of_mem_take hz), ?_⟩
 rcases hdis with ⟨rfl, hcap⟩ | ⟨q1, q2⟩
 ·rcases Nat.eq_zero_or_pos cap with h0 | h0
  ·exact .inr ⟨by omega, h0⟩
  ·have hcp : 0 < (ρ key).pc r := by omega
   refine .inl ⟨_, _, rfl, ⟨hP.lt r hrl hcp, hB.pool key k ms r hkey hrl hcp⟩, fun j u hu => ?_⟩
   rw [List.map_take, List.getElem?_take] at hu
   split at hu
   ·exact a3 j u hu
   ·cases hu
 ·exact .inr ⟨by omega, q2⟩

theorem hdrs_chain (hm : Mem w0 M ρ H w) {ban : List Nat} {M' : Nat → Prop} (hB : BanOk w0 M ρ H w ban M') {pk : Nat} {k : IntKind} {ms : List (List Int)} (hkey : H pk = some (.pool k ms)) : ∀ (hs : List (Nat × Nat)) (cs : List Value), HdrsD (dmOf H) ρ pk hs cs →
  (∀ h ∈ hs, h.2 ≤ (ms.getD h.1 []).length) → ChainR (RoD w (OutB w M') (.ints k)) (hs.map fun h => .l ((ms.getD h.1 []).take h.2)) cs
 | [], cs, h, _ => h
 | x :: t, cs, h, hl => by
  obtain ⟨v, c, h1, rfl, h3⟩ := h
  refine ⟨v, c, ?_, ?_, hdrs_chain hm hB hkey t c h3 fun y hy => hl y (by simp [hy])⟩
  ·have := ps_ro hm hB hkey h1 (by have := hl x (by simp); simp only; omega)
   simpa using this
  ·rw [(single_cell rfl h1).2]; rfl

theorem hdr_ro (hm : Mem w0 M ρ H w) {ban : List Nat} {M' : Nat → Prop} (hB : BanOk w0 M ρ H w ban M') {key pk : Nat} {ro : Bool} {hs : List (Nat × Nat)} {k : IntKind} (hban : memN key ban = false) (hkey : H key = some (.segs ro [.rowH pk hs])) {off len : SI} {v : Value} (hx : D (dmOf H) ρ (.sl key 0 1 off len) v)
  {f : List Prop → RO → RP Delta} {d : Delta} {rs rs' : List Nat} (h : (hdrRO k off len pk hs f).run H rs = some (d, rs')) :
  ∃ p q rs1, (f p q).run H rs1 = some (d, rs') ∧ (AllP p → RoD w (OutB w M') (.l (.ints k)) q v) := by
 unfold hdrRO at h
 simp only [RP.run] at h
 split at h
 ·rename_i k' ms hpk
  split at h
  ·rename_i hkk
   have hkk := keq_eq hkk
   subst hkk
   refine ⟨_, _, _, h, fun hp => ?_⟩
   have hle : off.z + len.z ≤ (hs.length : Int) := hp.1
   have hall := hp.2.1
   simp only [D] at hx
   obtain ⟨_, ho, hl, hr, ad, cap, rfl, hlc, hdis⟩ := hx
   obtain ⟨vs, h1, h2, h3, _⟩ := hm.segs hkey
   obtain ⟨c1, c2, ⟨_, e1⟩, rfl, e3⟩ := h1
   have e4 : c2 = [] := e3
   subst e4
   simp only [List.append_nil] at h2 h3
   have hcl := e1.len
   have hln : (((hs.drop off.z.toNat).take len.z.toNat).map fun h => RO.l ((ms.getD h.1 []).take h.2)).length = len.z.toNat := by simp; omega
   simp only [RoD, InR] at hr ⊢
   have er : ∀ l, roX (.r l) = l := fun _ => rfl
   rw [er, hln]
   refine ⟨ad, cap, (c1.drop off.z.toNat).take len.z.toNat, rfl, hlc, by omega, hdrs_chain hm hB hpk _ _ ((e1.drop _).take _) hall, ?_⟩
   rcases hdis with ⟨rfl, hcap⟩ | ⟨hz, hc0⟩
   ·rcases Nat.eq_zero_or_pos cap with h0 | h0
    ·exact .inr ⟨by omega, h0⟩
    ·have hcp : 0 < (ρ key).cap := by omega
     refine .inl ⟨(ρ key).blk, (ρ key).off + off.z.toNat, by simp [at_], ⟨hm.heap.lt key ro _ hkey hcp, hB.own key ro _ hban hkey hcp⟩, rangeAt_part h3 _ _⟩
   ·exact .inr ⟨by omega, hc0⟩
  ·simp [RP.run] at h
 ·simp [RP.run] at h

theorem boxV_sound (P : Program) (hm : Mem w0 M ρ H w) {ban : List Nat} {M' : Nat → Prop} (hB : BanOk w0 M ρ H w ban M') {x : SV} {k : IntKind} {v : Value} (hx : D (dmOf H) ρ x v) {f : List Prop → RO → RP Delta} {g : RP Delta} {d : Delta} {rs rs' : List Nat} (h : (boxV ban x k f g).run H rs = some (d, rs')) :
  (∃ p q rs1, (f p q).run H rs1 = some (d, rs') ∧ (AllP p → RoD w (OutB w M') (.ints k) q v)) ∨ ∃ rs0, g.run H rs0 = some (d, rs') := by
 unfold boxV at h
 split at h
 ·rename_i key len
  simp only [RP.run] at h
  split at h
  ·rename_i pk hkey
   simp only [RP.run] at h
   split at h
   ·rename_i k' q r ms hpk
    split at h
    ·rename_i hkk
     simp only [Bool.and_eq_true, Bool.not_eq_true'] at hkk
     have e1 := keq_eq hkk.1.1
     have e2 := Nat.eq_of_beq_eq_true hkk.1.2
     have hban := hkk.2
     subst e1 e2
     refine .inl ⟨_, _, _, h, fun hp => ?_⟩
     have hlen : len.z = ((ms.getD r []).length : Int) := hp.1
     obtain ⟨v1, v2, v3, a1, n1, cap1, v4, v5⟩ := hm.pools.view pk k' q r ms hpk
     have hP := hm.pools.pool pk _ ms hpk
     obtain ⟨c1, c2, c3, a, cap, c4, c5, c6⟩ := hP.cell v2
     rw [c4] at v4
     simp only [Option.some.injEq, Value.slice.injEq] at v4
     obtain ⟨rfl, rfl, rfl⟩ := v4
     simp only [D] at hx
     obtain ⟨_, _, hl, hr, ad, cp, rfl, hlc, hdis⟩ := hx
     have hln : len.z.toNat = (ms.getD r []).length := by omega
     simp only [RoD, InR] at hr ⊢
     have er : roL (.l (ms.getD r [])) = ms.getD r [] := rfl
     rw [er, hln]
     rw [hln] at hlc
     refine ⟨ad, cp, rfl, hlc, by omega, c1, ?_⟩
     rcases hdis with ⟨rfl, hcap⟩ | ⟨q1, q2⟩
     ·rcases Nat.eq_zero_or_pos cp with h0 | h0
      ·exact .inr ⟨by omega, h0⟩
      ·simp at hcap
       have hq : 0 < (ρ q).cap := by omega
       rcases v5 with ⟨rfl, rfl⟩ | ⟨_, _, h9⟩
       ·rcases c6 with ⟨b, o, e, c7, c8⟩ | ⟨_, h9⟩
        ·simp only [Option.some.injEq, Addr.mk.injEq, and_true] at e
         obtain ⟨rfl, rfl⟩ := e
         have hown : OwnB w (ρ pk) (.b k' (some (q, r))) r (ρ q).blk := ⟨c2, .inr ⟨rfl, _, _, _, c4, hq⟩⟩
         exact .inl ⟨(ρ q).blk, (ρ q).off, by simp [at_], ⟨hP.ltD r _ v2 hown, hB.poolD pk _ ms r _ rfl (fun _ => hban) hpk v2 hown⟩, c7⟩
        ·omega
       ·omega
     ·exact .inr ⟨by omega, q2⟩
    ·simp [RP.run] at h
   ·simp [RP.run] at h
  ·exact .inr ⟨_, h⟩
 ·exact .inr ⟨_, h⟩

mutual
theorem viewRO_sound (P : Program) (hm : Mem w0 M ρ H w) {ban : List Nat} {M' : Nat → Prop} (hB : BanOk w0 M ρ H w ban M') : ∀ (sh : Sh) (x : SV) (v : Value) (f : List Prop → RO → RP Delta) (d : Delta) (rs rs' : List Nat), D (dmOf H) ρ x v → (viewRO ban sh x f).run H rs = some (d, rs') →
  ∃ p q rs1, (f p q).run H rs1 = some (d, rs') ∧ (AllP p → RoD w (OutB w M') sh q v)
 | .ints k, x, v, f, d, rs, rs', hx, h => by
  simp only [viewRO] at h
  split at h
  ·rename_i key sh dd
   simp only [RP.run] at h
   split at h
   ·rename_i hkey
    split at h
    ·rename_i he
     have e := shEq_eq _ _ he
     subst e
     simp only [D] at hx
     have hrel := hx.2.1
     rw [hm.view key hkey] at hrel
     exact ⟨[], dd, _, h, fun _ => RoD.mono (hB.keeps hm) _ _ _ hrel⟩
    ·simp [RP.run] at h
   ·simp [RP.run] at h
  ·simp only [D] at hx
   subst hx
   refine ⟨[], _, _, h, fun _ => ?_⟩
   simp only [RoD]
   exact ⟨none, 0, rfl, Nat.le_refl _, by simp [roL], (fun z hz => by cases hz), .inr ⟨rfl, rfl⟩⟩
  ·rename_i key c est off len
   split at h
   ·simp [RP.run] at h
   ·rename_i hban
    rcases boxV_sound P hm hB hx h with h | h
    ·exact h
    obtain ⟨rs0, h⟩ := h
    obtain ⟨p, q, rs1, hw, hq, ro, lx, hkey, hcE⟩ := withCon_more (P := P) hm hx h
    split at hw
    ·rename_i k' l
     split at hw
     ·rename_i hkk
      have hkk := keq_eq hkk
      subst hkk
      refine ⟨p, _, rs1, hw, fun hp => ?_⟩
      have hcon := hq hp
      simp only [D] at hx
      obtain ⟨_, ho, hl, hr, ad, cap, rfl, hlc, hdis⟩ := hx
      obtain ⟨e1, e2, e3⟩ := hcon.at_ ad _ cap rfl
      have e1 : len.z.toNat = l.length := e1
      simp only [RoD, InR] at hr ⊢
      have er : roL (.l l) = l := rfl
      rw [er]
      refine ⟨ad, cap, by rw [e1], by omega, by omega, hcon.ok, ?_⟩
      rcases e3 with ⟨a, b⟩ | ⟨b, o, rfl, hlt, hra⟩
      ·exact .inr ⟨a, b⟩
      ·rcases hdis with ⟨ha', hc2⟩ | ⟨hz, hc0⟩
       ·simp only [Option.some.injEq, at_, Addr.mk.injEq, and_true] at ha'
        obtain ⟨hb', ho'⟩ := ha'
        have hest : conSize (Con.ints k' l) = est := con_est hcE
        have hest1 : est = 1 := hest.symm
        subst hest1
        rcases Nat.eq_zero_or_pos cap with h0 | h0
        ·exact .inr ⟨by omega, h0⟩
        ·have hcp : 0 < (ρ key).cap := by omega
         refine .inl ⟨b, o, rfl, ⟨hlt (by simpa [conSize] using h0), ?_⟩, hra⟩
         rw [hb']
         exact hB.own key ro lx hban hkey hcp
       ·exact .inr ⟨by omega, hc0⟩
     ·simp [RP.run] at hw
    ·simp [RP.run] at hw
  ·rename_i key r len
   simp only [withCon, RP.run] at h
   split at h
   ·rename_i kk ms hkey
    split at h
    ·rename_i hkk
     have hkk := keq_eq hkk
     subst hkk
     refine ⟨_, _, _, h, fun hp => ?_⟩
     have hle : len.z ≤ ((ms.getD r []).length : Int) := hp.1
     exact ps_ro hm hB hkey hx hle
    ·simp [RP.run] at h
   ·simp [RP.run] at h
  ·simp [RP.run] at h
 | .l e, x, v, f, d, rs, rs', hx, h => by
  simp only [viewRO] at h
  split at h
  ·rename_i key sh dd
   simp only [RP.run] at h
   split at h
   ·rename_i hkey
    split at h
    ·rename_i he
     have e := shEq_eq _ _ he
     subst e
     simp only [D] at hx
     have hrel := hx.2.1
     rw [hm.view key hkey] at hrel
     exact ⟨[], dd, _, h, fun _ => RoD.mono (hB.keeps hm) _ _ _ hrel⟩
    ·simp [RP.run] at h
   ·simp [RP.run] at h
  ·simp only [D] at hx
   subst hx
   refine ⟨[], _, _, h, fun _ => ?_⟩
   simp only [RoD]
   exact ⟨none, 0, [], rfl, Nat.le_refl _, by simp [roX], rfl, .inr ⟨rfl, rfl⟩⟩
  ·rename_i key n
   split at h
   ·simp [RP.run] at h
   ·rename_i hban
    simp only [RP.run] at h
    split at h
    ·rename_i ro l hkey
     split at h
     ·rename_i xs hxs
      split at h
      ·rename_i hn
       simp only [Bool.and_eq_true] at hn
       have hn1 := Nat.eq_of_beq_eq_true hn.1
       have hn2 : 0 < n := by have := hn.2; simp [Nat.blt] at this; omega
       obtain ⟨vs, h1, h2, h3, _⟩ := hm.segs hkey
       obtain ⟨q1, q2, q3⟩ := ones_D l xs vs hxs h1
       obtain ⟨p, ds, rs1, a1, a2, a3⟩ := eachRO_sound (R := RoD w (OutB w M') e) (fun x v f d rs rs' hx h => viewRO_sound P hm hB e x v f d rs rs' hx h) xs vs _ d _ rs' q1 q2 h
       refine ⟨p, _, rs1, a1, fun hp => ?_⟩
       simp only [D] at hx
       obtain ⟨_, ho, hl, hr, ad, cap, rfl, hlc, hdis⟩ := hx
       have er : roX (.r ds) = ds := rfl
       have hnn : (Int.ofNat n).toNat = n := rfl
       simp only [RoD, InR] at hr ⊢
       rw [er]
       simp only [hnn] at hlc ⊢
       rcases hdis with ⟨rfl, hcap⟩ | ⟨hz, hc0⟩
       ·refine ⟨_, cap, vs, by rw [a3, hn1]; simp [at_], by omega, by omega, a2 hp, .inl ⟨(ρ key).blk, (ρ key).off, rfl, ?_, h3⟩⟩
        have hcp : 0 < (ρ key).cap := by simp at hcap; omega
        exact ⟨hm.heap.lt key ro l hkey hcp, hB.own key ro l hban hkey hcp⟩
       ·simp at hz; omega
      ·simp [RP.run] at h
     ·simp [RP.run] at h
    ·simp [RP.run] at h
  ·rename_i key off len _
   split at h
   ·simp [RP.run] at h
   ·rename_i hban
    simp only [RP.run] at h
    split at h
    ·rename_i ro pk hs hkey
     split at h
     ·rename_i k
      exact hdr_ro hm hB hban hkey hx h
     ·simp [RP.run] at h
    ·simp [RP.run] at h
  ·rename_i key c est off len _ _
   split at h
   ·rename_i n k
    split at h
    ·rename_i hban hn0
     have hn0 : 0 < n := by simp [Nat.blt] at hn0; omega
     obtain ⟨p, q, rs1, hw, hq, ro, lx, hkey, hcE⟩ := withCon_more (P := P) hm hx h
     split at hw
     ·rename_i k' m l
      split at hw
      ·rename_i hkk
       simp only [Bool.and_eq_true] at hkk
       have e1 := keq_eq hkk.1
       have e2 := Nat.eq_of_beq_eq_true hkk.2
       subst e1 e2
       refine ⟨p, _, rs1, hw, fun hp => ?_⟩
       have hcon := hq hp
       simp only [D] at hx
       obtain ⟨_, ho, hl, hr, ad, cap, rfl, hlc, hdis⟩ := hx
       obtain ⟨e1, e2, e3⟩ := hcon.at_ ad _ cap rfl
       have e1 : len.z.toNat = l.length := e1
       simp only [RoD, InR] at hr ⊢
       have er : roX (.r (l.map RO.l)) = l.map RO.l := rfl
       rw [er, List.length_map]
       refine ⟨ad, cap, conCells (.arrs k' m l), by rw [e1], by omega, by omega, arrs_chain (w' := w) (Out := OutB w M') l hcon.ok, ?_⟩
       rcases e3 with ⟨a, b⟩ | ⟨b, o, rfl, hlt, hra⟩
       ·exact .inr ⟨a, b⟩
       ·rcases hdis with ⟨ha', hc2⟩ | ⟨hz, hc0⟩
        ·simp only [Option.some.injEq, at_, Addr.mk.injEq, and_true] at ha'
         obtain ⟨hb', ho'⟩ := ha'
         have hest : conSize (Con.arrs k' m l) = est := con_est hcE
         have hest1 : est = m := hest.symm
         subst hest1
         rcases Nat.eq_zero_or_pos cap with h0 | h0
         ·exact .inr ⟨by omega, h0⟩
         ·have hpos : 0 < est * cap := Nat.mul_pos hn0 h0
          have hcp : 0 < (ρ key).cap := by omega
          refine .inl ⟨b, o, rfl, ⟨hlt hpos, ?_⟩, hra⟩
          rw [hb']
          exact hB.own key ro lx (by rw [hban]) hkey hcp
        ·exact .inr ⟨by omega, hc0⟩
      ·simp [RP.run] at hw
     ·simp [RP.run] at hw
    ·simp [RP.run] at h
   ·simp [RP.run] at h
  ·simp [RP.run] at h
 | .i k, x, v, f, d, rs, rs', hx, h => by
  simp only [viewRO] at h
  split at h
  ·rename_i k' a
   split at h
   ·rename_i hk
    have e := keq_eq hk
    subst e
    refine ⟨[], _, _, h, fun _ => ?_⟩
    simp only [D] at hx
    simp only [RoD]
    exact hx
   ·simp [RP.run] at h
  ·simp [RP.run] at h
 | .tb, x, v, f, d, rs, rs', hx, h => by
  simp only [viewRO] at h
  split at h
  ·refine ⟨[], _, _, h, fun _ => ?_⟩
   simp only [D] at hx
   simp only [RoD]
   exact hx
  ·simp [RP.run] at h
 | .ts, x, v, f, d, rs, rs', hx, h => by
  simp only [viewRO] at h
  split at h
  ·refine ⟨[], _, _, h, fun _ => ?_⟩
   simp only [D] at hx
   simp only [RoD]
   exact hx
  ·simp [RP.run] at h
 | .arr n k, x, v, f, d, rs, rs', hx, h => by
  simp only [viewRO] at h
  split at h
  ·rename_i k' m ex l
   split at h
   ·rename_i hk
    simp only [Bool.and_eq_true] at hk
    have e := keq_eq hk.1
    have e2 := Nat.eq_of_beq_eq_true hk.2
    subst e e2
    refine ⟨[], _, _, h, fun _ => ?_⟩
    simp only [D] at hx
    simp only [RoD]
    exact hx
   ·simp [RP.run] at h
  ·simp [RP.run] at h
 | .r fs, x, v, f, d, rs, rs', hx, h => by
  simp only [viewRO] at h
  split at h
  ·rename_i xs
   simp only [D] at hx
   obtain ⟨cs, hc, rfl⟩ := hx
   obtain ⟨p, ds, rs1, a1, a2⟩ := viewROs_sound P hm hB fs xs cs _ d rs rs' hc h
   refine ⟨p, _, rs1, a1, fun hp => ?_⟩
   simp only [RoD]
   exact ⟨cs, by simpa using a2 hp [], rfl⟩
  ·simp [RP.run] at h
theorem viewROs_sound (P : Program) (hm : Mem w0 M ρ H w) {ban : List Nat} {M' : Nat → Prop} (hB : BanOk w0 M ρ H w ban M') : ∀ (fs : List Sh) (xs : List SV) (cs : List Value) (f : List Prop → List RO → RP Delta) (d : Delta) (rs rs' : List Nat), Cs (dmOf H) ρ xs cs → (viewROs ban fs xs f).run H rs = some (d, rs') →
  ∃ p q rs1, (f p q).run H rs1 = some (d, rs') ∧ (AllP p → ∀ pre : List RO, RoCs w (OutB w M') fs (.r (pre ++ q)) pre.length cs)
 | [], xs, cs, f, d, rs, rs', hx, h => by
  simp only [viewROs] at h
  split at h
  ·rw [show cs = [] from hx]
   exact ⟨[], [], rs, h, fun _ _ => rfl⟩
  ·simp [RP.run] at h
 | s :: fs, xs, cs, f, d, rs, rs', hx, h => by
  simp only [viewROs] at h
  split at h
  ·rename_i x xs
   simp only [Cs] at hx
   obtain ⟨v, c, h1, rfl, h2⟩ := hx
   obtain ⟨p, q, rs1, a1, a2⟩ := viewRO_sound P hm hB s x v _ d rs rs' h1 h
   obtain ⟨p', ds, rs2, b1, b2⟩ := viewROs_sound P hm hB fs xs c _ d rs1 rs' h2 a1
   refine ⟨p ++ p', q :: ds, rs2, b1, fun hp pre => ?_⟩
   obtain ⟨hp1, hp2⟩ := AllP.append (l := p) (r := p') hp
   simp only [RoCs]
   refine ⟨v, c, ?_, rfl, ?_⟩
   ·have : roN (.r (pre ++ q :: ds)) pre.length = q := by simp [roN, roX, List.getD_eq_getElem?_getD]
    rw [this]; exact a2 hp1
   ·have := b2 hp2 (pre ++ [q])
    simpa using this
  ·simp [RP.run] at h
end

def AsD (w : World) (Out : Nat → Prop) (H : Nat → Option SB) (ρ : Nat → Pl) : List AV → List Value → List Nat → Prop
 | [], vs, ks => vs = [] ∧ ks = []
 | .v x :: r, vs, ks => ∃ u c, vs = u :: c ∧ D (dmOf H) ρ x u ∧ AsD w Out H ρ r c ks
 | .d sh d :: r, vs, ks => ∃ u c, vs = u :: c ∧ RoD w Out sh d u ∧ AsD w Out H ρ r c ks
 | .m l :: r, vs, ks => ∃ c k ks', ks = k :: ks' ∧ vs = .pointer (some (at_ (ρ k) 0)) :: c ∧ H k = some (.segs false l) ∧ AsD w Out H ρ r c ks'
 | .o q :: r, vs, ks => ∃ u c k ks', ks = k :: ks' ∧ vs = u :: c ∧ H k = some (.segs false [conRow q]) ∧
   (∃ ad cap, u = .slice ad (conLen q) cap ∧ conLen q ≤ cap ∧ ((conLen q : Nat) : Int) < 9223372036854775808 ∧ ((ad = some (at_ (ρ k) 0) ∧ conSize q * cap ≤ (ρ k).cap) ∨ (conLen q = 0 ∧ cap = 0))) ∧ AsD w Out H ρ r c ks'

theorem getA_sound (P : Program) (hm : Mem w0 M ρ H w) {ban : List Nat} {M' : Nat → Prop} (hB : BanOk w0 M ρ H w ban M') : ∀ (ms : List Md) (xs : List SV) (vs : List Value) (f : List Prop → List AV → RP Delta) (d : Delta) (rs rs' : List Nat), Ds (dmOf H) ρ xs vs → (getA ban ms xs f).run H rs = some (d, rs') →
  ∃ p avs rs1, (f p avs).run H rs1 = some (d, rs') ∧ (AllP p → AsD w (OutB w M') H ρ avs vs (ownKeys ms xs))
 | [], [], vs, f, d, rs, rs', hd, h => ⟨[], [], rs, h, fun _ => ⟨hd, rfl⟩⟩
 | [], _ :: _, vs, f, d, rs, rs', hd, h => by simp [getA, RP.run] at h
 | .v :: _, [], vs, f, d, rs, rs', hd, h => by simp [getA, RP.run] at h
 | .d _ :: _, [], vs, f, d, rs, rs', hd, h => by simp [getA, RP.run] at h
 | .m :: _, [], vs, f, d, rs, rs', hd, h => by simp [getA, RP.run] at h
 | .o :: _, [], vs, f, d, rs, rs', hd, h => by simp [getA, RP.run] at h
 | .v :: ms, x :: xs, vs, f, d, rs, rs', hd, h => by
  simp only [Ds] at hd
  obtain ⟨v, c, h1, rfl, h2⟩ := hd
  simp only [getA] at h
  obtain ⟨p, avs, rs1, q1, q2⟩ := getA_sound P hm hB ms xs c _ d rs rs' h2 h
  refine ⟨p, _, rs1, q1, fun hp => ⟨v, c, rfl, h1, ?_⟩⟩
  have : ownKeys (.v :: ms) (x :: xs) = ownKeys ms xs := by cases x <;> rfl
  rw [this]; exact q2 hp
 | .d sh :: ms, x :: xs, vs, f, d, rs, rs', hd, h => by
  simp only [Ds] at hd
  obtain ⟨v, c, h1, rfl, h2⟩ := hd
  simp only [getA] at h
  obtain ⟨p, q, rs1, q1, q2⟩ := viewRO_sound P hm hB sh x v _ d rs rs' h1 h
  obtain ⟨p', avs, rs2, q3, q4⟩ := getA_sound P hm hB ms xs c _ d rs1 rs' h2 q1
  refine ⟨p ++ p', _, rs2, q3, fun hp => ?_⟩
  obtain ⟨hp1, hp2⟩ := AllP.append (l := p) (r := p') hp
  have : ownKeys (.d sh :: ms) (x :: xs) = ownKeys ms xs := by cases x <;> rfl
  rw [this]
  exact ⟨v, c, rfl, q2 hp1, q4 hp2⟩
 | .m :: ms, x :: xs, vs, f, d, rs, rs', hd, h => by
  simp only [Ds] at hd
  obtain ⟨v, c, h1, rfl, h2⟩ := hd
  simp only [getA] at h
  split at h
  ·rename_i key
   simp only [RP.run] at h
   split at h
   ·rename_i l hkey
    obtain ⟨p, avs, rs1, q1, q2⟩ := getA_sound P hm hB ms xs c _ d _ rs' h2 h
    simp only [D] at h1
    exact ⟨p, _, rs1, q1, fun hp => ⟨c, key, _, rfl, by rw [h1.2], hkey, q2 hp⟩⟩
   ·simp [RP.run] at h
  ·obtain ⟨p, avs, rs1, q1, q2⟩ := getA_sound P hm hB ms xs c _ d rs rs' h2 h
   exact ⟨p, _, rs1, q1, fun hp => ⟨v, c, rfl, h1, q2 hp⟩⟩
  ·simp [RP.run] at h
 | .o :: ms, x :: xs, vs, f, d, rs, rs', hd, h => by
  simp only [Ds] at hd
  obtain ⟨v, c, h1, rfl, h2⟩ := hd
  simp only [getA] at h
  split at h
  ·rename_i key est len
   simp only [RP.run] at h
   split at h
   ·rename_i g hkey
    split at h
    ·rename_i q hq
     split at h
     ·rename_i hest
      have hest := Nat.eq_of_beq_eq_true hest
      obtain ⟨p, avs, rs1, q1, q2⟩ := getA_sound P hm hB ms xs c _ d _ rs' h2 h
      have hg : g = conRow q := by
       cases g <;> simp only [rowCon, Option.some.injEq, reduceCtorEq] at hq <;> subst hq <;> rfl
      subst hg
      refine ⟨_, _, rs1, q1, fun hp => ?_⟩
      have hlen : len.z = ((conLen q : Nat) : Int) := hp.1
      simp only [D] at h1
      obtain ⟨_, ho, hl, hr, ad, cap, rfl, hlc, hdis⟩ := h1
      simp only [InR] at hr
      have hln : len.z.toNat = conLen q := by omega
      refine ⟨_, c, key, _, rfl, rfl, hkey, ⟨ad, cap, by rw [hln], by omega, by omega, ?_⟩, q2 hp.2⟩
      rcases hdis with ⟨ha, hc⟩ | ⟨hz, hc0⟩
      ·exact .inl ⟨by simpa using ha, by rw [← hest]; simpa using hc⟩
      ·exact .inr ⟨by omega, hc0⟩
     ·simp [RP.run] at h
    ·simp [RP.run] at h
   ·simp [RP.run] at h
  ·obtain ⟨p, avs, rs1, q1, q2⟩ := getA_sound P hm hB ms xs c _ d rs rs' h2 h
   exact ⟨p, _, rs1, q1, fun hp => ⟨v, c, rfl, h1, q2 hp⟩⟩
  ·simp [RP.run] at h

theorem AsD.fact (hm : Mem w0 M ρ H w) {Out : Nat → Prop} : ∀ (avs : List AV) (vs : List Value) (ks : List Nat), AsD w Out H ρ avs vs ks → FactA avs
 | [], vs, ks, h => trivial
 | .v x :: r, vs, ks, h => by
  obtain ⟨u, c, rfl, h1, h2⟩ := h
  exact ⟨D.fact x u h1, AsD.fact hm r c ks h2⟩
 | .d sh d :: r, vs, ks, h => by
  obtain ⟨u, c, rfl, h1, h2⟩ := h
  exact ⟨RoD.fact sh d u h1, AsD.fact hm r c ks h2⟩
 | .m l :: r, vs, ks, h => by
  obtain ⟨c, k, ks', rfl, rfl, h1, h2⟩ := h
  obtain ⟨cs, hcs, _⟩ := hm.heap.blk k _ h1
  exact ⟨SegsD.fact l cs hcs, AsD.fact hm r c ks' h2⟩
 | .o q :: r, vs, ks, h => by
  obtain ⟨u, c, k, ks', rfl, rfl, h1, ⟨ad, cap, h3, h4, h5, _⟩, h2⟩ := h
  obtain ⟨cs, ⟨c1, c2, hq, _⟩, _⟩ := hm.heap.blk k _ h1
  refine ⟨⟨?_, h5⟩, AsD.fact hm r c ks' h2⟩
  cases q <;> exact hq.1

theorem AsD.keys {Out : Nat → Prop} : ∀ (avs : List AV) (vs : List Value) (ks : List Nat), AsD w Out H ρ avs vs ks → ∀ k ∈ ks, ∃ l, H k = some (.segs false l)
 | [], vs, ks, h => by obtain ⟨_, rfl⟩ := h; intro k hk; cases hk
 | .v x :: r, vs, ks, h => by
  obtain ⟨u, c, rfl, h1, h2⟩ := h
  exact AsD.keys r c ks h2
 | .d sh d :: r, vs, ks, h => by
  obtain ⟨u, c, rfl, h1, h2⟩ := h
  exact AsD.keys r c ks h2
 | .m l :: r, vs, ks, h => by
  obtain ⟨c, k, ks', rfl, rfl, h1, h2⟩ := h
  intro k' hk
  rcases List.mem_cons.1 hk with rfl | hk
  ·exact ⟨_, h1⟩
  ·exact AsD.keys r c ks' h2 k' hk
 | .o q :: r, vs, ks, h => by
  obtain ⟨u, c, k, ks', rfl, rfl, h1, _, h2⟩ := h
  intro k' hk
  rcases List.mem_cons.1 hk with rfl | hk
  ·exact ⟨_, h1⟩
  ·exact AsD.keys r c ks' h2 k' hk

theorem okA_heap {Out : Nat → Prop} : ∀ (avs : List AV) (vs : List Value) (ks : List Nat) (j : Nat) (args' : List SV) (h : Heap), AsD w Out H ρ avs vs ks → okA j avs args' h →
  (∀ k b, assoc h k = some b → ∃ i, k = j + i ∧ i < ks.length ∧ ∃ l l', b = .segs false l' ∧ H (ks.getD i 0) = some (.segs false l) ∧ ∀ (dm : Nat → Prop) (ρ' : Nat → Pl) (cs : List Value), SegsD (dmOf H) ρ l cs → SegsD dm ρ' l' cs) ∧
  (∀ i, i < ks.length → (assoc h (j + i)).isSome = true)
 | [], vs, ks, j, [], [], h, ho => by
  obtain ⟨_, rfl⟩ := h
  exact ⟨fun k b hb => by simp [assoc] at hb, fun i hi => by simp at hi⟩
 | [], vs, ks, j, [], _ :: _, h, ho => ho.elim
 | [], vs, ks, j, _ :: _, _, h, ho => by simp [okA] at ho
 | .v x :: r, vs, ks, j, [], h', h, ho => by simp [okA] at ho
 | .v x :: r, vs, ks, j, y :: t, h', h, ho => by
  obtain ⟨u, c, rfl, h1, h2⟩ := h
  exact okA_heap r c ks j t h' h2 ho.2
 | .d sh d :: r, vs, ks, j, [], h', h, ho => by simp [okA] at ho
 | .d sh d :: r, vs, ks, j, y :: t, h', h, ho => by
  obtain ⟨u, c, rfl, h1, h2⟩ := h
  exact okA_heap r c ks j t h' h2 ho.2
 | .m l :: r, vs, ks, j, [], h', h, ho => by simp [okA] at ho
 | .m l :: r, vs, ks, j, y :: t, [], h, ho => by simp [okA] at ho
 | .m l :: r, vs, ks, j, y :: t, (k0, b0) :: h', h, ho => by
  obtain ⟨c, k, ks', rfl, rfl, h1, h2⟩ := h
  obtain ⟨_, rfl, ⟨l', rfl, he⟩, ho⟩ := ho
  obtain ⟨q1, q2⟩ := okA_heap r c ks' (k0 + 1) t h' h2 ho
  refine ⟨fun k b hb => ?_, fun i hi => ?_⟩
  ·simp only [assoc] at hb
   split at hb
   ·rename_i e
    have e := Nat.eq_of_beq_eq_true e
    simp only [Option.some.injEq] at hb
    subst hb
    exact ⟨0, by omega, by simp, l, l', rfl, by simpa using h1, fun dm ρ' cs hcs => eqSegs_D l l' cs he hcs⟩
   ·obtain ⟨i, e, hi, rest⟩ := q1 k b hb
    exact ⟨i + 1, by omega, by simpa using hi, by simpa using rest⟩
  ·cases i with
   | zero => simp [assoc, Nat.beq_refl]
   | succ i =>
    have : Nat.beq k0 (k0 + (i + 1)) = false := by
     cases hb : Nat.beq k0 (k0 + (i + 1)) with
     | false => rfl
     | true => have := Nat.eq_of_beq_eq_true hb; omega
    simp only [assoc, this]
    have := q2 i (by simpa using hi)
    rwa [show k0 + 1 + i = k0 + (i + 1) by omega] at this
 | .o q :: r, vs, ks, j, [], h', h, ho => by simp [okA] at ho
 | .o q :: r, vs, ks, j, y :: t, [], h, ho => by simp [okA] at ho
 | .o q :: r, vs, ks, j, y :: t, (k0, b0) :: h', h, ho => by
  obtain ⟨u, c, k, ks', rfl, rfl, h1, _, h2⟩ := h
  obtain ⟨_, rfl, rfl, ho⟩ := ho
  obtain ⟨q1, q2⟩ := okA_heap r c ks' (k0 + 1) t h' h2 ho
  refine ⟨fun k b hb => ?_, fun i hi => ?_⟩
  ·simp only [assoc] at hb
   split at hb
   ·rename_i e
    have e := Nat.eq_of_beq_eq_true e
    simp only [Option.some.injEq] at hb
    subst hb
    refine ⟨0, by omega, by simp, _, _, rfl, by simpa using h1, fun dm ρ' cs hcs => ?_⟩
    obtain ⟨c1, c2, hq, rfl, hc2⟩ := hcs
    refine ⟨c1, c2, ?_, rfl, hc2⟩
    cases q <;> exact hq
   ·obtain ⟨i, e, hi, rest⟩ := q1 k b hb
    exact ⟨i + 1, by omega, by simpa using hi, by simpa using rest⟩
  ·cases i with
   | zero => simp [assoc, Nat.beq_refl]
   | succ i =>
    have : Nat.beq k0 (k0 + (i + 1)) = false := by
     cases hb : Nat.beq k0 (k0 + (i + 1)) with
     | false => rfl
     | true => have := Nat.eq_of_beq_eq_true hb; omega
    simp only [assoc, this]
    have := q2 i (by simpa using hi)
    rwa [show k0 + 1 + i = k0 + (i + 1) by omega] at this

theorem okA_args {Out : Nat → Prop} {dm' : Nat → Prop} {ρ' : Nat → Pl} (h490 : dm' 490) (hrel : (ρ' 490).rel = RoD w Out) : ∀ (avs : List AV) (vs : List Value) (ks : List Nat) (j : Nat) (args' : List SV) (h : Heap), AsD w Out H ρ avs vs ks → okA j avs args' h →
  (∀ i, i < ks.length → dm' (j + i) ∧ ρ' (j + i) = ρ (ks.getD i 0)) → Ds dm' ρ' args' vs
 | [], vs, ks, j, [], [], h, ho, hk => h.1
 | [], vs, ks, j, [], _ :: _, h, ho, hk => ho.elim
 | [], vs, ks, j, _ :: _, _, h, ho, hk => by simp [okA] at ho
 | .v x :: r, vs, ks, j, [], h', h, ho, hk => by simp [okA] at ho
 | .v x :: r, vs, ks, j, y :: t, h', h, ho, hk => by
  obtain ⟨u, c, rfl, h1, h2⟩ := h
  exact ⟨u, c, eqV_D x y u ho.1 h1, rfl, okA_args h490 hrel r c ks j t h' h2 ho.2 hk⟩
 | .d sh d :: r, vs, ks, j, [], h', h, ho, hk => by simp [okA] at ho
 | .d sh d :: r, vs, ks, j, y :: t, h', h, ho, hk => by
  obtain ⟨u, c, rfl, h1, h2⟩ := h
  obtain ⟨rfl, ho⟩ := ho
  exact ⟨_, c, svOf_D h490 hrel sh d u h1, rfl, okA_args h490 hrel r c ks j t h' h2 ho hk⟩
 | .m l :: r, vs, ks, j, [], h', h, ho, hk => by simp [okA] at ho
 | .m l :: r, vs, ks, j, y :: t, [], h, ho, hk => by simp [okA] at ho
 | .m l :: r, vs, ks, j, y :: t, (k0, b0) :: h', h, ho, hk => by
  obtain ⟨c, k, ks', rfl, rfl, h1, h2⟩ := h
  obtain ⟨rfl, rfl, ⟨l', rfl, he⟩, ho⟩ := ho
  have h0 := hk 0 (by simp)
  refine ⟨_, c, ⟨by simpa using h0.1, ?_⟩, rfl, okA_args h490 hrel r c ks' (k0 + 1) t h' h2 ho fun i hi => ?_⟩
  ·have := h0.2
   simp only [Nat.add_zero, List.getD_cons_zero] at this
   rw [this]
  ·have := hk (i + 1) (by simpa using hi)
   rw [show k0 + 1 + i = k0 + (i + 1) by omega]
   simpa using this
 | .o q :: r, vs, ks, j, [], h', h, ho, hk => by simp [okA] at ho
 | .o q :: r, vs, ks, j, y :: t, [], h, ho, hk => by simp [okA] at ho
 | .o q :: r, vs, ks, j, y :: t, (k0, b0) :: h', h, ho, hk => by
  obtain ⟨u, c, k, ks', rfl, rfl, h1, ⟨ad, cap, rfl, h3, h4, h5⟩, h2⟩ := h
  obtain ⟨rfl, rfl, rfl, ho⟩ := ho
  have h0 := hk 0 (by simp)
  refine ⟨_, c, sl_D (by simpa using h0.1) _ h4 h3 ?_, rfl, okA_args h490 hrel r c ks' (k0 + 1) t h' h2 ho fun i hi => ?_⟩
  ·have := h0.2
   simp only [Nat.add_zero, List.getD_cons_zero] at this
   rw [this]; exact h5
  ·have := hk (i + 1) (by simpa using hi)
   rw [show k0 + 1 + i = k0 + (i + 1) by omega]
   simpa using this

end
end Go.Gx

/- Contracts in general: off functions that the evaluator has run. -/
namespace Go.Gx
open Go.RowKit
set_option linter.unusedVariables false

def RvD (H : Nat → Option SB) (ρ : Nat → Pl) (w : World) : RV → Value → Prop
 | .v x, v => D (dmOf H) ρ x v
 | .row q, v => conOk q ∧ ∃ key l pl ad cap, 1000 ≤ key ∧ H key = some (.segs false l) ∧ v = .slice ad (conLen q) cap ∧ conLen q ≤ cap ∧ ((conLen q : Nat) : Int) < 9223372036854775808 ∧
   ((ad = some (at_ pl 0) ∧ conSize q * cap ≤ pl.cap) ∨ (conLen q = 0 ∧ cap = 0)) ∧ (conCells q).length ≤ pl.cap ∧ w.rangeAt pl.blk pl.off (conCells q) ∧ w.there pl.blk pl.off pl.cap ∧ (0 < pl.cap → pl.blk = (ρ key).blk ∧ 0 < (ρ key).cap)
 | .ptr l, v => ∃ key, 1000 ≤ key ∧ H key = some (.segs false l) ∧ v = .pointer (some (at_ (ρ key) 0))
def RvsD (H : Nat → Option SB) (ρ : Nat → Pl) (w : World) : List RV → List Value → Prop
 | [], vs => vs = []
 | x :: r, vs => ∃ v c, RvD H ρ w x v ∧ vs = v :: c ∧ RvsD H ρ w r c

section
variable {P : Program} {Γ : Tab} {w0 : World} {M : Nat → Prop} {ρ : Nat → Pl} {w : World}

theorem canV_sound {h : Heap} (hm : Mem w0 M ρ (assoc h) w) {x : SV} {v : Value} (hx : D (dmOf (assoc h)) ρ x v) {K : RV → Prop} (hk : canV h x K) : ∃ r, K r ∧ RvD (assoc h) ρ w r v := by
 unfold canV at hk
 split at hk
 ·rename_i key c est off len
  split at hk
  ·rename_i l hkey1 hkey
   have hge : 1000 ≤ key := Nat.le_of_ble_eq_true hkey1
   split at hk
   ·rename_i g hs
    split at hk
    ·rename_i p q hq
     obtain ⟨hp, hK⟩ := preK_of _ _ hk
     simp only [D] at hx
     obtain ⟨hdm, ho, hl, hlr, a, cap, rfl, hcap, hpl⟩ := hx
     simp only [InR] at hlr
     obtain ⟨vs, h1, h2, h3, h4⟩ := hm.segs hkey
     obtain ⟨pre, cs, post, e1, e2, e3, _, _⟩ := segAt_D l c vs g 0 h1 hs
     obtain ⟨a1, a2, a3, a4, a5⟩ := conSeg_sound hq e2 hp ho hl
     have heq : conCells q = (vs.drop (c + est * off.z.toNat)).take (est * len.z.toNat) := by
      rw [a4, e1, show c + est * off.z.toNat = pre.length + est * off.z.toNat by omega, drop_mid _ _ _ _ _ a5]
     have hra := rangeAt_part h3 (c + est * off.z.toNat) (est * len.z.toNat)
     rw [← heq] at hra
     have hcl := conCells_length a1
     have hth := h4 rfl
     rcases hpl with ⟨ha, hle⟩ | ⟨h0, hc0⟩
     ·refine ⟨_, hK, a1, key, l, ({ blk := (ρ key).blk, off := (ρ key).off + (c + est * off.z.toNat), cap := est * cap } : Pl), a, cap, hge, hkey, by rw [a2], by omega, by omega, .inl ⟨by rw [ha]; simp [at_], by rw [a3]; exact Nat.le_refl _⟩, ?_, hra, ?_, fun hc => ⟨rfl, ?_⟩⟩
      ·show (conCells q).length ≤ est * cap
       rw [hcl, a3, a2, Nat.mul_comm]; exact Nat.mul_le_mul_left _ hcap
      ·intro j hj
       have hj' : j < est * cap := hj
       have := hth (c + est * off.z.toNat + j) (by omega)
       rw [show (ρ key).off + (c + est * off.z.toNat) + j = (ρ key).off + (c + est * off.z.toNat + j) by omega]
       exact this
      ·have hc : 0 < est * cap := hc
       omega
     ·have hz : conLen q = 0 := by rw [a2]; omega
      have hnil : conCells q = [] := List.eq_nil_of_length_eq_zero (by rw [hcl, hz]; simp)
      refine ⟨_, hK, a1, key, l, ({ blk := 0, off := 0, cap := 0 } : Pl), a, cap, hge, hkey, by rw [a2], by omega, by omega, .inr ⟨hz, hc0⟩, by rw [hnil]; simp, by rw [hnil]; exact rangeAt_nil _ _ _, there_zero _ _ _, fun hc => absurd hc (by simp)⟩
    ·exact hk.elim
   ·exact hk.elim
  ·exact hk.elim
 ·rename_i key
  split at hk
  ·rename_i l hkey1 hkey
   simp only [D] at hx
   exact ⟨_, hk, key, Nat.le_of_ble_eq_true hkey1, hkey, hx.2⟩
  ·exact hk.elim
 ·exact ⟨_, hk, hx⟩

theorem canVs_sound {h : Heap} (hm : Mem w0 M ρ (assoc h) w) : ∀ (xs : List SV) (vs : List Value) (K : List RV → Prop), Ds (dmOf (assoc h)) ρ xs vs → canVs h xs K → ∃ rs, K rs ∧ RvsD (assoc h) ρ w rs vs ∧ rs.length = xs.length
 | [], vs, K, hx, hk => ⟨[], hk, hx, rfl⟩
 | x :: r, vs, K, hx, hk => by
  simp only [Ds] at hx
  obtain ⟨v, c, h1, rfl, h2⟩ := hx
  obtain ⟨y, q1, q2⟩ := canV_sound hm h1 hk
  obtain ⟨ys, q3, q4, q5⟩ := canVs_sound hm r c _ h2 q1
  exact ⟨y :: ys, q3, ⟨v, c, q2, rfl, q4⟩, by simp [q5]⟩

def FinH (H : Nat → Option SB) : Nat → List (Option (List Seg)) → Prop
 | _, [] => True
 | j, some l :: r => H j = some (.segs false l) ∧ FinH H (j + 1) r
 | j, none :: r => H j = some .gone ∧ FinH H (j + 1) r

theorem canF_sound {h : Heap} : ∀ (n j : Nat) (K : List (Option (List Seg)) → Prop), canF h j n K → ∃ fs, K fs ∧ FinH (assoc h) j fs ∧ fs.length = n
 | 0, j, K, hk => ⟨[], hk, trivial, rfl⟩
 | n + 1, j, K, hk => by
  simp only [canF] at hk
  split at hk
  ·rename_i l hl
   obtain ⟨fs, q1, q2, q3⟩ := canF_sound n (j + 1) _ hk
   exact ⟨_, q1, ⟨hl, q2⟩, by simp [q3]⟩
  ·rename_i hl
   obtain ⟨fs, q1, q2, q3⟩ := canF_sound n (j + 1) _ hk
   exact ⟨_, q1, ⟨hl, q2⟩, by simp [q3]⟩
  ·exact hk.elim

def RvsOf (H : Nat → Option SB) (ρ : Nat → Pl) (w : World) (rs : List RV) (v : Value) : Prop :=
 (∃ r, rs = [r] ∧ RvD H ρ w r v) ∨ (rs.length ≠ 1 ∧ ∃ vs, v = .tuple vs.toArray ∧ RvsD H ρ w rs vs)

theorem kvG_sound {h : Heap} (hm : Mem w0 M ρ (assoc h) w) {n : Nat} {x : SV} {v : Value} (hx : D (dmOf (assoc h)) ρ x v) {K : List RV → List (Option (List Seg)) → Prop} (hk : kvG n x h K) :
  ∃ rs fs, K rs fs ∧ RvsOf (assoc h) ρ w rs v ∧ FinH (assoc h) 600 fs ∧ fs.length = n := by
 unfold kvG at hk
 split at hk
 ·rename_i xs
  split at hk
  ·exact hk.elim
  ·rename_i hn
   simp only [D] at hx
   obtain ⟨vs, h1, rfl⟩ := hx
   obtain ⟨rs, q1, q2, q3⟩ := canVs_sound hm xs vs _ h1 hk
   obtain ⟨fs, q4, q5, q6⟩ := canF_sound n 600 _ q1
   refine ⟨rs, fs, q4, .inr ⟨fun e => ?_, vs, rfl, q2⟩, q5, q6⟩
   rw [q3] at e
   rw [e] at hn
   exact absurd hn (by decide)
 ·obtain ⟨r, q1, q2⟩ := canV_sound hm hx hk
  obtain ⟨fs, q4, q5, q6⟩ := canF_sound n 600 _ q1
  exact ⟨_, fs, q4, .inl ⟨r, rfl, q2⟩, q5, q6⟩

theorem eqCon_eq {a b : Con} (h : eqCon a b) : a = b := by
 cases a <;> cases b <;> simp only [eqCon] at h
 ·rw [keq_eq h.1, h.2]
 ·rw [keq_eq h.1, h.2.1, h.2.2]

def FreshAt (H : Nat → Option SB) (ρ : Nat → Pl) (w : World) (l : List Seg) (pl : Pl) : Prop :=
 ∃ vs, SegsD (fun _ => False) (fun _ => ({ blk := 0, off := 0, cap := 0 } : Pl)) l vs ∧ vs.length ≤ pl.cap ∧ w.rangeAt pl.blk pl.off vs ∧ w.there pl.blk pl.off pl.cap ∧
  (0 < pl.cap → ∃ key l', 1000 ≤ key ∧ H key = some (.segs false l') ∧ pl.blk = (ρ key).blk ∧ 0 < (ρ key).cap)

theorem res_one {h : Heap} (hm : Mem w0 M ρ (assoc h) w) {r r' : RV} {v : Value} (hr : RvD (assoc h) ρ w r v) (he : eqRV1 r r') :
    ∃ pl, (∀ l, frOf [r'] = some l → FreshAt (assoc h) ρ w l pl) ∧ ∀ (dm : Nat → Prop) (ρ' : Nat → Pl) (stamp : Nat), (frOf [r'] ≠ none → dm stamp ∧ ρ' stamp = pl) → D dm ρ' (resG stamp r') v := by
  cases r' with
  | v y =>
    refine ⟨({ blk := 0, off := 0, cap := 0 } : Pl), (fun l hl => by cases hl), fun dm ρ' stamp _ => ?_⟩
    cases r with
    | v x =>
      have he' : eqRV (.v x) (.v y) := by cases x <;> exact he
      exact eqV_D x y v he' hr
    | row q => exact (show eqRV (.row q) (.v y) from he).elim
    | ptr l => exact (show eqRV (.ptr l) (.v y) from he).elim
  | ptr l' =>
    cases r with
    | v x => have he' : eqRV (.v x) (.ptr l') := by cases x <;> exact he
             exact he'.elim
    | row q => exact (show eqRV (.row q) (.ptr l') from he).elim
    | ptr l =>
      have he' : eqSegs l l' := he
      obtain ⟨key, k1, k2, rfl⟩ := hr
      obtain ⟨cs, s1, s2, s3, s4⟩ := hm.segs k2
      refine ⟨ρ key, fun l0 hl => ?_, fun dm ρ' stamp hs => ?_⟩
      · simp only [frOf, Option.some.injEq] at hl
        subst hl
        exact ⟨cs, eqSegs_D l l' cs he' s1, s2, s3, s4 rfl, fun hc => ⟨key, l, k1, k2, rfl, hc⟩⟩
      · obtain ⟨q1, q2⟩ := hs (by simp [frOf])
        simp only [resG, D]
        exact ⟨q1, by rw [q2]⟩
  | row q' =>
    have main : ∀ q, conOk q → q = q' → (∃ key l pl ad cap, 1000 ≤ key ∧ assoc h key = some (.segs false l) ∧ v = .slice ad (conLen q) cap ∧ conLen q ≤ cap ∧ ((conLen q : Nat) : Int) < 9223372036854775808 ∧
      ((ad = some (at_ pl 0) ∧ conSize q * cap ≤ pl.cap) ∨ (conLen q = 0 ∧ cap = 0)) ∧ (conCells q).length ≤ pl.cap ∧ w.rangeAt pl.blk pl.off (conCells q) ∧ w.there pl.blk pl.off pl.cap ∧ (0 < pl.cap → pl.blk = (ρ key).blk ∧ 0 < (ρ key).cap)) →
        ∃ pl, (∀ l, frOf [RV.row q'] = some l → FreshAt (assoc h) ρ w l pl) ∧ ∀ (dm : Nat → Prop) (ρ' : Nat → Pl) (stamp : Nat), (frOf [RV.row q'] ≠ none → dm stamp ∧ ρ' stamp = pl) → D dm ρ' (resG stamp (.row q')) v := by
      rintro q hok rfl ⟨key, l, pl, ad, cap, k1, k2, rfl, k3, k4, k5, k6, k7, k8, k9⟩
      refine ⟨pl, fun l0 hl => ?_, fun dm ρ' stamp hs => ?_⟩
      · simp only [frOf, Option.some.injEq] at hl
        subst hl
        exact ⟨conCells q, segs_one (conRow_D hok), k6, k7, k8, fun hc => ⟨key, l, k1, k2, k9 hc⟩⟩
      · obtain ⟨q1, q2⟩ := hs (by simp [frOf])
        simp only [resG]
        exact sl_D q1 _ k4 k3 (by rw [q2]; exact k5)
    cases r with
    | v x =>
      cases x with
      | nsl =>
        obtain ⟨e1, e2⟩ := (show conLen q' = 0 ∧ conOk q' from he)
        have hv : v = .slice none 0 0 := hr
        subst hv
        have hnil : conCells q' = [] := List.eq_nil_of_length_eq_zero (by rw [conCells_length e2, e1]; simp)
        refine ⟨({ blk := 0, off := 0, cap := 0 } : Pl), fun l0 hl => ?_, fun dm ρ' stamp hs => ?_⟩
        · simp only [frOf, Option.some.injEq] at hl
          subst hl
          have := segs_one (conRow_D (ρ := fun _ => ({ blk := 0, off := 0, cap := 0 } : Pl)) (dm := fun _ => False) e2)
          rw [hnil] at this
          exact ⟨[], this, Nat.le_refl _, rangeAt_nil _ _ _, there_zero _ _ _, fun hc => absurd hc (by simp)⟩
        · obtain ⟨q1, q2⟩ := hs (by simp [frOf])
          simp only [resG]
          have := sl_D (es := conSize q') (a := none) (cap := 0) (ρ := ρ') q1 (conLen q') (by omega) (by omega) (.inr ⟨e1, rfl⟩)
          rwa [show (Value.slice none (conLen q') 0) = .slice none 0 0 by rw [e1]] at this
      | _ => simp [eqRV1, eqRV] at he
    | ptr l => exact (show eqRV (.ptr l) (.row q') from he).elim
    | row q => exact main q hr.1 (eqCon_eq (show eqCon q q' from he)) hr.2

theorem res_all {h : Heap} (hm : Mem w0 M ρ (assoc h) w) : ∀ (rs rs' : List RV) (vs : List Value), RvsD (assoc h) ρ w rs vs → eqRVs rs rs' → oneFr rs' = true →
  ∃ pl, (∀ l, frOf rs' = some l → FreshAt (assoc h) ρ w l pl) ∧ ∀ (dm : Nat → Prop) (ρ' : Nat → Pl) (stamp : Nat), (frOf rs' ≠ none → dm stamp ∧ ρ' stamp = pl) → Ds dm ρ' (resGs stamp rs') vs
 | [], [], vs, hr, he, ho => ⟨({ blk := 0, off := 0, cap := 0 } : Pl), (fun l hl => by cases hl), fun dm ρ' stamp _ => hr⟩
 | [], _ :: _, vs, hr, he, ho => he.elim
 | _ :: _, [], vs, hr, he, ho => he.elim
 | r :: t, r' :: t', vs, hr, he, ho => by
  obtain ⟨v, c, h1, rfl, h2⟩ := hr
  obtain ⟨pl, a1, a2⟩ := res_one hm h1 he.1
  cases hf : frOf [r'] with
  | none =>
   have hff : frOf (r' :: t') = frOf t' := by cases r' <;> simp [frOf] at hf ⊢
   have ho' : oneFr t' = true := by cases r' <;> simp [frOf] at hf; exact ho
   obtain ⟨pl2, b1, b2⟩ := res_all hm t t' c h2 he.2 ho'
   refine ⟨pl2, fun l hl => b1 l (by rw [← hff]; exact hl), fun dm ρ' stamp hs => ?_⟩
   exact ⟨v, _, a2 dm ρ' stamp (fun h => absurd hf h), rfl, b2 dm ρ' stamp (fun h => hs (by rw [hff]; exact h))⟩
  | some l0 =>
   have hft : frOf t' = none := by
    cases r' with
    | v x => simp [frOf] at hf
    | row q => simp only [oneFr] at ho; split at ho <;> simp_all
    | ptr l => simp only [oneFr] at ho; split at ho <;> simp_all
   have ho' : oneFr t' = true := by
    have : ∀ t : List RV, frOf t = none → oneFr t = true := by
     intro t
     induction t with
     | nil => intro _; rfl
     | cons x r ih => intro hh; cases x <;> simp [frOf] at hh; exact ih hh
    exact this t' hft
   have hff : frOf (r' :: t') = frOf [r'] := by cases r' <;> simp [frOf] at hf ⊢
   obtain ⟨pl2, b1, b2⟩ := res_all hm t t' c h2 he.2 ho'
   refine ⟨pl, fun l hl => a1 l (by rw [← hff]; exact hl), fun dm ρ' stamp hs => ?_⟩
   have hs' := hs (by rw [hff, hf]; simp)
   exact ⟨v, _, a2 dm ρ' stamp (fun _ => hs'), rfl, b2 dm ρ' stamp (fun h => absurd hft h)⟩

theorem res_of {h : Heap} (hm : Mem w0 M ρ (assoc h) w) {rs rs' : List RV} {v : Value} (hr : RvsOf (assoc h) ρ w rs v) (he : eqRVs rs rs') (ho : oneFr rs' = true) :
  ∃ pl, (∀ l, frOf rs' = some l → FreshAt (assoc h) ρ w l pl) ∧ ∀ (dm : Nat → Prop) (ρ' : Nat → Pl) (stamp : Nat), (frOf rs' ≠ none → dm stamp ∧ ρ' stamp = pl) → D dm ρ' (resOf stamp rs') v := by
 have hlen : ∀ (a b : List RV), eqRVs a b → a.length = b.length := by
  intro a
  induction a with
  | nil => intro b hb; cases b <;> simp [eqRVs] at hb ⊢
  | cons x r ih => intro b hb; cases b <;> simp [eqRVs] at hb ⊢; exact ih _ hb.2
 rcases hr with ⟨r, rfl, h1⟩ | ⟨hn, vs, rfl, h1⟩
 ·match rs', he with
  | [r'], he =>
   obtain ⟨pl, a1, a2⟩ := res_one hm h1 he.1
   exact ⟨pl, a1, fun dm ρ' stamp hs => a2 dm ρ' stamp hs⟩
 ·obtain ⟨pl, a1, a2⟩ := res_all hm rs rs' vs h1 he ho
  refine ⟨pl, a1, fun dm ρ' stamp hs => ?_⟩
  have e : resOf stamp rs' = .tup (resGs stamp rs') := by
   match rs', hlen rs rs' he with
   | [], _ => rfl
   | [r'], hl => exact absurd hl hn
   | _ :: _ :: _, _ => rfl
  rw [e]
  simp only [D]
  exact ⟨vs, a2 dm ρ' stamp hs, rfl⟩

theorem nodupN_iff : ∀ {l : List Nat}, nodupN l = true → l.Nodup
 | [], _ => List.nodup_nil
 | x :: r, h => by
  simp only [nodupN] at h
  split at h
  ·cases h
  ·rename_i e
   refine List.nodup_cons.2 ⟨fun hx => ?_, nodupN_iff h⟩
   rw [memN_iff.2 hx] at e; cases e

def finB : Option (List Seg) → SB
 | some l => .segs false l
 | none => .gone

theorem finW_len : ∀ {ks : List Nat} {fin : List (Option (List Seg))} {ws : List (Nat × SB)}, finW ks fin = some ws → fin.length = ks.length
 | [], [], ws, h => rfl
 | [], _ :: _, ws, h => by simp [finW] at h
 | _ :: _, [], ws, h => by simp [finW] at h
 | k :: ks, some l :: r, ws, h => by
  simp only [finW] at h
  split at h
  ·rename_i ws' e; simp [finW_len e]
  ·cases h
 | k :: ks, none :: r, ws, h => by
  simp only [finW] at h
  split at h
  ·rename_i ws' e; simp [finW_len e]
  ·cases h

theorem finW_upd : ∀ {ks : List Nat} {fin : List (Option (List Seg))} {ws : List (Nat × SB)}, finW ks fin = some ws → ks.Nodup → ∀ (H : Nat → Option SB),
  (∀ k, k ∉ ks → updsH H ws k = H k) ∧ ∀ i, i < ks.length → updsH H ws (ks.getD i 0) = some (finB (fin.getD i none))
 | [], [], ws, h, hn, H => by
  simp only [finW, Option.some.injEq] at h; subst h
  exact ⟨fun k _ => rfl, fun i hi => by simp at hi⟩
 | [], _ :: _, ws, h, _, _ => by simp [finW] at h
 | _ :: _, [], ws, h, _, _ => by simp [finW] at h
 | k :: ks, b :: r, ws, h, hn, H => by
  have hh : ∃ ws', finW ks r = some ws' ∧ ws = (k, finB b) :: ws' := by
   cases b <;> simp only [finW] at h <;> split at h
   ·rename_i ws' e; exact ⟨ws', e, (Option.some.inj h).symm⟩
   ·cases h
   ·rename_i ws' e; exact ⟨ws', e, (Option.some.inj h).symm⟩
   ·cases h
  obtain ⟨ws', e, rfl⟩ := hh
  obtain ⟨hk, hn'⟩ := List.nodup_cons.1 hn
  obtain ⟨q1, q2⟩ := finW_upd e hn' (updH H k (finB b))
  refine ⟨fun k' hk' => ?_, fun i hi => ?_⟩
  ·simp only [List.mem_cons, not_or] at hk'
   show updsH (updH H k (finB b)) ws' k' = H k'
   rw [q1 k' hk'.2, updH_ne hk'.1]
  ·show updsH (updH H k (finB b)) ws' _ = _
   cases i with
   | zero =>
    simp only [List.getD_cons_zero]
    rw [q1 k hk, updH_same]
   | succ i =>
    simp only [List.getD_cons_succ]
    exact q2 i (by simpa using hi)

theorem finH_at {H : Nat → Option SB} : ∀ (fs : List (Option (List Seg))) (j i : Nat), FinH H j fs → i < fs.length → H (j + i) = some (finB (fs.getD i none))
 | some l :: r, j, 0, h, hi => h.1
 | none :: r, j, 0, h, hi => h.1
 | some l :: r, j, i + 1, h, hi => by
  have := finH_at r (j + 1) i h.2 (by simpa using hi)
  rw [show j + (i + 1) = j + 1 + i by omega]; simpa using this
 | none :: r, j, i + 1, h, hi => by
  have := finH_at r (j + 1) i h.2 (by simpa using hi)
  rw [show j + (i + 1) = j + 1 + i by omega]; simpa using this

theorem eqFin_at : ∀ (fs fs' : List (Option (List Seg))) (i : Nat), eqFin fs fs' → ∀ l', fs'.getD i none = some l' → ∃ l, fs.getD i none = some l ∧ eqSegs l l'
 | [], [], i, h, l', hl => by simp at hl
 | [], _ :: _, i, h, l', hl => h.elim
 | _ :: _, [], i, h, l', hl => h.elim
 | x :: r, y :: t, 0, h, l', hl => by
  simp only [List.getD_cons_zero] at hl ⊢
  subst hl
  cases x with
  | none => exact h.1.elim
  | some l => exact ⟨l, rfl, h.1⟩
 | x :: r, y :: t, i + 1, h, l', hl => by
  simp only [List.getD_cons_succ] at hl ⊢
  exact eqFin_at r t i h.2 l' hl

end
end Go.Gx

/- Contracts in general: the theorem. -/
namespace Go.Gx
open Go.RowKit
set_option linter.unusedVariables false

section
variable {P : Program} {Γ : Tab}

theorem genCtr_run {H : Nat → Option SB} {ms : List Md} {spec : List AV → Option (List Prop × List RV × List (Option (List Seg)))} {stamp : Nat} {args : List SV} {rs rs' : List Nat} {d : Delta} (h : (genCtr ms spec stamp args).run H rs = some (d, rs')) :
  nodupN (ownKeys ms args) = true ∧ ∃ f : List Prop → List AV → RP Delta, (getA (ownKeys ms args) ms args f).run H rs = some (d, rs') ∧ ∀ p avs rs1, (f p avs).run H rs1 = some (d, rs') →
   ∃ p' rvs fin ws, spec avs = some (p', rvs, fin) ∧ finW (ownKeys ms args) fin = some ws ∧ (oneFr rvs && Nat.ble fin.length 100) = true ∧
    ((frOf rvs = none ∧ d = ⟨p ++ p', resOf stamp rvs, ws, true⟩) ∨ ∃ l, frOf rvs = some l ∧ H stamp = none ∧ d = ⟨p ++ p', resOf stamp rvs, (stamp, .segs false l) :: ws, true⟩) := by
 unfold genCtr at h
 simp only at h
 split at h
 ·rename_i hn
  refine ⟨hn, _, h, fun p avs rs1 h1 => ?_⟩
  split at h1
  ·rename_i p' rvs fin hs
   split at h1
   ·rename_i ws hws ho
    split at h1
    ·rename_i hf
     exact ⟨p', rvs, fin, ws, hs, hws, ho, .inl ⟨hf, run_ret h1⟩⟩
    ·rename_i l hf
     simp only [RP.run] at h1
     split at h1
     ·rename_i hst
      exact ⟨p', rvs, fin, ws, hs, hws, ho, .inr ⟨l, hf, hst, run_ret h1⟩⟩
     ·simp [RP.run] at h1
   ·simp [RP.run] at h1
  ·simp [RP.run] at h1
 ·simp [RP.run] at h

theorem gen_mem {w0 : World} {M : Nat → Prop} {ρ : Nat → Pl} {H : Nat → Option SB} {w : World} (hG : Glob Γ.gh w0 M) (hgl : Γ.gl = keysOf Γ.gh) (hlow : ∀ g ∈ keysOf Γ.gh, g < 490) (hm : Mem w0 M ρ H w) {ks : List Nat} (hks : ∀ k ∈ ks, ∃ l, H k = some (.segs false l)) (hnd : ks.Nodup)
  {M' : Nat → Prop} (hM' : ∀ b, M' b ↔ ∃ k ∈ ks, 0 < (ρ k).cap ∧ b = (ρ k).blk) {h6 : Heap}
  (h1 : ∀ k b, assoc h6 k = some b → ∃ i, k = 600 + i ∧ i < ks.length ∧ ∃ l l', b = .segs false l' ∧ H (ks.getD i 0) = some (.segs false l) ∧ ∀ (dm : Nat → Prop) (ρ' : Nat → Pl) (cs : List Value), SegsD (dmOf H) ρ l cs → SegsD dm ρ' l' cs)
  (h2 : ∀ i, i < ks.length → (assoc h6 (600 + i)).isSome = true) :
  ∃ ρ1 : Nat → Pl, Mem w M' ρ1 (assoc (Γ.gh ++ (490, .world) :: h6)) w ∧ GlOk Γ w M' ρ1 (assoc (Γ.gh ++ (490, .world) :: h6)) ∧ dmOf (assoc (Γ.gh ++ (490, .world) :: h6)) 490 ∧ (ρ1 490).rel = RoD w (OutB w M') ∧
   ∀ i, i < ks.length → dmOf (assoc (Γ.gh ++ (490, .world) :: h6)) (600 + i) ∧ ρ1 (600 + i) = ρ (ks.getD i 0) := by
 obtain ⟨ρg, g1, g2, g3⟩ := mem_of_glob hG hm
 have hMo : ∀ b, M' b → w0.heap.size ≤ b ∨ M b := fun b hb => by
  obtain ⟨k, hk, hc, rfl⟩ := (hM' b).1 hb
  obtain ⟨l, hl⟩ := hks k hk
  exact hm.own k l hl hc
 have hne : ∀ g b, (g, b) ∈ Γ.gh → ¬ M' g := fun g b hgb hb => by
  obtain ⟨_, _, _, _, _, q1, q2⟩ := hG g b hgb
  rcases hMo g hb with hh | hh
  ·omega
  ·exact q1 hh
 have hlow : ∀ k b, assoc Γ.gh k = some b → k < 490 := fun k b hb => hlow k (keysOf_of_dm (by unfold dmOf; rw [hb]; rfl))
 have hro : ∀ k b, assoc Γ.gh k = some b → ∃ l, b = .segs true l := fun k b hb => by
  obtain ⟨l, _, e, _⟩ := g2 k b (assoc_mem hb); exact ⟨l, e⟩
 let HH : Heap := Γ.gh ++ (490, .world) :: h6
 have hat : ∀ k b, assoc HH k = some b → (k < 490 ∧ assoc Γ.gh k = some b) ∨ (k = 490 ∧ b = .world) ∨ (600 ≤ k ∧ assoc h6 k = some b) := fun k b hb => by
  have hb : assoc (Γ.gh ++ (490, .world) :: h6) k = some b := hb
  rw [assoc_app] at hb
  split at hb
  ·rename_i x hx
   rw [hb] at hx
   exact .inl ⟨hlow k b hx, hx⟩
  ·simp only [assoc] at hb
   split at hb
   ·rename_i e
    simp only [Option.some.injEq] at hb
    exact .inr (.inl ⟨(Nat.eq_of_beq_eq_true e).symm, hb.symm⟩)
   ·obtain ⟨i, rfl, _⟩ := h1 k b hb
    exact .inr (.inr ⟨by omega, hb⟩)
 have hup : ∀ k b, assoc Γ.gh k = some b → assoc HH k = some b := fun k b hb => by
  show assoc (Γ.gh ++ (490, .world) :: h6) k = _
  rw [assoc_app, hb]
 have hnlow : ∀ k, 490 ≤ k → assoc Γ.gh k = none := fun k hk => by
  cases e : assoc Γ.gh k with
  | none => rfl
  | some b => have := hlow k b e; omega
 have h490 : assoc HH 490 = some .world := by
  show assoc (Γ.gh ++ (490, .world) :: h6) 490 = _
  rw [assoc_app, hnlow 490 (Nat.le_refl _)]
  simp [assoc]
 have hup6 : ∀ k, 600 ≤ k → assoc HH k = assoc h6 k := fun k hk => by
  show assoc (Γ.gh ++ (490, .world) :: h6) k = _
  rw [assoc_app, hnlow k (by omega)]
  have : Nat.beq 490 k = false := by
   cases hb : Nat.beq 490 k with
   | false => rfl
   | true => have := Nat.eq_of_beq_eq_true hb; omega
  simp only [assoc, this]
 let ρ1 : Nat → Pl := fun k => if k < 490 then ρg k else if k < 600 then { blk := 0, off := 0, cap := 0, rel := RoD w (OutB w M') } else ρ (ks.getD (k - 600) 0)
 have hρg : ∀ k, k < 490 → ρ1 k = ρg k := fun k hk => by simp [ρ1, hk]
 have hρ6 : ∀ i, ρ1 (600 + i) = ρ (ks.getD i 0) := fun i => by
  have h1 : ¬ (600 + i < 490) := by omega
  have h2 : ¬ (600 + i < 600) := by omega
  simp only [ρ1, h1, h2, if_false]
  rw [Nat.add_sub_cancel_left]
 have hmk : ∀ i, i < ks.length → ks.getD i 0 ∈ ks := fun i hi => by
  rw [List.getD_eq_getElem?_getD, List.getElem?_eq_getElem hi]
  exact List.getElem_mem hi
 have hinj : ∀ i i', i < ks.length → i' < ks.length → i ≠ i' → ks.getD i 0 ≠ ks.getD i' 0 := fun i i' hi hi' hne e => by
  rw [List.getD_eq_getElem?_getD, List.getD_eq_getElem?_getD, List.getElem?_eq_getElem hi, List.getElem?_eq_getElem hi'] at e
  have e : ks[i] = ks[i'] := e
  rcases Nat.lt_or_gt_of_ne hne with h | h
  ·exact List.pairwise_iff_getElem.1 hnd i i' hi hi' h e
  ·exact List.pairwise_iff_getElem.1 hnd i' i hi' hi h e.symm
 refine ⟨ρ1, ⟨⟨fun k b hb => ?_, fun k k' ro ro' l1 l2 e1 e2 hkk hr c1 c2 => ?_, fun k ro l1 e1 c1 => ?_⟩, FrameW.refl _ _, fun k l1 e1 c1 => ?_, fun k e1 => ?_, fun k l1 e1 c1 => ?_, .none (fun k kd ms e1 => by
   rcases hat k _ e1 with ⟨_, h⟩ | ⟨_, h⟩ | ⟨_, h⟩
   ·obtain ⟨_, e⟩ := hro k _ h; cases e
   ·cases h
   ·obtain ⟨i, _, h⟩ := h1 k _ h
    obtain ⟨_, _, _, e, _⟩ := h
    cases e)⟩, ⟨fun g hg => ?_, fun g b hgb => ?_⟩, by unfold dmOf; rw [h490]; rfl, by simp [ρ1], fun i hi => ⟨?_, hρ6 i⟩⟩
 ·rcases hat k b hb with ⟨hk, hb'⟩ | ⟨rfl, rfl⟩ | ⟨hk, hb'⟩
  ·refine (g1.heap.blk k b hb').of_block (fun j hj => ?_) (fun j hj => ?_) (hρg k hk) (fun _ _ _ _ => rfl)
   ·unfold dmOf at hj ⊢
    obtain ⟨b', hb''⟩ := Option.isSome_iff_exists.1 hj
    rw [hup j b' hb'']; rfl
   ·unfold dmOf at hj
    obtain ⟨b', hb''⟩ := Option.isSome_iff_exists.1 hj
    exact .of_eq (hρg j (hlow j b' hb''))
  ·trivial
  ·obtain ⟨i, rfl, hi, l, l', rfl, hl, hd⟩ := h1 k b hb'
   obtain ⟨cs, hcs, hcl, hra, hth⟩ := hm.heap.blk _ _ hl
   exact ⟨cs, hd _ _ cs hcs, by rw [hρ6]; exact hcl, by rw [hρ6]; exact hra, fun _ => by rw [hρ6]; exact hth rfl⟩
 ·have hk0 : ∀ a b lx, assoc HH a = some (.segs b lx) → 0 < (ρ1 a).cap → (a < 490 ∧ b = true ∧ ¬ M' (ρ1 a).blk) ∨ (∃ i, a = 600 + i ∧ i < ks.length ∧ M' (ρ1 a).blk) := fun a b lx ha hca => by
   rcases hat a _ ha with ⟨ha1, ha'⟩ | ⟨_, ha'⟩ | ⟨ha1, ha'⟩
   ·obtain ⟨lz, ez⟩ := hro a _ ha'
    simp only [SB.segs.injEq] at ez
    exact .inl ⟨ha1, ez.1, by rw [hρg a ha1, (g3 a).1]; exact hne a _ (assoc_mem ha')⟩
   ·cases ha'
   ·obtain ⟨i, rfl, hi, l, l', e, hl, hd⟩ := h1 a _ ha'
    exact .inr ⟨i, rfl, hi, (hM' _).2 ⟨ks.getD i 0, hmk i hi, by rw [hρ6] at hca; exact hca, by rw [hρ6]⟩⟩
  rcases hk0 k ro l1 e1 c1 with ⟨a1, a2, a3⟩ | ⟨i, rfl, hi, a3⟩
  ·rcases hk0 k' ro' l2 e2 c2 with ⟨b1, b2, b3⟩ | ⟨i', rfl, hi', b3⟩
   ·rw [a2, b2] at hr; rcases hr with hr | hr <;> cases hr
   ·intro e; rw [e] at a3; exact a3 b3
  ·rcases hk0 k' ro' l2 e2 c2 with ⟨b1, b2, b3⟩ | ⟨i', rfl, hi', b3⟩
   ·intro e; rw [e] at a3; exact b3 a3
   ·rw [hρ6] at c1 ⊢
    rw [hρ6] at c2 ⊢
    obtain ⟨l, hl⟩ := hks _ (hmk i hi)
    obtain ⟨l', hl'⟩ := hks _ (hmk i' hi')
    exact hm.heap.sep _ _ false false l l' hl hl' (hinj i i' hi hi' (fun e => hkk (by rw [e]))) (.inl rfl) c1 c2
 ·rcases hat k _ e1 with ⟨h1', h1''⟩ | ⟨_, h1'⟩ | ⟨hk, h1'⟩
  ·rw [hρg k h1'] at c1 ⊢; exact g1.heap.lt k ro l1 h1'' c1
  ·cases h1'
  ·obtain ⟨i, rfl, hi, l, l', e, hl, hd⟩ := h1 k _ h1'
   rw [hρ6] at c1 ⊢
   exact hm.heap.lt _ _ _ hl c1
 ·rcases hat k _ e1 with ⟨h1', h1''⟩ | ⟨_, h1'⟩ | ⟨hk, h1'⟩
  ·obtain ⟨lz, ez⟩ := hro k _ h1''
   simp only [SB.segs.injEq] at ez
   cases ez.1
  ·cases h1'
  ·obtain ⟨i, rfl, hi, l, l', e, hl, hd⟩ := h1 k _ h1'
   exact .inr ((hM' _).2 ⟨ks.getD i 0, hmk i hi, by rw [hρ6] at c1; exact c1, by rw [hρ6]⟩)
 ·rcases hat k _ e1 with ⟨h1', h1''⟩ | ⟨rfl, _⟩ | ⟨hk, h1'⟩
  ·obtain ⟨lz, ez⟩ := hro k _ h1''; cases ez
  ·simp [ρ1]
  ·obtain ⟨i, rfl, hi, l, l', e, hl, hd⟩ := h1 k _ h1'; cases e
 ·rcases hat k _ e1 with ⟨h1', h1''⟩ | ⟨_, h1'⟩ | ⟨hk, h1'⟩
  ·obtain ⟨lz, ez⟩ := hro k _ h1''
   simp only [SB.segs.injEq] at ez
   cases ez.1
  ·cases h1'
  ·obtain ⟨i, rfl, hi, l, l', e, hl, hd⟩ := h1 k _ h1'
   rw [hρ6] at c1 ⊢
   exact hm.clean _ _ hl c1
 ·have hdm : dmOf (assoc Γ.gh) g := assoc_dm (by rw [← hgl]; exact hg)
  unfold dmOf at hdm
  obtain ⟨b', hb''⟩ := Option.isSome_iff_exists.1 hdm
  refine ⟨by unfold dmOf; rw [hup g b' hb'']; rfl, ?_, ?_⟩
  ·rw [hρg g (hlow g b' hb'')]; exact (g3 g).1
  ·rw [hρg g (hlow g b' hb'')]; exact (g3 g).2
 ·obtain ⟨lz, vz, q0, q1, q2, _, q4⟩ := g2 g b hgb
  exact ⟨lz, vz, q0, q1, q2, hne g b hgb, q4⟩
 ·unfold dmOf
  rw [hup6 _ (by omega)]
  exact h2 i hi

theorem gen_core (hΓ : TabOk P Γ) (hgl : Γ.gl = keysOf Γ.gh) (hlow : ∀ g ∈ keysOf Γ.gh, g < 490) {f : FuncId} {fn : Func} (hf : P.funcs[f]? = some fn)
  {w0 : World} {M : Nat → Prop} {ρ : Nat → Pl} {H : Nat → Option SB} {w : World} (hG : Glob Γ.gh w0 M) (hm : Mem w0 M ρ H w) {ks : List Nat} (hnd : ks.Nodup) {avs : List AV} {vs : List Value} {M' : Nat → Prop} (hM'' : ∀ b, M' b ↔ ∃ k ∈ ks, 0 < (ρ k).cap ∧ b = (ρ k).blk) (hA : AsD w (OutB w M') H ρ avs vs ks)
  {rvs : List RV} {fin : List (Option (List Seg))} {args' : List SV} {h6 : Heap} {L : Loops} {inv : Nat → List Pv → Nat → Prop} (k1 : okA 600 avs args' h6) (k2 : args'.length ≤ fn.ntmps)
  (k3 : VcG fin.length Γ fn L (Γ.gh ++ (490, .world) :: h6) args' (fun rvs' fin' => eqRVs rvs' rvs ∧ eqFin fin' fin) inv) (ho : oneFr rvs = true) (hsmall : fin.length ≤ 100) (hfl : fin.length = ks.length)
  {stamp : Nat} (hst : frOf rvs ≠ none → H stamp = none) {H' : Nat → Option SB} (hk1 : ∀ k, k ∉ ks → k ≠ stamp → H' k = H k) (hk2 : frOf rvs = none → ∀ k, k ∉ ks → H' k = H k)
  (hk3 : ∀ i, i < ks.length → H' (ks.getD i 0) = some (finB (fin.getD i none))) (hk4 : ∀ l, frOf rvs = some l → H' stamp = some (.segs false l)) :
  Calls P f vs.toArray w fun e w' => ∃ v ρ'', e = .returned v ∧ Ext H ρ ρ'' ∧ D (dmOf H') ρ'' (resOf stamp rvs) v ∧ Mem w0 M ρ'' H' w' ∧ FrameW M' w w' ∧ (∀ k, k ≠ stamp → ρ'' k = ρ k) ∧ (frOf rvs = none → ρ'' = ρ) ∧
   (frOf rvs ≠ none → 0 < (ρ'' stamp).cap → w.heap.size ≤ (ρ'' stamp).blk ∨ M' (ρ'' stamp).blk) := by
 have hkeys := AsD.keys avs vs ks hA
 obtain ⟨hh1, hh2⟩ := okA_heap avs vs ks 600 args' h6 hA k1
 obtain ⟨ρ1, m1, m2, m3, m4, m5⟩ := gen_mem hG hgl hlow hm hkeys hnd hM'' hh1 hh2
 have hargs := okA_args m3 m4 avs vs ks 600 args' h6 hA k1 m5
 refine (vcG_calls hΓ hf k3 k2 m2 m1 hargs).mono fun e w' he => ?_
 obtain ⟨x, v, h', ρ', rfl, r1, r2, r3, r4⟩ := he
 obtain ⟨rvs', fin', ⟨t1, t2⟩, t3, t4, t5⟩ := kvG_sound r3 r2 r1
 obtain ⟨pl, u1, u2⟩ := res_of r3 t3 t1 ho
 have hρ6 : ∀ i, i < ks.length → PlLe (ρ (ks.getD i 0)) (ρ' (600 + i)) := fun i hi => by
  have := (r4 _ (m5 i hi).1).2
  rwa [(m5 i hi).2] at this
 have hmk : ∀ i, i < ks.length → ks.getD i 0 ∈ ks := fun i hi => by
  rw [List.getD_eq_getElem?_getD, List.getElem?_eq_getElem hi]
  exact List.getElem_mem hi
 have hidx : ∀ k ∈ ks, ∃ i, i < ks.length ∧ ks.getD i 0 = k := fun k hk => by
  obtain ⟨i, hi, e⟩ := List.getElem_of_mem hk
  exact ⟨i, hi, by rw [List.getD_eq_getElem?_getD, List.getElem?_eq_getElem hi]; exact e⟩
 have hMo : ∀ b, M' b → w0.heap.size ≤ b ∨ M b := fun b hb => by
  obtain ⟨k, hk, hc, rfl⟩ := (hM'' b).1 hb
  obtain ⟨l, hl⟩ := hkeys k hk
  exact hm.own k l hl hc
 -- the records, at the end
 have hrec : ∀ i, i < ks.length → ∀ l', fin.getD i none = some l' → ∃ l, assoc h' (600 + i) = some (.segs false l) ∧ eqSegs l l' := fun i hi l' hl' => by
  obtain ⟨l, q1, q2⟩ := eqFin_at fin' fin i t2 l' hl'
  have := finH_at fin' 600 i t4 (by omega)
  rw [q1] at this
  exact ⟨l, this, q2⟩
 have main : ∀ (T : Nat → Prop) (ρ'' : Nat → Pl), (∀ k, T k ↔ k ∈ ks ∨ (k = stamp ∧ frOf rvs ≠ none)) → (∀ k, k ≠ stamp → ρ'' k = ρ k) → (frOf rvs = none → ρ'' = ρ) → (frOf rvs ≠ none → ρ'' stamp = pl) → Mem w0 M ρ'' H' w' := by
  intro T ρ'' hTd hr1 hr2 hr3
  have hstk : frOf rvs ≠ none → stamp ∉ ks := fun hne hmem => by
   obtain ⟨l, hl⟩ := hkeys stamp hmem
   rw [hst hne] at hl; cases hl
  have hρk : ∀ k ∈ ks, ρ'' k = ρ k := fun k hk => by
   by_cases e : frOf rvs = none
   ·rw [hr2 e]
   ·exact hr1 k fun e' => hstk e (e' ▸ hk)
  refine Mem.merge hm r3.frame (T := T) (fun k hk => ?_) (fun k hk => ?_) (fun k hk => ?_) hMo (fun k ro l hk hkk hc hb => ?_) (fun k b hk hkb => ?_) (fun k kd ms hk e => by
   rcases (hTd k).1 hk with h | ⟨h, h2⟩
   ·obtain ⟨i, hi, rfl⟩ := hidx k h
    rw [hk3 i hi] at e
    cases hfi : fin.getD i none <;> rw [hfi] at e <;> cases e
   ·subst h
    cases hfr : frOf rvs with
    | none => exact h2 hfr
    | some l => rw [hk4 l hfr] at e; cases e) (fun k kd ms i c hk hi h0 hb => by
   obtain ⟨k0, hk0, hc0, e⟩ := (hM'' _).1 hb
   obtain ⟨l0, hl0⟩ := hkeys k0 hk0
   exact hm.pools.apartD k kd ms k0 false l0 i c hk hl0 hc0 hi h0 e.symm) (fun k k' l l' t1 t2 hkk e1 e2 c1 c2 => ?_)
  ·have hk := fun h => hk ((hTd k).2 h)
   by_cases e : frOf rvs = none
   ·exact hk2 e k fun h => hk (.inl h)
   ·exact hk1 k (fun h => hk (.inl h)) fun h => hk (.inr ⟨h, e⟩)
  ·by_cases e : frOf rvs = none
   ·rw [hr2 e]
   ·refine hr1 k fun e' => ?_
    subst e'
    unfold dmOf at hk
    rw [hst e] at hk; cases hk
  ·by_cases e : k ∈ ks
   ·obtain ⟨i, hi, rfl⟩ := hidx k e
    unfold dmOf; rw [hk3 i hi]; rfl
   ·by_cases e' : k = stamp
    ·by_cases e2 : frOf rvs = none
     ·unfold dmOf at hk ⊢; rw [hk2 e2 k e]; exact hk
     ·subst e'
      unfold dmOf at hk
      rw [hst e2] at hk; cases hk
    ·unfold dmOf at hk ⊢; rw [hk1 k e e']; exact hk
  ·obtain ⟨k0, hk0, hc0, e⟩ := (hM'' _).1 hb
   obtain ⟨l0, hl0⟩ := hkeys k0 hk0
   have hne : k ≠ k0 := fun e => hk ((hTd k).2 (.inl (e ▸ hk0)))
   exact hm.heap.sep k k0 ro false l l0 hkk hl0 hne (.inr rfl) hc hc0 e
  ·rcases (hTd k).1 hk with hk | ⟨rfl, hne⟩
   ·obtain ⟨i, hi, rfl⟩ := hidx k hk
    rw [hk3 i hi] at hkb
    simp only [Option.some.injEq] at hkb
    subst hkb
    cases hfi : fin.getD i none with
    | none => exact ⟨⟨by simp [finB], fun _ _ => by simp [finB]⟩, fun ro l e => by cases e⟩
    | some l' =>
     refine ⟨⟨by simp [finB], fun _ _ => by simp [finB]⟩, fun ro l e => ?_⟩
     simp only [finB, SB.segs.injEq] at e
     obtain ⟨rfl, rfl⟩ := e
     obtain ⟨l1, q1, q2⟩ := hrec i hi l' hfi
     obtain ⟨cs, s1, s2, s3, s4⟩ := r3.segs q1
     rw [hρk _ hk, ← (hρ6 i hi).blk, ← (hρ6 i hi).off, ← (hρ6 i hi).cap]
     refine ⟨rfl, ⟨cs, eqSegs_D l1 l' cs q2 s1, s2, s3, s4 rfl⟩, fun hc => ⟨r3.heap.lt _ _ _ q1 hc, ?_, r3.clean _ _ q1 hc⟩⟩
     exact r3.own _ _ q1 hc
   ·cases hfr : frOf rvs with
    | none => exact absurd hfr hne
    | some l0 =>
     rw [hk4 l0 hfr] at hkb
     simp only [Option.some.injEq] at hkb
     subst hkb
     refine ⟨⟨by simp, fun _ _ => by simp⟩, fun ro l e => ?_⟩
     simp only [SB.segs.injEq] at e
     obtain ⟨rfl, rfl⟩ := e
     obtain ⟨cs, s1, s2, s3, s4, s5⟩ := u1 l0 hfr
     rw [hr3 hne]
     refine ⟨rfl, ⟨cs, s1, s2, s3, s4⟩, fun hc => ?_⟩
     obtain ⟨key, lk, z1, z2, z3, z4⟩ := s5 hc
     rw [z3]
     exact ⟨r3.heap.lt key _ _ z2 z4, r3.own key _ z2 z4, r3.clean key _ z2 z4⟩
  ·have hone : ∀ k l, k ∈ ks → H' k = some (.segs false l) → 0 < (ρ'' k).cap → ∃ i, i < ks.length ∧ ks.getD i 0 = k ∧ ∃ l1, assoc h' (600 + i) = some (.segs false l1) ∧ (ρ'' k).blk = (ρ' (600 + i)).blk ∧ (ρ'' k).cap = (ρ' (600 + i)).cap := fun k l hk e c => by
    obtain ⟨i, hi, rfl⟩ := hidx k hk
    rw [hk3 i hi] at e
    simp only [Option.some.injEq] at e
    cases hfi : fin.getD i none with
    | none => rw [hfi] at e; cases e
    | some l' =>
     obtain ⟨l1, q1, q2⟩ := hrec i hi l' hfi
     exact ⟨i, hi, rfl, l1, q1, by rw [hρk _ hk, (hρ6 i hi).blk], by rw [hρk _ hk, (hρ6 i hi).cap]⟩
   have hfr : ∀ l, frOf rvs ≠ none → H' stamp = some (.segs false l) → 0 < (ρ'' stamp).cap → ∃ key l', 1000 ≤ key ∧ assoc h' key = some (.segs false l') ∧ (ρ'' stamp).blk = (ρ' key).blk ∧ 0 < (ρ' key).cap := fun l hne e c => by
    cases hfr : frOf rvs with
    | none => exact absurd hfr hne
    | some l0 =>
     obtain ⟨cs, s1, s2, s3, s4, s5⟩ := u1 l0 hfr
     rw [hr3 hne] at c ⊢
     exact s5 c
   rcases (hTd k).1 t1 with hk | ⟨rfl, hne⟩
   ·obtain ⟨i, hi, rfl, la, q1, q2⟩ := hone k l hk e1 c1
    rcases (hTd k').1 t2 with hk' | ⟨rfl, hne⟩
    ·obtain ⟨i', hi', rfl, lb, q1', q2'⟩ := hone k' l' hk' e2 c2
     rw [q2.2] at c1
     rw [q2'.2] at c2
     rw [q2.1, q2'.1]
     exact r3.heap.sep _ _ false false la lb q1 q1' (fun e => hkk (by rw [show i = i' by omega])) (.inl rfl) c1 c2
    ·obtain ⟨key, lk, z1, z2, z3, z4⟩ := hfr l' hne e2 c2
     rw [q2.2] at c1
     rw [q2.1]
     rw [z3]
     by_cases e : 600 + i = key
     ·exfalso
      omega
     ·exact r3.heap.sep _ _ false false la lk q1 z2 e (.inl rfl) c1 z4
   ·obtain ⟨key, lk, z1, z2, z3, z4⟩ := hfr l hne e1 c1
    rcases (hTd k').1 t2 with hk' | ⟨rfl, _⟩
    ·obtain ⟨i', hi', rfl, lb, q1', q2'⟩ := hone k' l' hk' e2 c2
     rw [q2'.2] at c2
     rw [q2'.1]
     rw [z3]
     by_cases e : 600 + i' = key
     ·exfalso
      omega
     ·exact r3.heap.sep _ _ false false lk lb z2 q1' (Ne.symm e) (.inl rfl) z4 c2
    ·exact absurd rfl hkk
 cases hfr : frOf rvs with
 | none =>
  exact ⟨v, ρ, rfl, fun k _ => .refl _, u2 _ _ _ (fun h => absurd hfr h), main (fun k => k ∈ ks ∨ (k = stamp ∧ frOf rvs ≠ none)) ρ (fun k => .rfl) (fun _ _ => rfl) (fun _ => rfl) (fun h => absurd hfr h), r3.frame, fun _ _ => rfl, fun _ => rfl, fun h => absurd rfl h⟩
 | some l =>
  have hne : frOf rvs ≠ none := by rw [hfr]; simp
  refine ⟨v, updP ρ stamp pl, rfl, updP_keeps (hst hne), u2 _ _ _ (fun _ => ⟨by unfold dmOf; rw [hk4 l hfr]; rfl, updP_same _ _ _⟩), main (fun k => k ∈ ks ∨ (k = stamp ∧ frOf rvs ≠ none)) (updP ρ stamp pl) (fun k => .rfl) (fun k hk => updP_ne hk) (fun h => absurd h hne) (fun _ => updP_same _ _ _), r3.frame, fun k hk => updP_ne hk, fun h => by (cases h), fun _ hc => ?_⟩
  rw [updP_same] at hc ⊢
  obtain ⟨cs, s1, s2, s3, s4, s5⟩ := u1 l hfr
  obtain ⟨key, lk, z1, z2, z3, z4⟩ := s5 hc
  rw [z3]
  exact r3.own key lk z2 z4

theorem call_gen (hΓ : TabOk P Γ) (hgl : Γ.gl = keysOf Γ.gh) (hlow : ∀ g ∈ keysOf Γ.gh, g < 490) {f : FuncId} {fn : Func} (hf : P.funcs[f]? = some fn) (hn : (fn.name == "runtime.NumGoroutine") = false) (hb : fn.body.isNone = false)
  (ms : List Md) (spec : List AV → Option (List Prop × List RV × List (Option (List Seg))))
  (h : ∀ avs p rvs fin, spec avs = some (p, rvs, fin) → AllP p → FactA avs → ∃ args' h6 L inv, okA 600 avs args' h6 ∧ args'.length ≤ fn.ntmps ∧ VcG fin.length Γ fn L (Γ.gh ++ (490, .world) :: h6) args' (fun rvs' fin' => eqRVs rvs' rvs ∧ eqFin fin' fin) inv) : CallOk P Γ.gh f (genCtr ms spec) := by
 intro stamp args H rs rs' d vs w0 M ρ w hG hc hp hD hm
 obtain ⟨hnd0, f0, hget, hf0⟩ := genCtr_run hc
 have hnd := nodupN_iff hnd0
 generalize hks : ownKeys ms args = ks at *
 let M' : Nat → Prop := fun b => ∃ k ∈ ks, (∃ l, H k = some (.segs false l)) ∧ 0 < (ρ k).cap ∧ b = (ρ k).blk
 have hB : BanOk w0 M ρ H w ks M' := ⟨fun key ro l hban hkey hc hb => by
  obtain ⟨k, hk, ⟨l', hl'⟩, hc', e⟩ := hb
  have hne : key ≠ k := fun e => by subst e; rw [memN_iff.2 hk] at hban; cases hban
  exact hm.heap.sep key k ro false l l' hkey hl' hne (.inr rfl) hc hc' e, fun b hb hnM hb' => by
  obtain ⟨k, hk, ⟨l', hl'⟩, hc', rfl⟩ := hb'
  rcases hm.own k l' hl' hc' with h | h
  ·omega
  ·exact hnM h, fun key k ms i c _ _ hkey hi hc hb => by
  obtain ⟨k0, hk0, ⟨l', hl'⟩, hc', e⟩ := hb
  exact hm.pools.apartD key k ms k0 false l' i c hkey hl' hc' hi hc e.symm⟩
 obtain ⟨p, avs, rs1, hrun, hAs⟩ := getA_sound P hm hB ms args vs f0 d rs rs' hD hget
 obtain ⟨p', rvs, fin, ws, hs, hws, ho, hcase⟩ := hf0 p avs rs1 hrun
 simp only [Bool.and_eq_true] at ho
 have hsmall := Nat.le_of_ble_eq_true ho.2
 have ho := ho.1
 have hpp : AllP p ∧ AllP p' := by
  rcases hcase with ⟨_, rfl⟩ | ⟨l, _, _, rfl⟩ <;> exact AllP.append (l := p) (r := p') hp
 have hA := hAs hpp.1
 rw [hks] at hA
 have hkeys := AsD.keys avs vs ks hA
 obtain ⟨args', h6, L, inv, k1, k2, k3⟩ := h avs p' rvs fin hs hpp.2 (AsD.fact hm avs vs ks hA)
 have hM'' : ∀ b, M' b ↔ ∃ k ∈ ks, 0 < (ρ k).cap ∧ b = (ρ k).blk := fun b => ⟨fun ⟨k, a, _, c⟩ => ⟨k, a, c⟩, fun ⟨k, a, c⟩ => ⟨k, a, hkeys k a, c⟩⟩
 have hfl := finW_len hws
 obtain ⟨up1, up2⟩ := finW_upd hws hnd H
 refine .inr ⟨f, _, GoFn.run ⟨fn, hf, hn, hb⟩ _ _, ?_⟩
 rcases hcase with ⟨hfn, rfl⟩ | ⟨l, hfs, hst, rfl⟩
 ·refine (gen_core hΓ hgl hlow hf hG hm hnd hM'' hA k1 k2 k3 ho hsmall hfl (stamp := stamp) (fun h => absurd hfn h) (H' := updsH H ws) (fun k hk _ => up1 k hk) (fun _ k hk => up1 k hk) up2 (fun l hl => by rw [hfn] at hl; cases hl)).mono fun e w' he => ?_
  obtain ⟨v, ρ'', rfl, q1, q2, q3, _⟩ := he
  exact ⟨v, rfl, ρ'', q1, q2, q3⟩
 ·have hstk : stamp ∉ ks := fun hmem => by
   obtain ⟨l, hl⟩ := hkeys stamp hmem
   rw [hst] at hl; cases hl
  obtain ⟨up1', up2'⟩ := finW_upd hws hnd (updH H stamp (.segs false l))
  have hne : frOf rvs ≠ none := by rw [hfs]; simp
  have hH : ∀ k, updsH H ((stamp, .segs false l) :: ws) k = updsH (updH H stamp (.segs false l)) ws k := fun k => rfl
  have hstv : updsH H ((stamp, .segs false l) :: ws) stamp = some (.segs false l) := by rw [hH, up1' stamp hstk, updH_same]
  refine (gen_core hΓ hgl hlow hf hG hm hnd hM'' hA k1 k2 k3 ho hsmall hfl (stamp := stamp) (fun _ => hst) (H' := updsH H ((stamp, .segs false l) :: ws)) (fun k hk hks => by rw [hH, up1' k hk, updH_ne hks]) (fun h => absurd h hne) (fun i hi => by rw [hH]; exact up2' i hi) (fun l' hl => by rw [hfs] at hl; simp only [Option.some.injEq] at hl; subst hl; exact hstv)).mono fun e w' he => ?_
  obtain ⟨v, ρ'', rfl, q1, q2, q3, _⟩ := he
  exact ⟨v, rfl, ρ'', q1, q2, q3⟩

end
end Go.Gx

/- Write and Clone, as general contracts. -/
namespace Go.Gx
open Go.Proofs Go.Sp
set_option linter.unusedVariables false
set_option maxRecDepth 100000

theorem glow : ∀ g ∈ keysOf gh, g < 490 := fun g hg => by have hg : g ∈ [0, 2] := hg; simp at hg; omega
def R23 (ws bl : List Int) (n : Int) (m : Bool) : List Seg := [.arr .u64 8 false ws, .arr .u8 128 false bl, .one (.i .i64 ⟨false, n⟩), .one (.b false m)]
def H6 (l : List Seg) : Heap := gh ++ (490, .world) :: [(600, .segs false l)]
def L23g : Loops := [(1, ⟨[.p 600 0, .ro 490 (.ints .u8) (.l [])] ++ reps .any 48, H6 (R23 [] [] 0 false), 2000⟩)]
def vc23g (ws bl : List Int) (n : Int) (m : Bool) (d : RO) (K : List RV → List (Option (List Seg)) → Prop) (Q : Nat → List Pv → Prop) : Prop := fnVcG 1 Γ5 Tryd.f23 L23g [.p 600 0, .ro 490 (.ints .u8) d] (H6 (R23 ws bl n m)) K Q
def lc23g (d : RO) (k ws bl : List Int) (n : Int) (m : Bool) (K : List RV → List (Option (List Seg)) → Prop) (Q : Nat → List Pv → Prop) : Prop := loopVcG 1 Γ5 Tryd.f23 L23g 1 [.ro d, .l k, .l ws, .l bl, .z n, .b m] K Q
def vc23n (d : RO) (K : List RV → List (Option (List Seg)) → Prop) (Q : Nat → List Pv → Prop) : Prop := fnVcG 0 Γ5 Tryd.f23 [] [.np, .ro 490 (.ints .u8) d] (gh ++ (490, .world) :: []) K Q
def vc26g (ws bl : List Int) (n : Int) (m : Bool) (K : List RV → List (Option (List Seg)) → Prop) (Q : Nat → List Pv → Prop) : Prop := fnVcG 1 Γ5 Tryd.f26 [] [.p 600 0] (H6 (R23 ws bl n m)) K Q
theorem vc23g_eq : ∀ (ws bl : List Int) (n : Int) (m : Bool) (d : RO) (K : List RV → List (Option (List Seg)) → Prop) (Q : Nat → List Pv → Prop), vc23g ws bl n m d K Q = ForA .u64 8 ws fun x1 => ForA .u8 128 bl fun x2 => ForI .i64 n fun x3 => ∀ (x4 : Bool), x4 = !m → (x4 = true → K [] [some [Seg.arr .u64 8 false x1, Seg.arr .u8 128 false x2, Seg.one (SV.i .i64 { st := false, z := x3 }), Seg.one (SV.b false m)]]) ∧ (x4 = false → ForI .i64 (IntKind.i64.wrap (1152921504606846976 - x3)) fun x5 => (decide (((roL d).length : Int) > x5) = true → K [] [some [Seg.arr .u64 8 false x1, Seg.arr .u8 128 false x2, Seg.one (SV.i .i64 { st := false, z := x3 }), Seg.one (SV.b false m)]]) ∧ (decide (((roL d).length : Int) > x5) = false → Same Tryd.f23 1 (itemsOf Tryd.f23 1) ∧ Q 1 [Pv.ro d, Pv.l K80, Pv.l x1, Pv.l x2, Pv.z x3, Pv.b m])) := by
 intros
 kernel_rfl
theorem lc23g_eq : ∀ (d : RO) (k ws bl : List Int) (n : Int) (m : Bool) (K : List RV → List (Option (List Seg)) → Prop) (Q : Nat → List Pv → Prop), lc23g d k ws bl n m K Q = ((decide (((roL d).length : Int) > 0) = true → ForI .i64 (n.tmod (128 : Int)) fun x1 => Need (0 ≤ x1 ∧ x1 ≤ 128 ∧ (128 : Int) ≤ 128) ∧ Need (x1 + (128 - x1) ≤ (128 : Int)) ∧ ForA .u64 8 ws fun x2 => ForA .u8 128 (splice bl x1.toNat (List.take (128 - x1).toNat (roL d))) fun x3 => ForI .i64 n fun x4 => ForI .i64 (min (((roL d).length : Int)) (128 - x1)) fun x5 => Need (0 ≤ x5 ∧ x5 ≤ ((roL d).length : Int) ∧ ((roL d).length : Int) ≤ ((roL d).length : Int)) ∧ ForI .i64 (IntKind.i64.wrap (x4 + x5)) fun x6 => ForI .i64 (IntKind.i64.wrap (x1 + x5)) fun x7 => ((x7 == 128) = true → ForA .u64 8 (compr x2 x3) fun x8 => ForA .u8 128 x3 fun x9 => ForI .i64 x6 fun x10 => Same Tryd.f23 1 (itemsOf Tryd.f23 1) ∧ Q 1 [Pv.ro (RO.l (List.take (((roL d).length : Int) - x5).toNat (List.drop x5.toNat (roL d)))), Pv.l k, Pv.l x8, Pv.l x9, Pv.z x10, Pv.b m]) ∧ ((x7 == 128) = false → Same Tryd.f23 1 (itemsOf Tryd.f23 1) ∧ Q 1 [Pv.ro (RO.l (List.take (((roL d).length : Int) - x5).toNat (List.drop x5.toNat (roL d)))), Pv.l k, Pv.l x2, Pv.l x3, Pv.z x6, Pv.b m])) ∧ (decide (((roL d).length : Int) > 0) = false → K [] [some [Seg.arr .u64 8 false ws, Seg.arr .u8 128 false bl, Seg.one (SV.i .i64 { st := false, z := n }), Seg.one (SV.b false m)]])) := by
 intros
 kernel_rfl
theorem vc23n_eq : ∀ (d : RO) (K : List RV → List (Option (List Seg)) → Prop) (Q : Nat → List Pv → Prop), vc23n d K Q = K [] [] := by
 intros
 kernel_rfl
theorem vc26g_eq : ∀ (ws bl : List Int) (n : Int) (m : Bool) (K : List RV → List (Option (List Seg)) → Prop) (Q : Nat → List Pv → Prop), vc26g ws bl n m K Q = ForA .u64 8 ws fun x1 => ForA .u8 128 bl fun x2 => ForI .i64 n fun x3 => ∀ (x4 : Bool), x4 = !m → (x4 = true → K [RV.v SV.np] [some [Seg.arr .u64 8 false x1, Seg.arr .u8 128 false x2, Seg.one (SV.i .i64 { st := false, z := x3 }), Seg.one (SV.b false m)]]) ∧ (x4 = false → K [RV.ptr [Seg.arr .u64 8 false x1, Seg.arr .u8 128 false x2, Seg.one (SV.i .i64 { st := false, z := x3 }), Seg.one (SV.b false m)]] [some [Seg.arr .u64 8 false x1, Seg.arr .u8 128 false x2, Seg.one (SV.i .i64 { st := false, z := x3 }), Seg.one (SV.b false m)]]) := by
 intros
 kernel_rfl

def wrR (ws bl : List Int) (n : Int) (m : Bool) (b : List Int) : List Seg := R23 (wr m ⟨ws, bl, n⟩ b).ws (wr m ⟨ws, bl, n⟩ b).bl (wr m ⟨ws, bl, n⟩ b).n m
def writeG : List AV → Option (List Prop × List RV × List (Option (List Seg)))
 | [.m [.arr .u64 8 _ ws, .arr .u8 128 _ bl, .one (.i .i64 n), .one (.b _ m)], .d (.ints .u8) d] => some ([m = true → 0 ≤ n.z ∧ n.z ≤ 1152921504606846976], [], [some (wrR ws bl n.z m (roL d))])
 | [.v .np, .d (.ints .u8) d] => some ([], [], [])
 | _ => none
theorem eqR (ws bl : List Int) (n : Int) (m : Bool) : eqSegs (R23 ws bl n m) (R23 ws bl n m) := ⟨⟨rfl, rfl, rfl⟩, ⟨rfl, rfl, rfl⟩, ⟨rfl, rfl⟩, ⟨rfl, rfl⟩, trivial⟩
theorem eqR' {e1 e2 e3 e4 : Bool} (ws bl : List Int) (n : Int) (m : Bool) : eqSegs [.arr .u64 8 e1 ws, .arr .u8 128 e2 bl, .one (.i .i64 ⟨e3, n⟩), .one (.b e4 m)] (R23 ws bl n m) := ⟨⟨rfl, rfl, rfl⟩, ⟨rfl, rfl, rfl⟩, ⟨rfl, rfl⟩, ⟨rfl, rfl⟩, trivial⟩
def inv23g (b : List Int) (s : HS) (m : Bool) (key : Nat) (ps : List Pv) (mm : Nat) : Prop :=
 key = 1 ∧ ∃ (j : Nat) (d : RO), j ≤ b.length ∧ roL d = b.drop j ∧ ps = [.ro d, .l K80, .l (feed (b.take j) s).ws, .l (feed (b.take j) s).bl, .z (feed (b.take j) s).n, .b m] ∧ mm = b.length - j

def cloneG : List AV → Option (List Prop × List RV × List (Option (List Seg)))
 | [.m [.arr .u64 8 _ ws, .arr .u8 128 _ bl, .one (.i .i64 n), .one (.b _ m)]] => some ([m = true], [.ptr (R23 ws bl n.z m)], [some (R23 ws bl n.z m)])
 | _ => none
end Go.Gx

/- Contracts in general: another telling of the same. -/
namespace Go.Gx
open Go.RowKit
set_option linter.unusedVariables false

def RP.bind {α β : Type} : RP α → (α → RP β) → RP β
 | .ret a, f => f a
 | .fail, _ => .fail
 | .get k h, f => .get k fun b => (h b).bind f

theorem RP.run_bind {α β : Type} {H : Nat → Option SB} (f : α → RP β) : ∀ (g : RP α) (rs : List Nat), (g.bind f).run H rs = (match g.run H rs with | some (a, rs1) => (f a).run H rs1 | none => none)
 | .ret a, rs => rfl
 | .fail, rs => rfl
 | .get k h, rs => by simp only [RP.bind, RP.run]; exact RP.run_bind f (h (H k)) (k :: rs)

def Uni {α : Type} (F : (α → RP Delta) → RP Delta) : Prop := ∃ g : RP α, ∀ f, F f = g.bind f

theorem Uni.fail {α : Type} : Uni (α := α) fun _ => .fail := ⟨.fail, fun _ => rfl⟩
theorem Uni.ret {α : Type} (a : α) : Uni (α := α) fun f => f a := ⟨.ret a, fun _ => rfl⟩
theorem Uni.get {α : Type} (k : Nat) {F : Option SB → (α → RP Delta) → RP Delta} (h : ∀ b, Uni (F b)) : Uni fun f => .get k fun b => F b f :=
 ⟨.get k fun b => Classical.choose (h b), fun f => by
  simp only [RP.bind]
  congr 1
  funext b
  exact Classical.choose_spec (h b) f⟩
theorem Uni.bind {α β : Type} {F : (α → RP Delta) → RP Delta} (hF : Uni F) {G : α → (β → RP Delta) → RP Delta} (hG : ∀ a, Uni (G a)) : Uni fun f => F fun a => G a f := by
 obtain ⟨g, hg⟩ := hF
 have bb : ∀ {α β γ : Type} (g : RP α) (h : α → RP β) (f : β → RP γ), (g.bind h).bind f = g.bind fun a => (h a).bind f := by
  intro α β γ g h f
  induction g with
  | ret a => rfl
  | fail => rfl
  | get k r ih => simp only [RP.bind]; congr 1; funext b; exact ih b
 have hG' : ∀ a, ∃ k : RP β, ∀ f, G a f = k.bind f := hG
 refine ⟨g.bind fun a => Classical.choose (hG' a), fun f => ?_⟩
 show F (fun a => G a f) = _
 rw [hg, bb]
 congr 1
 funext a
 exact Classical.choose_spec (hG' a) f

section
variable {P : Program}

end
end Go.Gx

/- Contracts whose answers are lists of rows that the call has made: a pool, and rows of headers. -/
namespace Go.Gx
open Go.RowKit
set_option linter.unusedVariables false

def noPl : Pl := { blk := 0, off := 0, cap := 0 }

theorem Mem.import {w0 : World} {M : Nat → Prop} {ρ ρ' ρn : Nat → Pl} {H H' Hn : Nat → Option SB} {w w' : World} {M' : Nat → Prop} (hm : Mem w0 M ρ H w) (hr : Mem w M' ρ' H' w') {im : Nat → Option (Option Nat)}
  (hN : ∀ k, im k = none → Hn k = H k ∧ (dmOf H k → ρn k = ρ k))
  (hT : ∀ k c, im k = some (some c) → ρn k = ρ' c ∧ (Hn k = some .gone ∨ (∃ kd ms, Hn k = some (.pool kd ms) ∧ H' c = some (.pool kd ms)) ∨ ∃ l l0, Hn k = some (.segs false l) ∧ H' c = some (.segs false l0) ∧ ∀ cs, SegsD (dmOf H') ρ' l0 cs → SegsD (dmOf Hn) ρn l cs))
  (hV : ∀ k, im k = some none → ρn k = noPl ∧ (Hn k = some .gone ∨ (∃ kd, Hn k = some (.pool kd [])) ∨ ∃ l, Hn k = some (.segs false l) ∧ SegsD (dmOf Hn) ρn l []))
  (hinj : ∀ k k' c, im k = some (some c) → im k' = some (some c) → k = k')
  (hle : ∀ k, dmOf H k → dmOf Hn k ∧ PlLe (ρ k) (ρn k)) (hM : ∀ b, M' b → w0.heap.size ≤ b ∨ M b)
  (hs : ∀ k ro l, im k = none → H k = some (.segs ro l) → 0 < (ρ k).cap → ¬ M' (ρ k).blk)
  (hp : ∀ k kd ms i c, im k = none → H k = some (.pool kd ms) → i < ms.length → OwnB w (ρ k) kd i c → ¬ M' c)
  (hsn : ∀ k kd ms, im k ≠ none → Hn k = some (.pool kd ms) → kd.seen = none := by intro k kd ms h _; exact absurd rfl h) : Mem w0 M ρn Hn w' := by
 have seg : ∀ k ro l, Hn k = some (.segs ro l) → 0 < (ρn k).cap → (im k = none ∧ H k = some (.segs ro l) ∧ ρn k = ρ k ∧ (ρn k).blk < w.heap.size ∧ ¬ M' (ρn k).blk) ∨ (∃ c l0, im k = some (some c) ∧ ro = false ∧ H' c = some (.segs false l0) ∧ ρn k = ρ' c ∧ (w.heap.size ≤ (ρn k).blk ∨ M' (ρn k).blk)) := fun k ro l h c0 => by
  cases e : im k with
  | none =>
   obtain ⟨a, b⟩ := hN k e
   rw [a] at h
   have b := b (dm_of h)
   rw [b] at c0 ⊢
   exact .inl ⟨rfl, h, rfl, hm.heap.lt k ro l h c0, hs k ro l e h c0⟩
  | some o =>
   cases o with
   | none => rw [(hV k e).1] at c0; exact absurd c0 (by simp [noPl])
   | some c =>
    obtain ⟨a, b | ⟨kd, ms, b, _⟩ | ⟨l1, l0, b, b2, _⟩⟩ := hT k c e
    ·rw [b] at h; cases h
    ·rw [b] at h; cases h
    ·rw [b] at h
     simp only [Option.some.injEq, SB.segs.injEq] at h
     rw [a] at c0 ⊢
     exact .inr ⟨c, l0, rfl, h.1.symm, b2, rfl, hr.own c l0 b2 c0⟩
 have pool : ∀ k kd ms, Hn k = some (.pool kd ms) → (im k = none ∧ H k = some (.pool kd ms) ∧ ρn k = ρ k) ∨ (∃ c, im k = some (some c) ∧ H' c = some (.pool kd ms) ∧ ρn k = ρ' c) ∨ (ms = [] ∧ ρn k = noPl) := fun k kd ms h => by
  cases e : im k with
  | none =>
   obtain ⟨a, b⟩ := hN k e
   rw [a] at h
   exact .inl ⟨rfl, h, b (dm_of h)⟩
  | some o =>
   cases o with
   | none =>
    obtain ⟨a, b | ⟨kd', b⟩ | ⟨l, b, _⟩⟩ := hV k e
    ·rw [b] at h; cases h
    ·rw [b] at h
     simp only [Option.some.injEq, SB.pool.injEq] at h
     exact .inr (.inr ⟨h.2.symm, a⟩)
    ·rw [b] at h; cases h
   | some c =>
    obtain ⟨a, b | ⟨kd', ms', b, b2⟩ | ⟨l1, l0, b, _⟩⟩ := hT k c e
    ·rw [b] at h; cases h
    ·rw [b] at h
     simp only [Option.some.injEq, SB.pool.injEq] at h
     rw [h.1, h.2] at b2
     exact .inr (.inl ⟨c, rfl, b2, a⟩)
    ·rw [b] at h; cases h
 have hO : ∀ k kd ms i c, im k = none → H k = some (.pool kd ms) → i < ms.length → OwnB w' (ρ k) kd i c → OwnB w (ρ k) kd i c := fun k kd ms i c e hk hi ho => ho.of_block fun h0 => hr.frame.block _ ((hm.pools.pool k kd ms hk).lt i hi h0) (hp k kd ms i _ e hk hi (.pb h0))
 have row : ∀ k kd ms i x, Hn k = some (.pool kd ms) → i < ms.length → OwnB w' (ρn k) kd i x → (im k = none ∧ H k = some (.pool kd ms) ∧ OwnB w (ρ k) kd i x ∧ x < w.heap.size ∧ ¬ M' x) ∨ (∃ c, im k = some (some c) ∧ H' c = some (.pool kd ms) ∧ OwnB w' (ρ' c) kd i x ∧ (w.heap.size ≤ x ∨ M' x)) := fun k kd ms i x h hi c0 => by
  rcases pool k kd ms h with ⟨a, b, c⟩ | ⟨c, a, b, d⟩ | ⟨rfl, _⟩
  ·rw [c] at c0
   have c0 := hO k kd ms i x a b hi c0
   exact .inl ⟨a, b, c0, (hm.pools.pool k kd ms b).ltD i x hi c0, hp k kd ms i x a b hi c0⟩
  ·rw [d] at c0
   exact .inr ⟨c, a, b, c0, (hr.pools.pool c kd ms b).ownD i x hi c0⟩
  ·exact absurd hi (by simp)
 refine ⟨⟨fun k b hb => ?_, fun k k' ro ro' l l' h1 h2 hkk hro c1 c2 => ?_, fun k ro l h1 c1 => ?_⟩, ⟨hr.frame.os.trans hm.frame.os, hr.frame.tape.trans hm.frame.tape, hr.frame.output.trans hm.frame.output, Nat.le_trans hm.frame.size hr.frame.size, fun k hk1 hk2 => ?_⟩, fun k l h1 c1 => ?_, fun k h1 => ?_, fun k l h1 c1 => ?_, ⟨fun k kd ms hk => ?_, fun k kd ms k' ro l i x h1 h2 c1 hi c2 => ?_, fun k kd ms k' kd' ms' i j x h1 h2 hkk hi hj c1 c2 => ?_, fun k kd q r ms hk => ?_⟩⟩
 ·cases e : im k with
  | none =>
   obtain ⟨a, e2⟩ := hN k e
   rw [a] at hb
   exact (hm.heap.blk k b hb).of_block (fun a ha => (hle a ha).1) (fun a ha => (hle a ha).2) (e2 (dm_of hb)) fun ro l e3 c => by
    subst e3
    exact hr.frame.block _ (hm.heap.lt k ro l hb c) (hs k ro l e hb c)
  | some o =>
   cases o with
   | none =>
    obtain ⟨a, d | ⟨kd', d⟩ | ⟨l, d, d2⟩⟩ := hV k e
    ·rw [d] at hb; simp only [Option.some.injEq] at hb; subst hb; trivial
    ·rw [d] at hb; simp only [Option.some.injEq] at hb; subst hb; trivial
    ·rw [d] at hb; simp only [Option.some.injEq] at hb; subst hb
     exact ⟨[], d2, by simp, rangeAt_nil _ _ _, fun _ => by rw [a]; exact there_zero _ _ _⟩
   | some c =>
    obtain ⟨a, d | ⟨kd', ms', d, _⟩ | ⟨l1, l0, d, d2, d3⟩⟩ := hT k c e
    ·rw [d] at hb; simp only [Option.some.injEq] at hb; subst hb; trivial
    ·rw [d] at hb; simp only [Option.some.injEq] at hb; subst hb; trivial
    ·rw [d] at hb; simp only [Option.some.injEq] at hb; subst hb
     obtain ⟨vs, s1, s2, s3, s4⟩ := hr.heap.blk c _ d2
     exact ⟨vs, d3 vs s1, by rw [a]; exact s2, by rw [a]; exact s3, fun h => by rw [a]; exact s4 h⟩
 ·rcases seg k ro l h1 c1 with ⟨a1, a2, a3, a4, a5⟩ | ⟨c, l0, a1, rfl, a2, a3, a4⟩
  ·rcases seg k' ro' l' h2 c2 with ⟨b1, b2, b3, b4, b5⟩ | ⟨c', l0', b1, rfl, b2, b3, b4⟩
   ·rw [a3] at c1 ⊢; rw [b3] at c2 ⊢
    exact hm.heap.sep k k' ro ro' l l' a2 b2 hkk hro c1 c2
   ·intro e
    rcases b4 with b4 | b4
    ·omega
    ·rw [e] at a5; exact a5 b4
  ·rcases seg k' ro' l' h2 c2 with ⟨b1, b2, b3, b4, b5⟩ | ⟨c', l0', b1, rfl, b2, b3, b4⟩
   ·intro e
    rcases a4 with a4 | a4
    ·omega
    ·rw [← e] at b5; exact b5 a4
   ·rw [a3] at c1 ⊢; rw [b3] at c2 ⊢
    exact hr.heap.sep c c' false false l0 l0' a2 b2 (fun e => by subst e; exact hkk (hinj k k' c a1 b1)) (.inl rfl) c1 c2
 ·rcases seg k ro l h1 c1 with ⟨a1, a2, a3, a4, a5⟩ | ⟨c, l0, a1, rfl, a2, a3, a4⟩
  ·exact Nat.lt_of_lt_of_le a4 hr.frame.size
  ·rw [a3] at c1 ⊢; exact hr.heap.lt c false l0 a2 c1
 ·have hn : ¬ M' k := fun h => by
   rcases hM k h with h | h
   ·omega
   ·exact hk2 h
  rw [hr.frame.block k (Nat.lt_of_lt_of_le hk1 hm.frame.size) hn]
  exact hm.frame.block k hk1 hk2
 ·rcases seg k false l h1 c1 with ⟨a1, a2, a3, a4, a5⟩ | ⟨c, l0, a1, _, a2, a3, a4⟩
  ·rw [a3] at c1 ⊢; exact hm.own k l a2 c1
  ·rcases a4 with a4 | a4
   ·exact .inl (Nat.le_trans hm.frame.size a4)
   ·exact hM _ a4
 ·cases e : im k with
  | none =>
   obtain ⟨a, b⟩ := hN k e
   rw [a] at h1
   rw [b (dm_of h1)]
   exact hm.view k h1
  | some o =>
   cases o with
   | none =>
    obtain ⟨_, d | ⟨kd', d⟩ | ⟨l, d, d2⟩⟩ := hV k e <;> rw [d] at h1 <;> cases h1
   | some c =>
    obtain ⟨_, d | ⟨kd', ms', d, _⟩ | ⟨l1, l0, d, d2, d3⟩⟩ := hT k c e <;> rw [d] at h1 <;> cases h1
 ·rcases seg k false l h1 c1 with ⟨a1, a2, a3, a4, a5⟩ | ⟨c, l0, a1, _, a2, a3, a4⟩
  ·rw [a3] at c1 a4 a5 ⊢
   exact (hm.clean k l a2 c1).of_block (hr.frame.block _ a4 a5)
  ·rw [a3] at c1 ⊢; exact hr.clean c l0 a2 c1
 ·rcases pool k kd ms hk with ⟨a, b, c⟩ | ⟨c, a, b, d⟩ | ⟨rfl, d⟩
  ·refine (hm.pools.pool k kd ms b).step c hr.frame.size (fun _ _ _ _ h => h) fun i x hi h0 => hr.frame.block _ ((hm.pools.pool k kd ms b).ltD i x hi h0) (hp k kd ms i x a b hi h0)
  ·rw [d]
   have hq := hr.pools.pool c kd ms b
   exact ⟨hq.cnt, hq.rowD, hq.ltD, fun i x hi h0 => by
    rcases hq.ownD i x hi h0 with h | h
    ·exact .inl (Nat.le_trans hm.frame.size h)
    ·exact hM _ h, hq.cleanD, hq.sepD, hq.inn⟩
  ·rw [d]
   exact ⟨rfl, fun i m hi => by simp at hi, fun i c hi => absurd hi (by simp), fun i c hi => absurd hi (by simp), fun i c hi => absurd hi (by simp), fun i j c hi => absurd hi (by simp), fun i hi => absurd hi (by simp)⟩
 ·rcases seg k' ro l h2 c1 with ⟨a1, a2, a3, a4, a5⟩ | ⟨c, l0, a1, rfl, a2, a3, a4⟩
  ·rcases row k kd ms i x h1 hi c2 with ⟨b1, b2, b3, b4, b5⟩ | ⟨c', b1, b2, b3, b4⟩
   ·rw [a3] at c1 ⊢
    exact hm.pools.apartD k kd ms k' ro l i x b2 a2 c1 hi b3
   ·intro e
    rcases b4 with b4 | b4
    ·omega
    ·rw [e] at a5; exact a5 b4
  ·rcases row k kd ms i x h1 hi c2 with ⟨b1, b2, b3, b4, b5⟩ | ⟨c', b1, b2, b3, b4⟩
   ·intro e
    rcases a4 with a4 | a4
    ·omega
    ·rw [← e] at b5; exact b5 a4
   ·rw [a3] at c1 ⊢
    exact hr.pools.apartD c' kd ms c false l0 i x b2 a2 c1 hi b3
 ·rcases row k kd ms i x h1 hi c1 with ⟨a1, a2, a3, a4, a5⟩ | ⟨c, a1, a2, a3, a4⟩
  ·rcases row k' kd' ms' j x h2 hj c2 with ⟨b1, b2, b3, b4, b5⟩ | ⟨c', b1, b2, b3, b4⟩
   ·exact hm.pools.twoD k kd ms k' kd' ms' i j x a2 b2 hkk hi hj a3 b3
   ·rcases b4 with b4 | b4
    ·omega
    ·exact a5 b4
  ·rcases row k' kd' ms' j x h2 hj c2 with ⟨b1, b2, b3, b4, b5⟩ | ⟨c', b1, b2, b3, b4⟩
   ·rcases a4 with a4 | a4
    ·omega
    ·exact b5 a4
   ·exact hr.pools.twoD c kd ms c' kd' ms' i j x a2 b2 (fun e => by subst e; exact hkk (hinj k k' c a1 b1)) hi hj a3 b3
 ·rcases pool k _ ms hk with ⟨a, b, c⟩ | ⟨c, a, b, d⟩ | ⟨rfl, d⟩
  ·obtain ⟨v1, v2, v3, v4⟩ := hm.pools.view k kd q r ms b
   rw [c]
   exact ⟨(hle q v1).1, v2, v3, v4.step (hr.frame.block _ ((hm.pools.pool k _ ms b).lt r v2 v3) (hp k _ ms r _ a b v2 (.pb v3))) (hle q v1).2⟩
  ·have := hsn k _ ms (by rw [a]; simp) hk
   cases this
  ·by_cases e : im k = none
   ·obtain ⟨a, b⟩ := hN k e
    rw [a] at hk
    obtain ⟨v1, v2, v3, v4⟩ := hm.pools.view k kd q r [] hk
    exact absurd v2 (by simp)
   ·have := hsn k _ [] e hk
    cases this

/-! ### The callee's side -/

abbrev Hdrs := List (Nat × Nat)

def canH (h : Heap) (x : SV) (K : Option (Nat × Nat) → Hdrs → Prop) : Prop :=
 match x with
 | .nsl => K none []
 | .sl key 0 1 ⟨true, .ofNat 0⟩ len => (match Nat.ble 1000 key, assoc h key with
  | true, some (.segs false [.rowH pk hs]) => Need (len.z = (hs.length : Int)) ∧ K (some (key, pk)) hs
  | _, _ => False)
 | _ => False

def canP (k : IntKind) (h : Heap) (pk : Nat) (K : List (List Int) → Prop) : Prop :=
 match Nat.ble 1000 pk, assoc h pk with
 | true, some (.pool (.k k') ms) => (match keq k' k with | true => K ms | false => False)
 | _, _ => False

def kvH2 (k : IntKind) (x : SV) (h : Heap) (K : Hdrs → Hdrs → List (List Int) → Prop) : Prop :=
 match x with
 | .agg [y, z] => canH h y fun a hs => canH h z fun b gs => match a, b with
  | none, none => K hs gs []
  | some (_, pk), none => canP k h pk fun ms => K hs gs ms
  | none, some (_, pk) => canP k h pk fun ms => K hs gs ms
  | some (a, pk), some (b, pk') => (match Nat.beq pk pk', Nat.beq a b with
   | true, false => canP k h pk fun ms => K hs gs ms
   | _, _ => False)
 | _ => False

section
variable {P : Program} {Γ : Tab} {w0 : World} {M : Nat → Prop} {ρ : Nat → Pl} {w : World}

def HdrAt (H : Nat → Option SB) (ρ : Nat → Pl) (a : Option (Nat × Nat)) (hs : Hdrs) (v : Value) : Prop :=
 match a with
 | none => hs = [] ∧ v = .slice none 0 0
 | some (key, pk) => 1000 ≤ key ∧ H key = some (.segs false [.rowH pk hs]) ∧ D (dmOf H) ρ (.sl key 0 1 ⟨true, 0⟩ ⟨false, (hs.length : Int)⟩) v

theorem canH_sound {h : Heap} {x : SV} {v : Value} (hx : D (dmOf (assoc h)) ρ x v) {K : Option (Nat × Nat) → Hdrs → Prop} (hk : canH h x K) : ∃ a hs, K a hs ∧ HdrAt (assoc h) ρ a hs v := by
 unfold canH at hk
 split at hk
 ·exact ⟨none, [], hk, rfl, hx⟩
 ·rename_i key len
  split at hk
  ·rename_i pk hs h1 h2
   obtain ⟨e, hk⟩ := hk
   refine ⟨_, hs, hk, Nat.le_of_ble_eq_true h1, h2, ?_⟩
   have e : len.z = (hs.length : Int) := e
   simp only [D] at hx ⊢
   rw [e] at hx
   exact hx
  ·exact hk.elim
 ·exact hk.elim

theorem canP_sound {k : IntKind} {h : Heap} {pk : Nat} {K : List (List Int) → Prop} (hk : canP k h pk K) : ∃ ms, K ms ∧ 1000 ≤ pk ∧ assoc h pk = some (.pool k ms) := by
 unfold canP at hk
 split at hk
 ·rename_i k' ms h1 h2
  split at hk
  ·rename_i e
   have e := keq_eq e
   subst e
   exact ⟨ms, hk, Nat.le_of_ble_eq_true h1, h2⟩
  ·exact hk.elim
 ·exact hk.elim

def poolOf : Option (Nat × Nat) → Option (Nat × Nat) → Option Nat
 | some (_, pk), _ => some pk
 | none, some (_, pk) => some pk
 | none, none => none

def PoolAt (k : IntKind) (H : Nat → Option SB) (p : Option Nat) (ms : List (List Int)) : Prop :=
 match p with
 | none => ms = []
 | some pk => 1000 ≤ pk ∧ H pk = some (.pool k ms)

theorem kvH2_sound {k : IntKind} {h : Heap} {x : SV} {v : Value} (hx : D (dmOf (assoc h)) ρ x v) {K : Hdrs → Hdrs → List (List Int) → Prop} (hk : kvH2 k x h K) :
  ∃ a b hs gs ms u1 u2, K hs gs ms ∧ v = .agg #[u1, u2] ∧ HdrAt (assoc h) ρ a hs u1 ∧ HdrAt (assoc h) ρ b gs u2 ∧ PoolAt k (assoc h) (poolOf a b) ms ∧ (∀ p q, a = some p → b = some q → p.2 = q.2 ∧ p.1 ≠ q.1) := by
 unfold kvH2 at hk
 split at hk
 ·rename_i y z
  simp only [D, Cs] at hx
  obtain ⟨cs, ⟨u1, c1, d1, rfl, u2, c2, d2, rfl, rfl⟩, rfl⟩ := hx
  obtain ⟨a, hs, hk, h1⟩ := canH_sound d1 hk
  obtain ⟨b, gs, hk, h2⟩ := canH_sound d2 hk
  have one : ∀ {o : Option (Nat × Nat)} {hs : Hdrs} {u : Value}, HdrAt (assoc h) ρ o hs u → u.cells.toList = [u] := by
   intro o hs u ho
   cases o with
   | none => rw [ho.2]; rfl
   | some q => obtain ⟨_, _, ho⟩ := ho; rw [(single_cell rfl ho).2]
  have e : (u1.cells.toList ++ (u2.cells.toList ++ [])).toArray = #[u1, u2] := by rw [one h1, one h2]; first | rfl | simp
  rw [e]
  cases a with
  | none =>
   cases b with
   | none => exact ⟨none, none, hs, gs, [], u1, u2, hk, rfl, h1, h2, rfl, fun p q e => by cases e⟩
   | some q =>
    obtain ⟨ms, q1, q2, q3⟩ := canP_sound hk
    exact ⟨none, _, hs, gs, ms, u1, u2, q1, rfl, h1, h2, ⟨q2, q3⟩, fun p q e => by cases e⟩
  | some p =>
   obtain ⟨a, pk⟩ := p
   cases b with
   | none =>
    obtain ⟨ms, q1, q2, q3⟩ := canP_sound hk
    exact ⟨_, none, hs, gs, ms, u1, u2, q1, rfl, h1, h2, ⟨q2, q3⟩, fun p q _ e => by cases e⟩
   | some q =>
    obtain ⟨b, pk'⟩ := q
    simp only at hk
    split at hk
    ·rename_i e1 e2
     obtain ⟨ms, q1, q2, q3⟩ := canP_sound hk
     refine ⟨_, _, hs, gs, ms, u1, u2, q1, rfl, h1, h2, ⟨q2, q3⟩, fun p q e e' => ?_⟩
     simp only [Option.some.injEq] at e e'
     subst e e'
     exact ⟨Nat.eq_of_beq_eq_true e1, fun e => by have e : a = b := e; subst e; rw [Nat.beq_refl] at e2; cases e2⟩
    ·exact hk.elim
 ·exact hk.elim

/-! ### The caller's side -/

def hdrSV (key : Nat) (hs : Hdrs) : SV := .sl key 0 1 ⟨true, .ofNat 0⟩ ⟨false, (hs.length : Int)⟩

def famCtrK (kp kq : Nat → Nat) (k : IntKind) (ms : List Md) (spec : List AV → Option (List Prop × Hdrs × Hdrs × List (List Int))) : Ctr := fun stamp args =>
 getA [] ms args fun p avs => (match spec avs with
  | some (p', hs, gs, rows) => .get stamp fun b => (match b with
   | none => .get (kp stamp) fun b => (match b with
    | none => .get (kq stamp) fun b => (match b with
     | none => .ret ⟨p ++ p', .agg [hdrSV stamp hs, hdrSV (kq stamp) gs], [(kp stamp, .pool k rows), (stamp, .segs false [.rowH (kp stamp) hs]), (kq stamp, .segs false [.rowH (kp stamp) gs])], true⟩
     | some _ => .fail)
    | some _ => .fail)
   | some _ => .fail)
  | none => .fail)
def famCtr (k : IntKind) (ms : List Md) (spec : List AV → Option (List Prop × Hdrs × Hdrs × List (List Int))) : Ctr := famCtrK (fun s => s + 500000) (fun s => s + 600000) k ms spec

def onlyRO : List Md → Bool
 | [] => true
 | .v :: r => onlyRO r
 | .d _ :: r => onlyRO r
 | _ :: _ => false

theorem onlyRO_keys : ∀ (ms : List Md) (xs : List SV), onlyRO ms = true → ownKeys ms xs = []
 | [], xs, _ => by cases xs <;> rfl
 | .v :: r, [], _ => rfl
 | .v :: r, x :: xs, h => by
  have : ownKeys (.v :: r) (x :: xs) = ownKeys r xs := by cases x <;> rfl
  rw [this]; exact onlyRO_keys r xs h
 | .d _ :: r, [], _ => rfl
 | .d sh :: r, x :: xs, h => by
  have : ownKeys (.d sh :: r) (x :: xs) = ownKeys r xs := by cases x <;> rfl
  rw [this]; exact onlyRO_keys r xs h
 | .m :: _, _, h => by simp [onlyRO] at h
 | .o :: _, _, h => by simp [onlyRO] at h

def keyOf : Option (Nat × Nat) → Option Nat
 | none => none
 | some (k, _) => some k

theorem HdrAt.segs {H' Hn : Nat → Option SB} {ρ' ρn : Nat → Pl} {pk pn key : Nat} {hs : Hdrs} (hd : dmOf Hn pn) (hρ : ρn pn = ρ' pk) : ∀ (cs : List Value), SegsD (dmOf H') ρ' [.rowH pk hs] cs → SegsD (dmOf Hn) ρn [.rowH pn hs] cs := by
 intro cs h
 obtain ⟨c1, c2, ⟨_, h1⟩, rfl, h2⟩ := h
 refine ⟨c1, c2, ⟨hd, ?_⟩, rfl, h2⟩
 have : ∀ (hs : Hdrs) (cs : List Value), HdrsD (dmOf H') ρ' pk hs cs → HdrsD (dmOf Hn) ρn pn hs cs := by
  intro hs
  induction hs with
  | nil => intro cs h; exact h
  | cons x t ih =>
   intro cs h
   obtain ⟨v, c, a1, a2, a3⟩ := h
   refine ⟨v, c, ?_, a2, ih c a3⟩
   simp only [D] at a1 ⊢
   rw [hρ]
   exact ⟨hd, a1.2⟩
 exact this hs c1 h1

theorem HdrAt.D {H' Hn : Nat → Option SB} {ρ' ρn : Nat → Pl} {a : Option (Nat × Nat)} {hs : Hdrs} {v : Value} (h : HdrAt H' ρ' a hs v) {key : Nat} (hd : dmOf Hn key) (hρ : ∀ k, keyOf a = some k → ρn key = ρ' k) : D (dmOf Hn) ρn (hdrSV key hs) v := by
 cases a with
 | none =>
  obtain ⟨rfl, rfl⟩ := h
  simp only [hdrSV, Gx.D]
  exact ⟨hd, by simp, by simp, by simp [InR], none, 0, by simp, Nat.le_refl _, .inr ⟨by simp, rfl⟩⟩
 | some q =>
  obtain ⟨k, pk⟩ := q
  obtain ⟨_, _, h⟩ := h
  simp only [hdrSV, Gx.D] at h ⊢
  rw [hρ k rfl]
  exact ⟨hd, h.2⟩

end
end Go.Gx

/- Contracts whose answers are lists of rows: the theorems. -/
namespace Go.Gx
open Go.RowKit
set_option linter.unusedVariables false

def fnVcX (Γ : Tab) (fn : Func) (L : Loops) (args : List SV) (h : Heap) (KV : SV → Heap → Prop) (Q : Nat → List Pv → Prop) : Prop :=
 runFn Γ fn (loopKeysM L) args h KV (handM L Q)
def loopVcX (Γ : Tab) (fn : Func) (L : Loops) (key : Nat) (ps : List Pv) (KV : SV → Heap → Prop) (Q : Nat → List Pv → Prop) : Prop :=
 match assoc L key with
 | some t => runLoop Γ fn (loopKeysM L) (key % 1000) (instSt t ps) KV (handM L Q)
 | none => False

structure VcX (KV : SV → Heap → Prop) (Γ : Tab) (fn : Func) (L : Loops) (h : Heap) (args : List SV) (inv : Nat → List Pv → Nat → Prop) : Prop where
 low : ∀ k t, (k, t) ∈ L → ∀ g, g ∈ keysOf h → g < 1000 ∧ (assoc t.heap g).isSome = true
 loop : ∀ vk t ps m, (vk, t) ∈ L → inv vk ps m → runLoop Γ fn (loopKeysM L) (vk % 1000) (instSt t ps) KV (handM L fun key' ps' => ∃ m', m' < m ∧ inv key' ps' m')
 entry : fnVcX Γ fn L args h KV fun key' ps' => ∃ m', inv key' ps' m'

theorem vcX_noloops {KV : SV → Heap → Prop} {Γ : Tab} {fn : Func} {h : Heap} {args : List SV} (hv : fnVcX Γ fn [] args h KV fun _ _ => False) : VcX KV Γ fn [] h args fun _ _ _ => False :=
 ⟨fun k t ht => by simp at ht, fun vk t ps m ht => by simp at ht, by simpa using hv⟩

section
variable {P : Program} {Γ : Tab}

theorem vcX_calls {KV : SV → Heap → Prop} (hΓ : TabOk P Γ) {f : FuncId} {fn : Func} (hf : P.funcs[f]? = some fn) {L : Loops} {h : Heap} {args : List SV} {inv : Nat → List Pv → Nat → Prop} (hv : VcX KV Γ fn L h args inv) (hlen : args.length ≤ fn.ntmps)
  {w : World} {M : Nat → Prop} {ρg : Nat → Pl} {vs : List Value} (hgo : GlOk Γ w M ρg (assoc h)) (g1 : Mem w M ρg (assoc h) w) (ha : Ds (dmOf (assoc h)) ρg args vs) :
  Calls P f vs.toArray w fun e w' => ∃ x v h' ρ', e = .returned v ∧ KV x h' ∧ D (dmOf (assoc h')) ρ' x v ∧ Mem w M ρ' (assoc h') w' ∧ ∀ k, dmOf (assoc h) k → dmOf (assoc h') k ∧ PlLe (ρg k) (ρ' k) := by
 have hweak : ∀ vk t σ' ps, (vk, t) ∈ L → matchSt t σ' = some ps → Weak (assoc h) σ' (instSt t ps) := fun vk t σ' ps ht hm =>
  weak_of_match hm fun k hk => hv.low vk t ht k (keysOf_of_dm hk)
 refine (fn_calls hΓ hf hgo hlen ha g1 (fun m key σ => ∃ vk t ps, (vk, t) ∈ L ∧ vk % 1000 = key ∧ σ = instSt t ps ∧ inv vk ps m) (fun m => handM L fun key' ps' => ∃ m', m' < m ∧ inv key' ps' m') (fun m key σ hj => ?_) (fun m key σ' h => ?_)
  (handM L fun key' ps' => ∃ m', inv key' ps' m') (fun key σ' h => ?_) hv.entry).mono fun e w' he => ?_
 ·obtain ⟨vk, t, ps, ht, rfl, rfl, hinv⟩ := hj
  exact hv.loop vk t ps m ht hinv
 ·obtain ⟨vk, t, ps, ht, hk, hps, m', hlt, hinv⟩ := handM_of h
  exact ⟨m', hlt, _, hweak _ _ _ _ ht hps, vk, t, ps, ht, hk, rfl, hinv⟩
 ·obtain ⟨vk, t, ps, ht, hk, hps, m', hinv⟩ := handM_of h
  exact ⟨m', _, hweak _ _ _ _ ht hps, vk, t, ps, ht, hk, rfl, hinv⟩
 ·obtain ⟨x, v, h', ρ', rfl, k1, k2, k3, k4⟩ := he
  exact ⟨x, v, h', ρ', rfl, k1, k2, k3, k4⟩

theorem call_famK {fp fq : Nat → Nat} (hk1' : ∀ s, fq s ≠ s) (hk2' : ∀ s, fp s ≠ s) (hk3' : ∀ s, fp s ≠ fq s) (hΓ : TabOk P Γ) (hgl : Γ.gl = keysOf Γ.gh) (hlow : ∀ g ∈ keysOf Γ.gh, g < 490) {f : FuncId} {fn : Func} (hf : P.funcs[f]? = some fn) (hn : (fn.name == "runtime.NumGoroutine") = false) (hb : fn.body.isNone = false) (k : IntKind)
  (ms : List Md) (hro : onlyRO ms = true) (spec : List AV → Option (List Prop × Hdrs × Hdrs × List (List Int)))
  (h : ∀ avs p hs gs rows, spec avs = some (p, hs, gs, rows) → AllP p → FactA avs → ∃ args' L inv, okA 600 avs args' [] ∧ args'.length ≤ fn.ntmps ∧ VcX (fun x h' => kvH2 k x h' fun hs' gs' rows' => hs' = hs ∧ gs' = gs ∧ rows' = rows) Γ fn L (Γ.gh ++ [(490, .world)]) args' inv) :
  CallOk P Γ.gh f (famCtrK fp fq k ms spec) := by
 intro stamp args H rs rs' d vs w0 M ρ w hG hc hp hD hm
 unfold famCtrK at hc
 have hks := onlyRO_keys ms args hro
 have hB : BanOk w0 M ρ H w [] (fun _ => False) := ⟨fun _ _ _ _ _ _ h => h, fun _ _ _ h => h, fun _ _ _ _ _ _ _ _ _ _ h => h⟩
 obtain ⟨p, avs, rs1, hrun, hAs⟩ := getA_sound P hm hB ms args vs _ d rs rs' hD hc
 rw [hks] at hAs
 split at hrun
 ·rename_i p' hs gs rows hsp
  simp only [RP.run] at hrun
  split at hrun
  ·rename_i hk1
   simp only [RP.run] at hrun
   split at hrun
   ·rename_i hk2
    simp only [RP.run] at hrun
    split at hrun
    ·rename_i hk3
     have e := run_ret hrun
     have n1 := hk1' stamp
     have n2 := hk2' stamp
     have n3 := hk3' stamp
     generalize fq stamp = kq at *
     generalize fp stamp = kp at *
     subst e
     obtain ⟨hp1, hp2⟩ := AllP.append (l := p) (r := p') hp
     have hA := hAs hp1
     obtain ⟨args', L, inv, o1, o2, o3⟩ := h avs p' hs gs rows hsp hp2 (AsD.fact hm avs vs [] hA)
     obtain ⟨ρ1, m1, m2, m3, m4, m5⟩ := gen_mem (h6 := []) hG hgl hlow hm (ks := []) (fun k hk => by cases hk) List.nodup_nil (M' := fun _ => False) (fun b => ⟨fun h => h.elim, fun ⟨k, hk, _⟩ => by cases hk⟩) (fun k b hb => by cases hb) (fun i hi => absurd hi (by simp))
     have hargs := okA_args m3 m4 avs vs [] 600 args' [] hA o1 (fun i hi => absurd hi (by simp))
     refine .inr ⟨f, _, GoFn.run ⟨fn, hf, hn, hb⟩ _ _, (vcX_calls hΓ hf o3 o2 m2 m1 hargs).mono fun e w' he => ?_⟩
     obtain ⟨x, v, h', ρ', rfl, r1, r2, r3, r4⟩ := he
     obtain ⟨a, b, hs', gs', rows', u1, u2, ⟨rfl, rfl, rfl⟩, rfl, t1, t2, t3, t4⟩ := kvH2_sound r2 r1
     refine ⟨_, rfl, ?_⟩
     let ρn : Nat → Pl := fun j => if j = stamp then (match keyOf a with | some c => ρ' c | none => noPl) else if j = kq then (match keyOf b with | some c => ρ' c | none => noPl) else if j = kp then (match poolOf a b with | some c => ρ' c | none => noPl) else ρ j
     let im : Nat → Option (Option Nat) := fun j => if j = stamp then some (keyOf a) else if j = kq then some (keyOf b) else if j = kp then some (poolOf a b) else none
     let Hn := updsH H [(kp, .pool k rows'), (stamp, .segs false [.rowH kp hs']), (kq, .segs false [.rowH kp gs'])]
     have g1 : Hn stamp = some (.segs false [.rowH (kp) hs']) := by
      show updH (updH (updH H _ _) _ _) _ _ stamp = _
      rw [updH_ne (Ne.symm n1), updH_same]
     have g2 : Hn (kq) = some (.segs false [.rowH (kp) gs']) := by
      show updH (updH (updH H _ _) _ _) _ _ (kq) = _
      rw [updH_same]
     have g3 : Hn (kp) = some (.pool k rows') := by
      show updH (updH (updH H _ _) _ _) _ _ (kp) = _
      rw [updH_ne n3, updH_ne n2, updH_same]
     have g4 : ∀ j, j ≠ stamp → j ≠ kq → j ≠ kp → Hn j = H j := fun j h1 h2 h3 => by
      show updH (updH (updH H _ _) _ _) _ _ j = _
      rw [updH_ne h2, updH_ne h1, updH_ne h3]
     have q1 : ρn stamp = (match keyOf a with | some c => ρ' c | none => noPl) := by simp [ρn]
     have q2 : ρn (kq) = (match keyOf b with | some c => ρ' c | none => noPl) := by simp [ρn, n1]
     have q3 : ρn (kp) = (match poolOf a b with | some c => ρ' c | none => noPl) := by simp [ρn, n2, n3]
     have q4 : ∀ j, j ≠ stamp → j ≠ kq → j ≠ kp → ρn j = ρ j := fun j h1 h2 h3 => by simp [ρn, h1, h2, h3]
     have i1 : im stamp = some (keyOf a) := by simp [im]
     have i2 : im (kq) = some (keyOf b) := by simp [im, n1]
     have i3 : im (kp) = some (poolOf a b) := by simp [im, n2, n3]
     have i4 : ∀ j, j ≠ stamp → j ≠ kq → j ≠ kp → im j = none := fun j h1 h2 h3 => by simp [im, h1, h2, h3]
     have dp : dmOf Hn (kp) := dm_of g3
     have cases4 : ∀ j, j = stamp ∨ j = kq ∨ j = kp ∨ (j ≠ stamp ∧ j ≠ kq ∧ j ≠ kp) := fun j => by
      by_cases e1 : j = stamp
      ·exact .inl e1
      ·by_cases e2 : j = kq
       ·exact .inr (.inl e2)
       ·by_cases e3 : j = kp
        ·exact .inr (.inr (.inl e3))
        ·exact .inr (.inr (.inr ⟨e1, e2, e3⟩))
     have hpk : ∀ key pk, a = some (key, pk) ∨ b = some (key, pk) → ρn (kp) = ρ' pk := fun key pk hab => by
      rw [q3]
      rcases hab with rfl | rfl
      ·rfl
      ·cases a with
       | none => rfl
       | some p => simp only [poolOf]; rw [(t4 p _ rfl rfl).1]
     have hMem : Mem w0 M ρn Hn w' := by
      refine Mem.import hm r3 (im := im) (fun j hj => ?_) (fun j c hj => ?_) (fun j hj => ?_) (fun j j' c h1 h2 => ?_) (fun j hj => ?_) (fun b hb => hb.elim) (fun _ _ _ _ _ _ h => h) (fun _ _ _ _ _ _ _ _ _ h => h) (fun j kd ms0 hj hjk => by
       rcases cases4 j with rfl | rfl | rfl | ⟨e1, e2, e3⟩
       ·rw [g1] at hjk; cases hjk
       ·rw [g2] at hjk; cases hjk
       ·rw [g3] at hjk; cases hjk; rfl
       ·exact absurd (i4 j e1 e2 e3) hj)
      ·rcases cases4 j with rfl | rfl | rfl | ⟨e1, e2, e3⟩
       ·rw [i1] at hj; cases hj
       ·rw [i2] at hj; cases hj
       ·rw [i3] at hj; cases hj
       ·exact ⟨g4 j e1 e2 e3, fun _ => q4 j e1 e2 e3⟩
      ·rcases cases4 j with rfl | rfl | rfl | ⟨e1, e2, e3⟩
       ·rw [i1] at hj
        simp only [Option.some.injEq] at hj
        rw [q1, hj]
        refine ⟨rfl, .inr (.inr ?_)⟩
        cases a with
        | none => simp [keyOf] at hj
        | some p =>
         obtain ⟨key, pk⟩ := p
         simp only [keyOf, Option.some.injEq] at hj
         subst hj
         obtain ⟨_, z2, _⟩ := t1
         exact ⟨_, _, g1, z2, HdrAt.segs (key := 0) dp (hpk key pk (.inl rfl))⟩
       ·rw [i2] at hj
        simp only [Option.some.injEq] at hj
        rw [q2, hj]
        refine ⟨rfl, .inr (.inr ?_)⟩
        cases b with
        | none => simp [keyOf] at hj
        | some p =>
         obtain ⟨key, pk⟩ := p
         simp only [keyOf, Option.some.injEq] at hj
         subst hj
         obtain ⟨_, z2, _⟩ := t2
         exact ⟨_, _, g2, z2, HdrAt.segs (key := 0) dp (hpk key pk (.inr rfl))⟩
       ·rw [i3] at hj
        simp only [Option.some.injEq] at hj
        rw [q3, hj]
        refine ⟨rfl, .inr (.inl ?_)⟩
        rw [hj] at t3
        exact ⟨k, rows', g3, t3.2⟩
       ·rw [i4 j e1 e2 e3] at hj; cases hj
      ·rcases cases4 j with rfl | rfl | rfl | ⟨e1, e2, e3⟩
       ·rw [i1] at hj
        simp only [Option.some.injEq] at hj
        rw [q1, hj]
        refine ⟨rfl, .inr (.inr ?_)⟩
        cases a with
        | none =>
         obtain ⟨rfl, _⟩ := t1
         exact ⟨_, g1, [], [], ⟨dp, rfl⟩, rfl, rfl⟩
        | some p => simp [keyOf] at hj
       ·rw [i2] at hj
        simp only [Option.some.injEq] at hj
        rw [q2, hj]
        refine ⟨rfl, .inr (.inr ?_)⟩
        cases b with
        | none =>
         obtain ⟨rfl, _⟩ := t2
         exact ⟨_, g2, [], [], ⟨dp, rfl⟩, rfl, rfl⟩
        | some p => simp [keyOf] at hj
       ·rw [i3] at hj
        simp only [Option.some.injEq] at hj
        rw [q3, hj]
        refine ⟨rfl, .inr (.inl ?_)⟩
        rw [hj] at t3
        have t3 : rows' = [] := t3
        subst t3
        exact ⟨k, g3⟩
       ·rw [i4 j e1 e2 e3] at hj; cases hj
      ·-- keys differ
       have inj : ∀ j c, im j = some (some c) → (j = stamp ∧ keyOf a = some c) ∨ (j = kq ∧ keyOf b = some c) ∨ (j = kp ∧ poolOf a b = some c) := fun j c hj => by
        rcases cases4 j with rfl | rfl | rfl | ⟨e1, e2, e3⟩
        ·rw [i1] at hj; exact .inl ⟨rfl, Option.some.inj hj⟩
        ·rw [i2] at hj; exact .inr (.inl ⟨rfl, Option.some.inj hj⟩)
        ·rw [i3] at hj; exact .inr (.inr ⟨rfl, Option.some.inj hj⟩)
        ·rw [i4 j e1 e2 e3] at hj; cases hj
       have ka : keyOf a = some c → ∃ l, assoc h' c = some (.segs false l) := fun e => by
        cases a with
        | none => cases e
        | some p => obtain ⟨key, pk⟩ := p; simp only [keyOf, Option.some.injEq] at e; subst e; exact ⟨_, t1.2.1⟩
       have kb : keyOf b = some c → ∃ l, assoc h' c = some (.segs false l) := fun e => by
        cases b with
        | none => cases e
        | some p => obtain ⟨key, pk⟩ := p; simp only [keyOf, Option.some.injEq] at e; subst e; exact ⟨_, t2.2.1⟩
       have kp : poolOf a b = some c → assoc h' c = some (.pool k rows') := fun e => by rw [e] at t3; exact t3.2
       have kab : keyOf a = some c → keyOf b = some c → False := fun e e' => by
        cases a with
        | none => cases e
        | some p =>
         cases b with
         | none => cases e'
         | some q =>
          obtain ⟨key, pk⟩ := p
          obtain ⟨key', pk'⟩ := q
          simp only [keyOf, Option.some.injEq] at e e'
          exact (t4 _ _ rfl rfl).2 (e.trans e'.symm)
       rcases inj j c h1 with ⟨rfl, e⟩ | ⟨rfl, e⟩ | ⟨rfl, e⟩ <;> rcases inj j' c h2 with ⟨rfl, e'⟩ | ⟨rfl, e'⟩ | ⟨rfl, e'⟩
       ·rfl
       ·exact (kab e e').elim
       ·obtain ⟨l, z⟩ := ka e; rw [kp e'] at z; cases z
       ·exact (kab e' e).elim
       ·rfl
       ·obtain ⟨l, z⟩ := kb e; rw [kp e'] at z; cases z
       ·obtain ⟨l, z⟩ := ka e'; rw [kp e] at z; cases z
       ·obtain ⟨l, z⟩ := kb e'; rw [kp e] at z; cases z
       ·rfl
      ·have e1 : j ≠ stamp := fun e => by subst e; unfold dmOf at hj; rw [hk1] at hj; cases hj
       have e2 : j ≠ kq := fun e => by subst e; unfold dmOf at hj; rw [hk3] at hj; cases hj
       have e3 : j ≠ kp := fun e => by subst e; unfold dmOf at hj; rw [hk2] at hj; cases hj
       exact ⟨by unfold dmOf; rw [g4 j e1 e2 e3]; exact hj, .of_eq (q4 j e1 e2 e3)⟩
     refine ⟨ρn, fun j hj => ?_, ?_, hMem⟩
     ·have e1 : j ≠ stamp := fun e => by subst e; unfold dmOf at hj; rw [hk1] at hj; cases hj
      have e2 : j ≠ kq := fun e => by subst e; unfold dmOf at hj; rw [hk3] at hj; cases hj
      have e3 : j ≠ kp := fun e => by subst e; unfold dmOf at hj; rw [hk2] at hj; cases hj
      exact .of_eq (q4 j e1 e2 e3)
     ·have d1 : D (dmOf Hn) ρn (hdrSV stamp hs') u1 := t1.D (dm_of g1) fun c e => by rw [q1, e]
      have d2 : D (dmOf Hn) ρn (hdrSV (kq) gs') u2 := t2.D (dm_of g2) fun c e => by rw [q2, e]
      have c1 : u1.cells = #[u1] := (single_cell rfl d1).2
      have c2 : u2.cells = #[u2] := (single_cell rfl d2).2
      show D (dmOf Hn) ρn (.agg [hdrSV stamp hs', hdrSV (kq) gs']) _
      simp only [D, Cs]
      exact ⟨[u1, u2], ⟨u1, [u2], d1, by rw [c1]; rfl, u2, [], d2, by rw [c2]; rfl, rfl⟩, rfl⟩
    ·simp [RP.run] at hrun
   ·simp [RP.run] at hrun
  ·simp [RP.run] at hrun
 ·simp [RP.run] at hrun

theorem call_fam (hΓ : TabOk P Γ) (hgl : Γ.gl = keysOf Γ.gh) (hlow : ∀ g ∈ keysOf Γ.gh, g < 490) {f : FuncId} {fn : Func} (hf : P.funcs[f]? = some fn) (hn : (fn.name == "runtime.NumGoroutine") = false) (hb : fn.body.isNone = false) (k : IntKind)
  (ms : List Md) (hro : onlyRO ms = true) (spec : List AV → Option (List Prop × Hdrs × Hdrs × List (List Int)))
  (h : ∀ avs p hs gs rows, spec avs = some (p, hs, gs, rows) → AllP p → FactA avs → ∃ args' L inv, okA 600 avs args' [] ∧ args'.length ≤ fn.ntmps ∧ VcX (fun x h' => kvH2 k x h' fun hs' gs' rows' => hs' = hs ∧ gs' = gs ∧ rows' = rows) Γ fn L (Γ.gh ++ [(490, .world)]) args' inv) :
  CallOk P Γ.gh f (famCtr k ms spec) :=
 call_famK (fun s => by omega) (fun s => by omega) (fun s => by omega) hΓ hgl hlow hf hn hb k ms hro spec h

end
end Go.Gx

/- Contracts of what is done to lists of rows: all turned in their places; a part of them handed on. -/
namespace Go.Gx
open Go.RowKit
set_option linter.unusedVariables false

theorem Hdrs.move {H' Hn : Nat → Option SB} {ρ' ρn : Nat → Pl} {pk pn : Nat} (hd : dmOf Hn pn) (hρ : ρn pn = ρ' pk) : ∀ (hs : Hdrs) (cs : List Value), HdrsD (dmOf H') ρ' pk hs cs → HdrsD (dmOf Hn) ρn pn hs cs
 | [], cs, h => h
 | x :: t, cs, h => by
  obtain ⟨v, c, a1, a2, a3⟩ := h
  refine ⟨v, c, ?_, a2, Hdrs.move hd hρ t c a3⟩
  simp only [D] at a1 ⊢
  rw [hρ]
  exact ⟨hd, a1.2⟩

section
variable {P : Program} {Γ : Tab}

/-! ### A part of the second row handed on -/

def givenCtr : Ctr := fun stamp args =>
 match args with
 | [.agg [.sl f 0 1 ⟨true, .ofNat 0⟩ n, .sl g 0 1 ⟨true, .ofNat 0⟩ m]] => .ret ⟨[n.z ≤ m.z], .sl g 0 1 ⟨true, .ofNat 0⟩ n, [], false⟩
 | _ => .fail

def givenH : Heap := [(601, .gone), (602, .gone)]
def givenA (n m : Int) : List SV := [.agg [.sl 601 0 1 ⟨true, .ofNat 0⟩ ⟨false, n⟩, .sl 602 0 1 ⟨true, .ofNat 0⟩ ⟨false, m⟩]]

theorem call_given (hΓ : TabOk P Γ) (hgl : Γ.gl = []) (hgh : Γ.gh = []) {f : FuncId} {fn : Func} (hf : P.funcs[f]? = some fn) (hn : (fn.name == "runtime.NumGoroutine") = false) (hb : fn.body.isNone = false)
  (h : ∀ n m : Int, 0 ≤ n → n ≤ m → 1 ≤ fn.ntmps ∧ VcX (fun x h' => ∃ z : Int, x = .sl 602 0 1 ⟨true, .ofNat 0⟩ ⟨false, z⟩ ∧ z = n) Γ fn [] givenH (givenA n m) fun _ _ _ => False) :
  CallOk P [] f givenCtr := by
 intro stamp args H rs rs' d vs w0 M ρ w hG hc hp hD hm
 unfold givenCtr at hc
 split at hc
 ·rename_i kf n kg m
  have e := run_ret hc
  subst e
  have hle : n.z ≤ m.z := hp.1
  simp only [Ds] at hD
  obtain ⟨u, c, hu, rfl, rfl⟩ := hD
  simp only [D, Cs] at hu
  obtain ⟨cs, ⟨u1, c1, d1, rfl, u2, c2, d2, rfl, rfl⟩, rfl⟩ := hu
  obtain ⟨o2, o3⟩ := h n.z m.z d1.2.2.1 hle
  let ρ1 : Nat → Pl := fun j => if j = 601 then ρ kf else ρ kg
  have hat : ∀ j b, assoc givenH j = some b → b = .gone := fun j b hb => by
   simp only [givenH, assoc] at hb
   split at hb
   ·simpa using hb.symm
   ·split at hb
    ·simpa using hb.symm
    ·cases hb
  have g1 : Mem w (fun _ => False) ρ1 (assoc givenH) w := by
   refine ⟨⟨fun j b hb => ?_, fun j j' ro ro' l l' h1 => ?_, fun j ro l h1 => ?_⟩, FrameW.refl _ _, fun j l h1 => ?_, fun j h1 => ?_, fun j l h1 => ?_, .none fun j kd ms h1 => ?_⟩
   ·rw [hat j b hb]; trivial
   all_goals (have := hat _ _ h1; cases this)
  have hgo : GlOk Γ w (fun _ => False) ρ1 (assoc givenH) := ⟨fun g hg => (by rw [hgl] at hg; cases hg), (by rw [hgh]; intro g b hgb; cases hgb)⟩
  have e1 : dmOf (assoc givenH) 601 := dm_of (b := .gone) rfl
  have e2 : dmOf (assoc givenH) 602 := dm_of (b := .gone) rfl
  have hargs : Ds (dmOf (assoc givenH)) ρ1 (givenA n.z m.z) [.agg (u1.cells.toList ++ (u2.cells.toList ++ [])).toArray] := by
   simp only [Ds, givenA]
   refine ⟨_, [], ?_, rfl, rfl⟩
   rw [D]
   refine ⟨_, ?_, rfl⟩
   simp only [Cs]
   refine ⟨u1, _, ?_, rfl, u2, [], ?_, rfl, rfl⟩
   ·simp only [D]; exact ⟨e1, d1.2⟩
   ·simp only [D]; exact ⟨e2, d2.2⟩
  refine .inr ⟨f, _, GoFn.run ⟨fn, hf, hn, hb⟩ _ _, (vcX_calls hΓ hf o3 o2 hgo g1 hargs).mono fun e w' he => ?_⟩
  obtain ⟨x, v, h', ρ', rfl, ⟨z, rfl, rfl⟩, r2, r3, r4⟩ := he
  refine ⟨v, rfl, ρ, .refl _ _, ?_, ?_⟩
  ·have le := (r4 602 e2).2
   simp only [D] at r2 ⊢
   have e3 : at_ (ρ' 602) = at_ (ρ kg) := by
    funext c
    simp only [at_, le.blk, le.off]
    rfl
   rw [e3, le.cap] at r2
   exact ⟨d2.1, r2.2⟩
  ·exact hm.keep (r3.frame.below fun _ h => h)
 ·simp [RP.run] at hc

end
end Go.Gx

/- The contract of a function that writes into each of the caller's rows, and appends to it. -/
namespace Go.Gx
open Go.RowKit
set_option linter.unusedVariables false

section
variable {P : Program} {Γ : Tab} {w0 : World} {M : Nat → Prop} {ρ : Nat → Pl} {H : Nat → Option SB} {w : World}

def OwnD (H : Nat → Option SB) (ρ : Nat → Pl) (k : IntKind) : List SV → List Value → List Nat → List (List Int) → Hdrs → Prop
 | [], vs, ks, ls, hs => vs = [] ∧ ks = [] ∧ ls = [] ∧ hs = []
 | x :: r, vs, ks, ls, hs => ∃ v c key ks' l ls' n hs', vs = v :: c ∧ ks = key :: ks' ∧ ls = l :: ls' ∧ hs = (0, n) :: hs' ∧ H key = some (.segs false [.rowI k l]) ∧
   (n : Int) < 9223372036854775808 ∧ (∃ a cap, v = .slice a n cap ∧ n ≤ cap ∧ ((a = some (at_ (ρ key) 0) ∧ cap ≤ (ρ key).cap) ∨ (n = 0 ∧ cap = 0))) ∧ OwnD H ρ k r c ks' ls' hs'

theorem OwnD.len {k : IntKind} : ∀ {xs : List SV} {vs : List Value} {ks : List Nat} {ls : List (List Int)} {hs : Hdrs}, OwnD H ρ k xs vs ks ls hs → ks.length = xs.length ∧ ls.length = xs.length ∧ hs.length = xs.length ∧ vs.length = xs.length
 | [], vs, ks, ls, hs, h => by obtain ⟨rfl, rfl, rfl, rfl⟩ := h; exact ⟨rfl, rfl, rfl, rfl⟩
 | x :: r, vs, ks, ls, hs, h => by
  obtain ⟨v, c, key, ks', l, ls', n, hs', rfl, rfl, rfl, rfl, _, _, _, h2⟩ := h
  obtain ⟨a, b, c, d⟩ := OwnD.len h2
  simp [a, b, c, d]

theorem OwnD.key {k : IntKind} : ∀ {xs : List SV} {vs : List Value} {ks : List Nat} {ls : List (List Int)} {hs : Hdrs}, OwnD H ρ k xs vs ks ls hs → ∀ i, i < ks.length → H (ks.getD i 0) = some (.segs false [.rowI k (ls.getD i [])])
 | [], vs, ks, ls, hs, h, i, hi => by obtain ⟨rfl, rfl, rfl, rfl⟩ := h; exact absurd hi (by simp)
 | x :: r, vs, ks, ls, hs, h, 0, hi => by
  obtain ⟨v, c, key, ks', l, ls', n, hs', rfl, rfl, rfl, rfl, h1, _, _, h2⟩ := h
  exact h1
 | x :: r, vs, ks, ls, hs, h, i + 1, hi => by
  obtain ⟨v, c, key, ks', l, ls', n, hs', rfl, rfl, rfl, rfl, h1, _, _, h2⟩ := h
  have := OwnD.key h2 i (by simpa using hi)
  simpa using this

end
end Go.Gx

/- The contract of a function that is handed a pointer to a record of a pool. -/
namespace Go.Gx
open Go.RowKit
set_option linter.unusedVariables false

section
variable {P : Program} {Γ : Tab} {w0 : World} {M : Nat → Prop} {ρ : Nat → Pl} {H : Nat → Option SB} {w : World}

theorem Mem.segs_put (h : Mem w0 M ρ H w) {key : Nat} (hn : H key = none) {p : Pl} {l : List Seg} {vs : List Value} (hl : SegsD (dmOf H) ρ l vs) (h1 : vs.length ≤ p.cap) (h2 : w.rangeAt p.blk p.off vs) (h3 : w.there p.blk p.off p.cap)
  (h4 : 0 < p.cap → p.blk < w.heap.size ∧ (w0.heap.size ≤ p.blk ∨ M p.blk) ∧ Clean w p.blk) (h5 : ∀ k ro l, H k = some (.segs ro l) → 0 < (ρ k).cap → 0 < p.cap → (ρ k).blk ≠ p.blk)
  (h6 : ∀ k kd ms i c, H k = some (.pool kd ms) → i < ms.length → OwnB w (ρ k) kd i c → 0 < p.cap → p.blk ≠ c) : Mem w0 M (updP ρ key p) (updH H key (.segs false l)) w := by
 have hkp := updP_keeps (ρ := ρ) (p := p) hn
 have hx : ∀ k ro l', updH H key (.segs false l) k = some (.segs ro l') → (k = key ∧ ro = false) ∨ (k ≠ key ∧ H k = some (.segs ro l')) := fun k ro l' h => by
  by_cases e : k = key
  ·subst e; rw [updH_same] at h; simp only [Option.some.injEq, SB.segs.injEq] at h; exact .inl ⟨rfl, h.1.symm⟩
  ·rw [updH_ne e] at h; exact .inr ⟨e, h⟩
 have hp : ∀ k kd ms, updH H key (.segs false l) k = some (.pool kd ms) → k ≠ key ∧ H k = some (.pool kd ms) := fun k kd ms h => by
  by_cases e : k = key
  ·subst e; rw [updH_same] at h; cases h
  ·rw [updH_ne e] at h; exact ⟨e, h⟩
 refine ⟨⟨fun k b hb => ?_, fun k k' ro ro' l1 l2 e1 e2 hkk hr c1 c2 => ?_, fun k ro l1 e1 c1 => ?_⟩, h.frame, fun k l1 e1 c1 => ?_, view_up h.view (by simp), fun k l1 e1 c1 => ?_, ⟨fun k kd ms hk => ?_, fun k kd ms k' ro l1 i c e1 e2 c1 hi c2 => ?_, fun k kd ms k' kd' ms' i j c e1 e2 hkk hi hj c1 c2 => ?_, fun k kd q r ms hk => ?_⟩⟩
 ·by_cases e : k = key
  ·subst e; rw [updH_same] at hb; simp only [Option.some.injEq] at hb; subst hb
   exact ⟨vs, SegsD.mono (dm_updH _ _ _) hkp _ _ hl, by rw [updP_same]; exact h1, by rw [updP_same]; exact h2, fun _ => by rw [updP_same]; exact h3⟩
  ·rw [updH_ne e] at hb
   exact (h.heap.blk k b hb).of_block (dm_updH _ _ _) hkp (updP_ne e) (fun _ _ _ _ => rfl)
 ·rcases hx _ _ _ e1 with ⟨rfl, rfl⟩ | ⟨n1, d1⟩
  ·rcases hx _ _ _ e2 with ⟨rfl, rfl⟩ | ⟨n2, d2⟩
   ·exact absurd rfl hkk
   ·rw [updP_same] at c1 ⊢; rw [updP_ne n2] at c2 ⊢
    exact (h5 _ _ _ d2 c2 c1).symm
  ·rcases hx _ _ _ e2 with ⟨rfl, rfl⟩ | ⟨n2, d2⟩
   ·rw [updP_same] at c2 ⊢; rw [updP_ne n1] at c1 ⊢
    exact h5 _ _ _ d1 c1 c2
   ·rw [updP_ne n1] at c1 ⊢; rw [updP_ne n2] at c2 ⊢
    exact h.heap.sep k k' ro ro' l1 l2 d1 d2 hkk hr c1 c2
 ·rcases hx _ _ _ e1 with ⟨rfl, rfl⟩ | ⟨n1, d1⟩
  ·rw [updP_same] at c1 ⊢; exact (h4 c1).1
  ·rw [updP_ne n1] at c1 ⊢; exact h.heap.lt k ro l1 d1 c1
 ·rcases hx _ _ _ e1 with ⟨rfl, _⟩ | ⟨n1, d1⟩
  ·rw [updP_same] at c1 ⊢; exact (h4 c1).2.1
  ·rw [updP_ne n1] at c1 ⊢; exact h.own k l1 d1 c1
 ·rcases hx _ _ _ e1 with ⟨rfl, _⟩ | ⟨n1, d1⟩
  ·rw [updP_same] at c1 ⊢; exact (h4 c1).2.2
  ·rw [updP_ne n1] at c1 ⊢; exact h.clean k l1 d1 c1
 ·obtain ⟨n1, d1⟩ := hp _ _ _ hk
  exact (h.pools.pool k kd ms d1).step (updP_ne n1) (Nat.le_refl _) (fun _ _ _ _ h => h) (fun _ _ _ _ => rfl)
 ·obtain ⟨n1, d1⟩ := hp _ _ _ e1
  rw [updP_ne n1] at c2
  rcases hx _ _ _ e2 with ⟨rfl, _⟩ | ⟨n2, d2⟩
  ·rw [updP_same] at c1 ⊢; exact h6 _ _ _ _ _ d1 hi c2 c1
  ·rw [updP_ne n2] at c1 ⊢; exact h.pools.apartD k kd ms k' ro l1 i c d1 d2 c1 hi c2
 ·obtain ⟨n1, d1⟩ := hp _ _ _ e1
  obtain ⟨n2, d2⟩ := hp _ _ _ e2
  rw [updP_ne n1] at c1; rw [updP_ne n2] at c2
  exact h.pools.twoD k kd ms k' kd' ms' i j c d1 d2 hkk hi hj c1 c2
 ·obtain ⟨n1, d1⟩ := hp _ _ _ hk
  obtain ⟨v1, v2, v3, v4⟩ := h.pools.view k kd q r ms d1
  rw [updP_ne n1]
  exact ⟨dm_updH _ _ _ q v1, v2, v3, v4.step rfl (hkp q v1)⟩

theorem Mem.pool_put (h : Mem w0 M ρ H w) {key : Nat} (hk : H key = some .gone) {k : PK} {ms : List (List Int)} (hsn : k.seen = none) (hP : PoolD w0 M w (ρ key) k ms)
  (h5 : ∀ k' ro l i c, H k' = some (.segs ro l) → 0 < (ρ k').cap → i < ms.length → OwnB w (ρ key) k i c → (ρ k').blk ≠ c)
  (h6 : ∀ k' kd ms' i j c, H k' = some (.pool kd ms') → i < ms.length → j < ms'.length → OwnB w (ρ key) k i c → OwnB w (ρ k') kd j c → False) : Mem w0 M ρ (updH H key (.pool k ms)) w := by
 have hx : ∀ k' ro l', updH H key (.pool k ms) k' = some (.segs ro l') → H k' = some (.segs ro l') := fun k' ro l' h => by
  by_cases e : k' = key
  ·subst e; rw [updH_same] at h; cases h
  ·rw [updH_ne e] at h; exact h
 have hp : ∀ k' kd ms', updH H key (.pool k ms) k' = some (.pool kd ms') → (k' = key ∧ kd = k ∧ ms' = ms) ∨ (k' ≠ key ∧ H k' = some (.pool kd ms')) := fun k' kd ms' h => by
  by_cases e : k' = key
  ·subst e; rw [updH_same] at h; simp only [Option.some.injEq, SB.pool.injEq] at h; exact .inl ⟨rfl, h.1.symm, h.2.symm⟩
  ·rw [updH_ne e] at h; exact .inr ⟨e, h⟩
 refine ⟨⟨fun k' b hb => ?_, fun k1 k2 ro ro' l1 l2 e1 e2 => h.heap.sep k1 k2 ro ro' l1 l2 (hx _ _ _ e1) (hx _ _ _ e2), fun k' ro l1 e1 => h.heap.lt k' ro l1 (hx _ _ _ e1)⟩, h.frame, fun k' l1 e1 => h.own k' l1 (hx _ _ _ e1), view_upH h.view (by simp), fun k' l1 e1 => h.clean k' l1 (hx _ _ _ e1),
  ⟨fun k' kd ms' hk' => ?_, fun k1 kd ms1 k2 ro l1 i c e1 e2 c1 hi c2 => ?_, fun k1 kd ms1 k2 kd' ms2 i j c e1 e2 hkk hi hj c1 c2 => ?_, fun k' kd q r ms' hk' => ?_⟩⟩
 ·by_cases e : k' = key
  ·subst e; rw [updH_same] at hb; simp only [Option.some.injEq] at hb; subst hb; trivial
  ·rw [updH_ne e] at hb
   exact (h.heap.blk k' b hb).of_block (dm_updH _ _ _) (fun _ _ => .refl _) rfl (fun _ _ _ _ => rfl)
 ·rcases hp _ _ _ hk' with ⟨rfl, rfl, rfl⟩ | ⟨n, d⟩
  ·exact hP
  ·exact h.pools.pool k' kd ms' d
 ·rcases hp _ _ _ e1 with ⟨rfl, rfl, rfl⟩ | ⟨n, d⟩
  ·exact h5 _ _ _ _ _ (hx _ _ _ e2) c1 hi c2
  ·exact h.pools.apartD k1 kd ms1 k2 ro l1 i c d (hx _ _ _ e2) c1 hi c2
 ·rcases hp _ _ _ e1 with ⟨rfl, rfl, rfl⟩ | ⟨n1, d1⟩
  ·rcases hp _ _ _ e2 with ⟨rfl, rfl, rfl⟩ | ⟨n2, d2⟩
   ·exact absurd rfl hkk
   ·exact h6 _ _ _ _ _ _ d2 hi hj c1 c2
  ·rcases hp _ _ _ e2 with ⟨rfl, rfl, rfl⟩ | ⟨n2, d2⟩
   ·exact h6 _ _ _ _ _ _ d1 hj hi c2 c1
   ·exact h.pools.twoD k1 kd ms1 k2 kd' ms2 i j c d1 d2 hkk hi hj c1 c2
 ·rcases hp _ _ _ hk' with ⟨rfl, e, rfl⟩ | ⟨n, d⟩
  ·rw [← e] at hsn; cases hsn
  ·obtain ⟨v1, v2, v3, v4⟩ := h.pools.view k' kd q r ms' d
   exact ⟨dm_updH _ _ _ q v1, v2, v3, v4⟩

def plainM : List Md → Bool
 | [] => true
 | .v :: r => plainM r
 | .d _ :: r => plainM r
 | _ => false

theorem plain_keys : ∀ (ms : List Md) (xs : List SV), plainM ms = true → ownKeys ms xs = []
 | [], xs, _ => by cases xs <;> rfl
 | .v :: r, [], _ => rfl
 | .v :: r, x :: xs, h => by
  have : ownKeys (.v :: r) (x :: xs) = ownKeys r xs := by cases x <;> rfl
  rw [this]; exact plain_keys r xs h
 | .d _ :: r, [], _ => rfl
 | .d sh :: r, x :: xs, h => by
  have : ownKeys (.d sh :: r) (x :: xs) = ownKeys r xs := by cases x <;> rfl
  rw [this]; exact plain_keys r xs h
 | .m :: _, _, h => by simp [plainM] at h
 | .o :: _, _, h => by simp [plainM] at h

theorem AsD.up {Out : Nat → Prop} {H' : Nat → Option SB} {ρ' : Nat → Pl} (hd : ∀ k, dmOf H k → dmOf H' k) (hρ : ∀ k, dmOf H k → PlLe (ρ k) (ρ' k)) : ∀ (avs : List AV) (vs : List Value), AsD w Out H ρ avs vs [] → AsD w Out H' ρ' avs vs []
 | [], vs, h => h
 | .v x :: r, vs, h => by
  obtain ⟨u, c, rfl, h1, h2⟩ := h
  exact ⟨u, c, rfl, D.mono hd hρ _ _ h1, AsD.up hd hρ r c h2⟩
 | .d sh d :: r, vs, h => by
  obtain ⟨u, c, rfl, h1, h2⟩ := h
  exact ⟨u, c, rfl, h1, AsD.up hd hρ r c h2⟩
 | .m l :: r, vs, h => by obtain ⟨_, _, _, e, _⟩ := h; cases e
 | .o q :: r, vs, h => by obtain ⟨_, _, _, _, e, _⟩ := h; cases e

def recCtr (ts : List Ty) (ms : List Md) (spec : List AV → Option (List Prop × List RV × List (Option (List Seg)))) : Ctr := fun stamp args =>
 match args with
 | .pq key r 0 :: rest => .get key fun b => (match b with
  | some (.pool (.r ts') ls) => (match tysEq ts ts' && plainM ms with
   | true => getA [] ms rest fun p avs => (match spec (.m (recSegs ts (ls.getD r [])) :: avs) with
    | some (p', rvs, [some l']) => (match flatSegs l', oneFr rvs with
     | some (ts2, m'), true => (match tysEq ts ts2 with
      | true => .get (stamp + 700000) fun c => (match c with
       | none => (match frOf rvs with
        | none => .ret ⟨(r < ls.length) :: (p ++ p'), resOf stamp rvs, [(key, .pool (.r ts) (ls.set r m')), (stamp + 700000, .gone)], true⟩
        | some l => .get stamp fun b => (match b with
         | none => .ret ⟨(r < ls.length) :: (p ++ p'), resOf stamp rvs, [(key, .pool (.r ts) (ls.set r m')), (stamp + 700000, .gone), (stamp, .segs false l)], true⟩
         | some _ => .fail))
       | some _ => .fail)
      | false => .fail)
     | _, _ => .fail)
    | _ => .fail)
   | false => .fail)
  | _ => .fail)
 | _ => .fail

theorem call_rec (hΓ : TabOk P Γ) (hgl : Γ.gl = keysOf Γ.gh) (hlow : ∀ g ∈ keysOf Γ.gh, g < 490) {f : FuncId} {fn : Func} (hf : P.funcs[f]? = some fn) (hn : (fn.name == "runtime.NumGoroutine") = false) (hb : fn.body.isNone = false)
  (ts : List Ty) (ms : List Md) (spec : List AV → Option (List Prop × List RV × List (Option (List Seg))))
  (h : ∀ avs p rvs fin, spec avs = some (p, rvs, fin) → AllP p → FactA avs → ∃ args' h6 L inv, okA 600 avs args' h6 ∧ args'.length ≤ fn.ntmps ∧ VcG fin.length Γ fn L (Γ.gh ++ (490, .world) :: h6) args' (fun rvs' fin' => eqRVs rvs' rvs ∧ eqFin fin' fin) inv) : CallOk P Γ.gh f (recCtr ts ms spec) := by
 intro stamp args H rs rs' d vs w0 M ρ w hG hc hp hD hm
 unfold recCtr at hc
 split at hc
 ·rename_i key r rest
  simp only [RP.run] at hc
  split at hc
  ·rename_i ts' ls hkey
   split at hc
   ·rename_i hb0
    simp only [Bool.and_eq_true] at hb0
    have hts := tysEq_eq hb0.1
    subst hts
    simp only [Ds] at hD
    obtain ⟨v0, vs', hv0, rfl, hrest⟩ := hD
    simp only [D] at hv0
    obtain ⟨hkd, hrp, _, rfl⟩ := hv0
    have hPl := hm.pools.pool key _ ls hkey
    have hrl : r < ls.length := by rw [← hPl.cnt]; exact hrp
    let M' : Nat → Prop := fun b => 0 < (ρ key).pc r ∧ b = (ρ key).pb r
    have hB : BanOk w0 M ρ H w [] M' := ⟨fun k ro l _ hk hc hb => hm.pools.apart key _ ls k ro l r hkey hk hc hrl hb.1 hb.2, fun b hb hnM hb' => by
     obtain ⟨q1, rfl⟩ := hb'
     rcases hPl.own r hrl q1 with h | h
     ·omega
     ·exact hnM h, fun k kd ms' i c hkd _ hk hi hc hb => by
     have hne : k ≠ key := fun e => by
      rw [e, hkey] at hk
      simp only [Option.some.injEq, SB.pool.injEq] at hk
      rw [← hk.1] at hkd; cases hkd
     exact hm.pools.twoD k _ ms' key _ ls i r c hk hkey hne hi hrl hc (by rw [hb.2]; exact .pb hb.1)⟩
    obtain ⟨p, avs, rs1, hrun, hAs⟩ := getA_sound P hm hB ms rest vs' _ d _ rs' hrest hc
    rw [plain_keys ms rest hb0.2] at hAs
    clear hc
    split at hrun
    ·rename_i p' rvs l' hspec
     split at hrun
     ·rename_i ts2 m' hfl ho
      split at hrun
      ·rename_i hts2
       have hts2 := tysEq_eq hts2
       subst hts2
       simp only [RP.run] at hrun
       split at hrun
       ·rename_i htmp
        have hpp : AllP p ∧ AllP p' ∧ (frOf rvs ≠ none → H stamp = none) ∧ d.v = resOf stamp rvs ∧ ∃ more, d.ws = [(key, .pool (.r ts) (ls.set r m')), (stamp + 700000, .gone)] ++ more ∧ (∀ l, frOf rvs = some l → more = [(stamp, .segs false l)]) ∧ (frOf rvs = none → more = []) := by
         split at hrun
         ·rename_i hfr
          have e := run_ret hrun
          subst e
          obtain ⟨_, hp⟩ := hp
          obtain ⟨a, b⟩ := AllP.append (l := p) (r := p') hp
          exact ⟨a, b, fun h => absurd hfr h, rfl, [], rfl, fun l e => (by rw [hfr] at e; cases e), fun _ => rfl⟩
         ·rename_i l hfr
          simp only [RP.run] at hrun
          split at hrun
          ·rename_i hst
           have e := run_ret hrun
           subst e
           obtain ⟨_, hp⟩ := hp
           obtain ⟨a, b⟩ := AllP.append (l := p) (r := p') hp
           exact ⟨a, b, fun _ => hst, rfl, [(stamp, .segs false l)], rfl, fun l0 e => (by rw [hfr] at e; simp only [Option.some.injEq] at e; rw [e]), fun e => (by rw [hfr] at e; cases e)⟩
          ·simp [RP.run] at hrun
        obtain ⟨hpa, hpb, hst, hdv, more, hws, hmo1, hmo2⟩ := hpp
        have hA0 := hAs hpa
        -- the record under a key of its own
        have hrm : ls[r]? = some (ls.getD r []) := by rw [List.getD_eq_getElem?_getD, List.getElem?_eq_getElem hrl]; rfl
        obtain ⟨r1, r2, r3, r4⟩ := hPl.row rfl r _ hrm
        generalize hmr : ls.getD r [] = m at *
        have hng : ∀ k, k ≠ key → updH H key .gone k = H k := fun k hk => updH_ne hk
        have nkt : stamp + 700000 ≠ key := fun e => by rw [e, hkey] at htmp; cases htmp
        have hgo := hm.gone key (by rw [hkey]; rfl)
        have hput := hgo.segs_put (key := stamp + 700000) (p := { blk := (ρ key).pb r, off := (ρ key).po r, cap := (ρ key).pc r }) (l := recSegs ts m) (vs := recVals ts m) (by rw [hng _ nkt]; exact htmp) (recSegs_D ts m r1) r2 r3 r4
         (fun hc => ⟨hPl.lt r hrl hc, hPl.own r hrl hc, hPl.clean r hrl hc⟩)
         (fun k ro l hk hc hc' => by
          have hne : k ≠ key := fun e => by subst e; rw [updH_same] at hk; cases hk
          rw [hng k hne] at hk
          exact hm.pools.apart key _ ls k ro l r hkey hk hc hrl hc')
         (fun k kd ms' i c hk hi hc hc' e => by
          have hne : k ≠ key := fun e => by subst e; rw [updH_same] at hk; cases hk
          rw [hng k hne] at hk
          exact hm.pools.twoD key _ ls k kd ms' r i c hkey hk (Ne.symm hne) hrl hi (by rw [← e]; exact .pb hc') hc)
        generalize hH1 : updH (updH H key .gone) (stamp + 700000) (.segs false (recSegs ts m)) = H1 at hput
        generalize hρ1 : updP ρ (stamp + 700000) ({ blk := (ρ key).pb r, off := (ρ key).po r, cap := (ρ key).pc r } : Pl) = ρ1 at hput
        have hρt : ρ1 (stamp + 700000) = { blk := (ρ key).pb r, off := (ρ key).po r, cap := (ρ key).pc r } := by rw [← hρ1, updP_same]
        have hρo : ∀ k, k ≠ stamp + 700000 → ρ1 k = ρ k := fun k hk => by rw [← hρ1, updP_ne hk]
        have hH1t : H1 (stamp + 700000) = some (.segs false (recSegs ts m)) := by rw [← hH1, updH_same]
        have hH1k : H1 key = some .gone := by rw [← hH1, updH_ne (Ne.symm nkt), updH_same]
        have hH1o : ∀ k, k ≠ stamp + 700000 → k ≠ key → H1 k = H k := fun k h1 h2 => by rw [← hH1, updH_ne h1, updH_ne h2]
        have hd1 : ∀ k, dmOf H k → dmOf H1 k := fun k hk => by rw [← hH1]; exact dm_updH _ _ _ k (dm_updH _ _ _ k hk)
        have hle1 : ∀ k, dmOf H k → PlLe (ρ k) (ρ1 k) := fun k hk => by
         by_cases e : k = stamp + 700000
         ·subst e; unfold dmOf at hk; rw [htmp] at hk; cases hk
         ·exact .of_eq (hρo k e)
        have hA1 : AsD w (OutB w M') H1 ρ1 (.m (recSegs ts m) :: avs) (.pointer (some ⟨(ρ key).pb r, (ρ key).po r + (0 : Int).toNat, none⟩) :: vs') [stamp + 700000] := by
         refine ⟨vs', stamp + 700000, [], rfl, ?_, hH1t, AsD.up hd1 hle1 avs vs' hA0⟩
         rw [hρt]; rfl
        have hMM : ∀ b, M' b ↔ ∃ k ∈ [stamp + 700000], 0 < (ρ1 k).cap ∧ b = (ρ1 k).blk := fun b => by
         constructor
         ·rintro ⟨q1, q2⟩
          exact ⟨_, List.mem_singleton.2 rfl, by rw [hρt]; exact q1, by rw [hρt]; exact q2⟩
         ·rintro ⟨k, hk, q1, q2⟩
          rw [List.mem_singleton.1 hk, hρt] at q1 q2
          exact ⟨q1, q2⟩
        obtain ⟨args', h6, L, inv, k1, k2, k3⟩ := h _ p' rvs [some l'] hspec hpb (AsD.fact hput _ _ _ hA1)
        have hstk : stamp ≠ stamp + 700000 := by omega
        have hst1 : frOf rvs ≠ none → H1 stamp = none := fun hne => by
         have e := hst hne
         have : stamp ≠ key := fun e' => by rw [e', hkey] at e; cases e
         rw [hH1o stamp hstk this]; exact e
        let H2 : Nat → Option SB := fun k => if k = stamp + 700000 then some (.segs false l') else match frOf rvs with | none => H1 k | some l => if k = stamp then some (.segs false l) else H1 k
        have hH2t : H2 (stamp + 700000) = some (.segs false l') := by simp [H2]
        have hH2s : ∀ l, frOf rvs = some l → H2 stamp = some (.segs false l) := fun l hl => by simp [H2, hl]
        have hH2o : ∀ k, k ≠ stamp + 700000 → k ≠ stamp → H2 k = H1 k := fun k h1 h2 => by
         simp only [H2, h1, if_false]
         cases frOf rvs <;> simp [h2]
        have hH2n : frOf rvs = none → ∀ k, k ≠ stamp + 700000 → H2 k = H1 k := fun hfr k h1 => by simp [H2, h1, hfr]
        refine .inr ⟨f, _, GoFn.run ⟨fn, hf, hn, hb⟩ _ _, (gen_core hΓ hgl hlow hf hG hput (ks := [stamp + 700000]) (by simp) hMM hA1 k1 k2 k3 ho (by simp) rfl (stamp := stamp) hst1 (H' := H2) (fun k hk hks => hH2o k (by simpa using hk) hks) (fun hfr k hk => hH2n hfr k (by simpa using hk))
         (fun i hi => by
          have : i = 0 := by simp at hi; omega
          subst this
          exact hH2t) hH2s).mono fun e w' he => ?_⟩
        obtain ⟨v, ρ2, rfl, q1, q2, q3, q4, q5, q6, q7⟩ := he
        refine ⟨v, rfl, ?_⟩
        have hρ2t : ρ2 (stamp + 700000) = { blk := (ρ key).pb r, off := (ρ key).po r, cap := (ρ key).pc r } := by rw [q5 _ (Ne.symm hstk), hρt]
        have hsk : frOf rvs ≠ none → stamp ≠ key := fun hne e => by
         have := hst hne
         rw [e, hkey] at this; cases this
        have hρ2k : ρ2 key = ρ key := by
         by_cases e : frOf rvs = none
         ·rw [q6 e, hρo _ (Ne.symm nkt)]
         ·rw [q5 _ (Ne.symm (hsk e)), hρo _ (Ne.symm nkt)]
        have hH2k : H2 key = some .gone := by
         by_cases e : frOf rvs = none
         ·rw [hH2n e _ (Ne.symm nkt)]; exact hH1k
         ·rw [hH2o _ (Ne.symm nkt) (Ne.symm (hsk e))]; exact hH1k
        -- what other keys are
        have oth : ∀ k, k ≠ stamp + 700000 → k ≠ key → (k ≠ stamp ∨ frOf rvs = none) → H2 k = H k ∧ ρ2 k = ρ k := fun k h1 h2 h3 => by
         rcases h3 with h3 | h3
         ·rw [hH2o k h1 h3, hH1o k h1 h2, q5 k h3, hρo k h1]; exact ⟨rfl, rfl⟩
         ·rw [hH2n h3 k h1, hH1o k h1 h2, q6 h3, hρo k h1]; exact ⟨rfl, rfl⟩
        obtain ⟨z1, z2, z3, z4, z5⟩ := q3.segs hH2t
        obtain ⟨y1, y2⟩ := flatSegs_D l' z1 ts m' hfl z2
        rw [hρ2t] at z3 z4 z5
        subst y2
        have hblk : ∀ i, i < ls.length → 0 < (ρ key).pc i → i ≠ r → w'.heap[(ρ key).pb i]? = w.heap[(ρ key).pb i]? := fun i hi hc hne => by
         refine q4.block _ (hPl.lt i hi hc) fun hb => ?_
         exact hne (hPl.sep i r hi hrl hc hb.1 hb.2)
        have hPn : PoolD w0 M w' (ρ key) (.r ts) (ls.set r m') := by
         refine PoolD.mk0 rfl (by rw [List.length_set]; exact hPl.cnt) (fun i mi hi => ?_) (fun i hi hc => ?_) (fun i hi hc => hPl.own i (by simpa using hi) hc) (fun i hi hc => ?_) (fun i j hi hj => hPl.sep i j (by simpa using hi) (by simpa using hj))
         ·by_cases e : i = r
          ·subst e
           rw [List.getElem?_set_self hrl] at hi
           simp only [Option.some.injEq] at hi
           subst hi
           exact ⟨y1, z3, z4, z5 rfl⟩
          ·rw [List.getElem?_set_ne (fun e' => e e'.symm)] at hi
           obtain ⟨a, b, c, dd⟩ := hPl.row rfl i mi hi
           have hil := (List.getElem?_eq_some_iff.1 hi).1
           rcases Nat.eq_zero_or_pos ((ρ key).pc i) with h0 | h0
           ·have : pkVals (.r ts) mi = [] := List.eq_nil_of_length_eq_zero (by omega)
            exact ⟨a, b, by rw [this]; exact rangeAt_nil' _ _ _, fun j hj => by omega⟩
           ·exact ⟨a, b, rangeAt_of_block' (hblk i hil h0 e) c, there_of_block' (hblk i hil h0 e) dd⟩
         ·exact Nat.lt_of_lt_of_le (hPl.lt i (by simpa using hi) hc) q4.size
         ·by_cases e : i = r
          ·subst e
           have := q3.clean _ _ hH2t (by rw [hρ2t]; exact hc)
           rwa [hρ2t] at this
          ·exact (hPl.clean i (by simpa using hi) hc).of_block (hblk i (by simpa using hi) hc e)
        have hg3 := q3.gone (stamp + 700000) (by rw [hH2t]; rfl)
        have hmem : Mem w0 M ρ2 (updH (updH H2 (stamp + 700000) .gone) key (.pool (.r ts) (ls.set r m'))) w' := by
         refine hg3.pool_put (by rw [updH_ne (Ne.symm nkt)]; exact hH2k) rfl (by rw [hρ2k]; exact hPn) (fun k ro l i c9 hk hc hi hci9 => ?_) (fun k kd ms' i j c9 hk hi hj hci hcj => ?_)
         ·have n1 : k ≠ stamp + 700000 := fun e => by subst e; rw [updH_same] at hk; cases hk
          rw [updH_ne n1] at hk
          have n2 : k ≠ key := fun e => by subst e; rw [hH2k] at hk; cases hk
          obtain ⟨hci, rfl⟩ := hci9.plain rfl
          clear hci9
          rw [hρ2k] at hci ⊢
          have hi' : i < ls.length := by simpa using hi
          by_cases e : i = r
          ·subst e
           have := q3.heap.sep k (stamp + 700000) ro false l l' hk hH2t n1 (.inr rfl) hc (by rw [hρ2t]; exact hci)
           rwa [hρ2t] at this
          ·by_cases e2 : k ≠ stamp ∨ frOf rvs = none
           ·obtain ⟨a, b⟩ := oth k n1 n2 e2
            rw [a] at hk
            rw [b] at hc ⊢
            exact hm.pools.apart key _ ls k ro l i hkey hk hc hi' hci
           ·have e3 : k = stamp := Classical.byContradiction fun h => e2 (.inl h)
            have e4 : frOf rvs ≠ none := fun h => e2 (.inr h)
            subst e3
            rcases q7 e4 hc with h7 | h7
            ·have := hPl.lt i hi' hci; omega
            ·intro e5
             exact e (hPl.sep i r hi' hrl hci h7.1 (e5.symm.trans h7.2))
         ·have n1 : k ≠ stamp + 700000 := fun e => by subst e; rw [updH_same] at hk; cases hk
          rw [updH_ne n1] at hk
          have n2 : k ≠ key := fun e => by subst e; rw [hH2k] at hk; cases hk
          have e2 : k ≠ stamp ∨ frOf rvs = none := by
           cases hfr : frOf rvs with
           | none => exact .inr rfl
           | some l => exact .inl fun e => by subst e; rw [hH2s l hfr] at hk; cases hk
          obtain ⟨a, b⟩ := oth k n1 n2 e2
          rw [a] at hk
          rw [b] at hcj
          rw [hρ2k] at hci
          obtain ⟨hc7, rfl⟩ := hci.plain rfl
          exact hm.pools.twoD key _ ls k kd ms' i j _ hkey hk (Ne.symm n2) (by simpa using hi) hj (.pb hc7) (hcj.of_block fun h0 => q4.block _ ((hm.pools.pool k kd ms' hk).lt j hj h0) fun hb => hm.pools.two key _ ls k kd ms' r j hkey hk (Ne.symm n2) hrl hj hb.1 h0 hb.2.symm)
        have hfun : updsH H d.ws = updH (updH H2 (stamp + 700000) .gone) key (.pool (.r ts) (ls.set r m')) := by
         rw [hws]
         funext k
         cases hfr : frOf rvs with
         | none =>
          rw [hmo2 hfr]
          show updH (updH H key _) (stamp + 700000) _ k = _
          by_cases n2 : k = key
          ·subst n2; rw [updH_ne (Ne.symm nkt), updH_same, updH_same]
          ·by_cases n1 : k = stamp + 700000
           ·subst n1; rw [updH_same, updH_ne n2, updH_same]
           ·rw [updH_ne n1, updH_ne n2, updH_ne n2, updH_ne n1, hH2n hfr k n1, hH1o k n1 n2]
         | some l =>
          rw [hmo1 l hfr]
          have hne : frOf rvs ≠ none := by rw [hfr]; simp
          show updH (updH (updH H key _) (stamp + 700000) _) stamp _ k = _
          by_cases n3 : k = stamp
          ·subst n3; rw [updH_same, updH_ne (hsk hne), updH_ne hstk, hH2s l hfr]
          ·rw [updH_ne n3]
           by_cases n2 : k = key
           ·subst n2; rw [updH_ne (Ne.symm nkt), updH_same, updH_same]
           ·by_cases n1 : k = stamp + 700000
            ·subst n1; rw [updH_same, updH_ne n2, updH_same]
            ·rw [updH_ne n1, updH_ne n2, updH_ne n2, updH_ne n1, hH2o k n1 n3, hH1o k n1 n2]
        refine ⟨ρ2, fun k hk => (hle1 k hk).trans (q1 k (hd1 k hk)), ?_, ?_⟩
        ·rw [hfun, hdv]
         exact D.mono (fun k hk => dm_updH _ _ _ k (dm_updH _ _ _ k hk)) (fun _ _ => .refl _) _ _ q2
        ·rw [hfun]; exact hmem
       ·simp [RP.run] at hrun
      ·simp [RP.run] at hrun
     ·simp [RP.run] at hrun
    ·simp [RP.run] at hrun
   ·simp [RP.run] at hc
  ·simp [RP.run] at hc
 ·simp [RP.run] at hc

end
end Go.Gx

/- The contract of a function that spoils rows of a pool through a row of headers: both are let go. -/
namespace Go.Gx
open Go.RowKit
set_option linter.unusedVariables false

section
variable {P : Program} {Γ : Tab} {w0 : World} {M : Nat → Prop} {ρ : Nat → Pl} {H : Nat → Option SB} {w : World}

theorem HdrsD.rekey {dm dm' : Nat → Prop} {ρ ρ' : Nat → Pl} {key key' : Nat} (hd : dm' key') (hρ : ρ' key' = ρ key) : ∀ (hs : Hdrs) (cs : List Value), HdrsD dm ρ key hs cs → HdrsD dm' ρ' key' hs cs
 | [], cs, h => h
 | x :: t, cs, h => by
  obtain ⟨v, c, h1, rfl, h3⟩ := h
  refine ⟨v, c, ?_, rfl, HdrsD.rekey hd hρ t c h3⟩
  simp only [D] at h1 ⊢
  rw [hρ]
  exact ⟨hd, h1.2⟩

end
end Go.Gx

/- The contract of a function that is handed a pointer to a box of a pool: it may change the box, and make another one. -/
namespace Go.Gx
open Go.RowKit
set_option linter.unusedVariables false

section
variable {P : Program} {Γ : Tab} {w0 : World} {M : Nat → Prop} {ρ : Nat → Pl} {H : Nat → Option SB} {w : World}

theorem Mem.box_facts (h : Mem w0 M ρ H w) {kf kr : Nat} {k : IntKind} {m : List Int} {x : SV} (hf : H kf = some (.segs false [.one x]))
  (hx : (x = .nsl ∧ m = [] ∧ kr = kf) ∨ (∃ len, x = .sl kr 0 1 ⟨true, 0⟩ len ∧ len.z = (m.length : Int) ∧ H kr = some (.segs false [.rowI k m]))) :
  ∃ u, (∀ v, PkD w (.b k v) m [u]) ∧ w.rangeAt (ρ kf).blk (ρ kf).off [u] ∧ w.there (ρ kf).blk (ρ kf).off (ρ kf).cap ∧ 0 < (ρ kf).cap ∧
   ∀ c, boxB w (ρ kf).blk (ρ kf).off c → kr ≠ kf ∧ H kr = some (.segs false [.rowI k m]) ∧ 0 < (ρ kr).cap ∧ c = (ρ kr).blk := by
 obtain ⟨vs, s1, s2, s3, s4⟩ := h.heap.blk kf _ hf
 have s4 := s4 rfl
 obtain ⟨c1, c2, ⟨_, u, hu, rfl⟩, rfl, h2⟩ := s1
 have h2 : c2 = [] := h2
 subst h2
 simp only [List.append_nil] at s2 s3
 have hcf : 0 < (ρ kf).cap := by simp at s2; omega
 have hcell : w.cell? ⟨(ρ kf).blk, (ρ kf).off, none⟩ = some u := by simpa using s3 0 u rfl
 refine ⟨u, fun v => ?_, s3, s4, hcf, fun c ⟨o', n, cap, e, h0⟩ => ?_⟩
 ·rcases hx with ⟨rfl, rfl, _⟩ | ⟨len, rfl, hlen, hrow⟩
  ·simp only [D] at hu
   subst hu
   exact ⟨fun z hz => (by cases hz), none, 0, rfl, Nat.le_refl _, .inr ⟨rfl, rfl⟩⟩
  ·simp only [D] at hu
   obtain ⟨_, _, _, _, a, cap, rfl, hlc, hcase⟩ := hu
   have hl : len.z.toNat = m.length := by omega
   obtain ⟨vs, t1, t2, t3, t4⟩ := h.heap.blk kr _ hrow
   obtain ⟨d1, d2, ⟨ta, rfl⟩, rfl, td⟩ := t1
   have td : d2 = [] := td
   subst td
   rw [List.append_nil] at t2 t3
   rw [hl] at hlc
   refine ⟨ta, a, cap, by rw [hl], hlc, ?_⟩
   rcases hcase with ⟨rfl, hcap⟩ | ⟨q1, q2⟩
   ·exact .inl ⟨(ρ kr).blk, (ρ kr).off, rfl, t3, fun j hj => t4 rfl j (by simp at hcap; omega)⟩
   ·exact .inr ⟨List.eq_nil_of_length_eq_zero (by omega), q2⟩
 ·rw [hcell] at e
  simp only [Option.some.injEq] at e
  subst e
  rcases hx with ⟨rfl, _, _⟩ | ⟨len, rfl, hlen, hrow⟩
  ·simp only [D] at hu; cases hu
  ·simp only [D] at hu
   obtain ⟨_, _, _, _, a, cap', e, hlc, hcase⟩ := hu
   simp only [Value.slice.injEq] at e
   obtain ⟨rfl, rfl, rfl⟩ := e
   refine ⟨fun e => by rw [e, hf] at hrow; simp at hrow, hrow, ?_⟩
   rcases hcase with ⟨e, hcap⟩ | ⟨q1, q2⟩
   ·simp only [Option.some.injEq, at_, Addr.mk.injEq, and_true] at e
    simp at hcap
    exact ⟨by omega, e.1⟩
   ·omega

theorem Mem.box_back {ρp : Pl} {wo : World} (h : Mem w0 M ρ H w) {key t1 t2 r : Nat} {k : IntKind} {v : Option (Nat × Nat)} {ls : List (List Int)} {m' : List Int} {x : SV} (hk : H key = some .gone) (hρk : ρ key = ρp)
  (hP : PoolD w0 M wo ρp (.b k v) ls) (hr : r < ls.length) (hf : H t1 = some (.segs false [.one x])) (e1 : (ρ t1).blk = ρp.pb r) (e2 : (ρ t1).off = ρp.po r) (e3 : (ρ t1).cap = ρp.pc r)
  (hx : (x = .nsl ∧ m' = [] ∧ t2 = t1) ∨ (∃ len, x = .sl t2 0 1 ⟨true, 0⟩ len ∧ len.z = (m'.length : Int) ∧ H t2 = some (.segs false [.rowI k m'])))
  (hs : wo.heap.size ≤ w.heap.size) (hblk : ∀ i c, i < ls.length → i ≠ r → OwnB wo ρp (.b k v) i c → w.heap[c]? = wo.heap[c]?)
  (hsep : ∀ k' ro l i c, H k' = some (.segs ro l) → 0 < (ρ k').cap → i < ls.length → i ≠ r → OwnB wo ρp (.b k v) i c → (ρ k').blk ≠ c)
  (hsep2 : ∀ k' kd ms' i j c, H k' = some (.pool kd ms') → i < ls.length → i ≠ r → j < ms'.length → OwnB wo ρp (.b k v) i c → OwnB w (ρ k') kd j c → False) :
  Mem w0 M ρ (updH (updH (updH H t2 .gone) t1 .gone) key (.pool (.b k none) (ls.set r m'))) w := by
 obtain ⟨u, hbox, f1, f2, f3, f4⟩ := h.box_facts hf hx
 rw [e1, e2] at f1 f4
 rw [e1, e2, e3] at f2
 rw [e3] at f3
 have nk1 : key ≠ t1 := fun e => by rw [e, hf] at hk; cases hk
 have hd2 : (H t2).isSome = true := by
  rcases hx with ⟨_, _, e⟩ | ⟨_, _, _, e⟩
  ·rw [e, hf]; rfl
  ·rw [e]; rfl
 have nk2 : key ≠ t2 := fun e => by
  rcases hx with ⟨_, _, e'⟩ | ⟨_, _, _, e'⟩
  ·exact nk1 (e.trans e')
  ·rw [e, e'] at hk; cases hk
 have hg := (h.gone t2 hd2).gone t1 (by
  by_cases e : t1 = t2
  ·rw [e, updH_same]; rfl
  ·rw [updH_ne e, hf]; rfl)
 -- the blocks that a box has now
 have hO : ∀ i c, i < ls.length → OwnB w ρp (.b k none) i c → (i ≠ r ∧ OwnB wo ρp (.b k v) i c) ∨ (i = r ∧ ((c = (ρ t1).blk ∧ 0 < (ρ t1).cap) ∨ (t2 ≠ t1 ∧ H t2 = some (.segs false [.rowI k m']) ∧ 0 < (ρ t2).cap ∧ c = (ρ t2).blk))) := fun i c hi ⟨h0, h1⟩ => by
  by_cases e : i = r
  ·subst e
   refine .inr ⟨rfl, ?_⟩
   rcases h1 with h1 | ⟨_, h1⟩
   ·exact .inl ⟨by rw [e1]; exact h1, by rw [e3]; exact h0⟩
   ·exact .inr (f4 c h1)
  ·refine .inl ⟨e, h0, ?_⟩
   rcases h1 with h1 | ⟨_, h1⟩
   ·exact .inl h1
   ·exact .inr ⟨rfl, h1.of_block (hblk i _ hi e (.pb h0))⟩
 have hS : ∀ c, ((c = (ρ t1).blk ∧ 0 < (ρ t1).cap) ∨ (t2 ≠ t1 ∧ H t2 = some (.segs false [.rowI k m']) ∧ 0 < (ρ t2).cap ∧ c = (ρ t2).blk)) → ∃ k0 l0, (k0 = t1 ∨ k0 = t2) ∧ H k0 = some (.segs false l0) ∧ 0 < (ρ k0).cap ∧ c = (ρ k0).blk := fun c hc => by
  rcases hc with ⟨h1, h2⟩ | ⟨_, h1, h2, h3⟩
  ·exact ⟨t1, _, .inl rfl, hf, h2, h1⟩
  ·exact ⟨t2, _, .inr rfl, h1, h2, h3⟩
 have hPn : PoolD w0 M w ρp (.b k none) (ls.set r m') := by
  refine ⟨by rw [List.length_set]; exact hP.cnt, fun i mi hi => ?_, fun i c hi ho => ?_, fun i c hi ho => ?_, fun i c hi ho => ?_, fun i j c hi hj ho ho' => ?_, fun i hi h0 _ hx' => ?_⟩
  ·by_cases e : r = i
   ·subst e
    rw [List.getElem?_set_self hr] at hi
    simp only [Option.some.injEq] at hi; subst hi
    exact ⟨[u], hbox none, f3, f1, f2⟩
   ·rw [List.getElem?_set_ne e] at hi
    obtain ⟨vs, b1, b2, b3, b4⟩ := hP.rowD i mi hi
    have hil := (List.getElem?_eq_some_iff.1 hi).1
    have e' : i ≠ r := fun h => e h.symm
    refine ⟨vs, b1.step b2 b3 fun c h0 hb' hx => hblk i c hil e' ⟨h0, .inr ⟨hb', hx⟩⟩, b2, ?_⟩
    rcases Nat.eq_zero_or_pos (ρp.pc i) with c | c
    ·have : vs = [] := List.eq_nil_of_length_eq_zero (by omega)
     exact ⟨by rw [this]; exact rangeAt_nil' _ _ _, fun j hj => by omega⟩
    ·exact ⟨rangeAt_of_block' (hblk i _ hil e' (.pb c)) b3, there_of_block' (hblk i _ hil e' (.pb c)) b4⟩
  ·rcases hO i c (by simpa using hi) ho with ⟨a, b⟩ | ⟨_, b⟩
   ·exact Nat.lt_of_lt_of_le (hP.ltD i c (by simpa using hi) b) hs
   ·obtain ⟨k0, l0, _, q1, q2, rfl⟩ := hS c b
    exact h.heap.lt k0 _ _ q1 q2
  ·rcases hO i c (by simpa using hi) ho with ⟨a, b⟩ | ⟨_, b⟩
   ·exact hP.ownD i c (by simpa using hi) b
   ·obtain ⟨k0, l0, _, q1, q2, rfl⟩ := hS c b
    exact h.own k0 _ q1 q2
  ·rcases hO i c (by simpa using hi) ho with ⟨a, b⟩ | ⟨_, b⟩
   ·exact (hP.cleanD i c (by simpa using hi) b).of_block (hblk i c (by simpa using hi) a b)
   ·obtain ⟨k0, l0, _, q1, q2, rfl⟩ := hS c b
    exact h.clean k0 _ q1 q2
  ·rcases hO i c (by simpa using hi) ho with ⟨a, b⟩ | ⟨a, b⟩
   ·rcases hO j c (by simpa using hj) ho' with ⟨a', b'⟩ | ⟨a', b'⟩
    ·exact hP.sepD i j c (by simpa using hi) (by simpa using hj) b b'
    ·obtain ⟨k0, l0, _, q1, q2, e⟩ := hS c b'
     exact absurd e.symm (hsep k0 _ _ i c q1 q2 (by simpa using hi) a b)
   ·rcases hO j c (by simpa using hj) ho' with ⟨a', b'⟩ | ⟨a', b'⟩
    ·obtain ⟨k0, l0, _, q1, q2, e⟩ := hS c b
     exact absurd e.symm (hsep k0 _ _ j c q1 q2 (by simpa using hj) a' b')
    ·omega
  ·have hi' : i < ls.length := by simpa using hi
   by_cases e : i = r
   ·subst e
    obtain ⟨q1, q2, q3, q4⟩ := f4 _ hx'
    rw [← e1] at q4
    exact h.heap.sep t1 t2 false false _ _ hf q2 (Ne.symm q1) (.inl rfl) (by rw [e3]; exact h0) q3 q4
   ·exact hP.inn i hi' h0 rfl (hx'.of_block (hblk i _ hi' e (.pb h0)))
 have hseg : ∀ k' ro l, updH (updH H t2 .gone) t1 .gone k' = some (.segs ro l) → k' ≠ t1 ∧ k' ≠ t2 ∧ H k' = some (.segs ro l) := fun k' ro l h1 => by
  by_cases n1 : k' = t1
  ·subst n1; rw [updH_same] at h1; cases h1
  ·rw [updH_ne n1] at h1
   by_cases n2 : k' = t2
   ·subst n2; rw [updH_same] at h1; cases h1
   ·rw [updH_ne n2] at h1; exact ⟨n1, n2, h1⟩
 have hpool : ∀ k' kd ms', updH (updH H t2 .gone) t1 .gone k' = some (.pool kd ms') → H k' = some (.pool kd ms') := fun k' kd ms' h1 => by
  by_cases n1 : k' = t1
  ·subst n1; rw [updH_same] at h1; cases h1
  ·rw [updH_ne n1] at h1
   by_cases n2 : k' = t2
   ·subst n2; rw [updH_same] at h1; cases h1
   ·rw [updH_ne n2] at h1; exact h1
 refine hg.pool_put (by rw [updH_ne nk1, updH_ne nk2]; exact hk) rfl (by rw [hρk]; exact hPn) (fun k' ro l i c h1 hc hi ho => ?_) (fun k' kd ms' i j c h1 hi hj ho ho' => ?_)
 ·obtain ⟨n1, n2, h1⟩ := hseg k' ro l h1
  rw [hρk] at ho
  rcases hO i c (by simpa using hi) ho with ⟨a, b⟩ | ⟨_, b⟩
  ·exact hsep k' ro l i c h1 hc (by simpa using hi) a b
  ·obtain ⟨k0, l0, q0, q1, q2, rfl⟩ := hS c b
   exact h.heap.sep k' k0 ro false l l0 h1 q1 (fun e => by rcases q0 with q0 | q0 <;> rw [q0] at e <;> contradiction) (.inr rfl) hc q2
 ·have h1 := hpool k' kd ms' h1
  rw [hρk] at ho
  rcases hO i c (by simpa using hi) ho with ⟨a, b⟩ | ⟨_, b⟩
  ·exact hsep2 k' kd ms' i j c h1 (by simpa using hi) a hj b ho'
  ·obtain ⟨k0, l0, q0, q1, q2, rfl⟩ := hS c b
   exact h.pools.apartD k' kd ms' k0 false l0 j _ h1 q1 q2 hj ho' rfl

end

def optPl (ρ : Nat → Pl) (a : Option Nat) : Pl :=
 match a with
 | some c => ρ c
 | none => noPl
def rowSB (o : Option (List Int)) : SB :=
 match o with
 | some l => .segs false [.rowI .u8 l]
 | none => .gone
def boxSB (s : Nat) (o : Option (List Int)) : SB :=
 match o with
 | some l => .segs false [.one (.sl s 0 1 ⟨true, 0⟩ ⟨false, (l.length : Int)⟩)]
 | none => .gone
def boxSV (t : Nat) (a : Option Nat) (n : Int) : SV :=
 match a with
 | some _ => .sl t 0 1 ⟨true, 0⟩ ⟨false, n⟩
 | none => .nsl
def boxRV (stamp : Nat) (o : Option (List Int)) : SV :=
 match o with
 | none => .tup []
 | some _ => .p stamp 0

def boxCtr (ms : List Md) (spec : List Int → List AV → Option (List Prop × List Int × Option (List Int))) : Ctr := fun stamp args =>
 match args with
 | .pq key r (.ofNat 0) :: rest => .get key fun b => (match b with
  | some (.pool (.b .u8 _) ls) => (match plainM ms with
   | true => getA [key] ms rest fun p avs => (match spec (ls.getD r []) avs with
    | some (p', m', o) => .get (stamp + 700000) fun c => (match c with
     | none => .get (stamp + 700001) fun c => (match c with
      | none => .get stamp fun c => (match c with
       | none => .get (stamp + 500000) fun c => (match c with
        | none => .ret ⟨(((ls.getD r []).length : Int) < 9223372036854775808) :: (p ++ p'), boxRV stamp o, [(stamp + 700000, .gone), (stamp + 700001, .gone), (key, .pool (.b .u8 none) (ls.set r m')), (stamp, boxSB (stamp + 500000) o), (stamp + 500000, rowSB o)], false⟩
        | some _ => .fail)
       | some _ => .fail)
      | some _ => .fail)
     | some _ => .fail)
    | none => .fail)
   | false => .fail)
  | _ => .fail)
 | _ => .fail

def boxH (m : List Int) : Heap := [(490, .world), (600, .segs false [.one (.sl 601 0 1 ⟨true, .ofNat 0⟩ ⟨false, (m.length : Int)⟩)]), (601, .segs false [.rowI .u8 m])]

def boxAt (h : Heap) (key : Nat) (K : Option Nat → List Int → Prop) : Prop :=
 match assoc h key with
 | some (.segs false [.one x]) => (match x with
  | .nsl => K none []
  | .sl kr 0 1 ⟨true, .ofNat 0⟩ n => (match assoc h kr with
   | some (.segs false [.rowI .u8 l]) => Need (n.z = (l.length : Int)) ∧ K (some kr) l
   | _ => False)
  | _ => False)
 | _ => False

def noKey (a : Option Nat) (k : Nat) : Bool :=
 match a with
 | none => true
 | some j => !Nat.beq j k

def kvBox (x : SV) (h : Heap) (K : List Int → Option (List Int) → Prop) : Prop :=
 match x with
 | .tup [] => boxAt h 600 fun _ m => K m none
 | .p k 0 => (match Nat.blt 601 k with
  | true => boxAt h 600 fun a m => boxAt h k fun b m2 => (match b with
   | some b => (match noKey a b with | true => K m (some m2) | false => False)
   | none => False)
  | false => False)
 | _ => False

end Go.Gx
