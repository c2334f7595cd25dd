/- Same, zero, bits, choices: both libraries. -/
import Derived.Test.YtnjcbedjhokfhaaDoorScK
namespace Go.Sp
def bitI (n i : Int) : Int := if 0 ≤ i ∧ i < 256 then n / ((2 ^ i.toNat : Nat) : Int) % 2 else 0
end Go.Sp
namespace Go.Gx
open Go.Proofs Go.Sp
set_option linter.unusedVariables false

def Γ7 : Tab := ⟨tys, (68, pureCtr rleastS) :: Γ6.ctr, [0], gh⟩
theorem Γ7_ok : TabOk Tryd.prog Γ7 := Γ6_ok.cons rleast_ok

theorem words_inj {x y : Int} (hx : 0 ≤ x ∧ x < ell) (hy : 0 ≤ y ∧ y < ell) : words4 x = words4 y ↔ x = y := by
  refine ⟨fun h => ?_, fun h => by rw [h]⟩
  have h := congrArg val4 h
  rw [val_words, val_words] at h
  rw [ell_lit] at hx hy
  omega

theorem mod_bd (x : Int) : 0 ≤ x % ell ∧ x % ell < ell := by rw [ell_lit]; omega

theorem beq_words {x y : Int} (hx : 0 ≤ x ∧ x < ell) (hy : 0 ≤ y ∧ y < ell) : (words4 x == words4 y) = decide (x = y) := by
  have := words_inj hx hy
  by_cases h : x = y
  · rw [h]; simp
  · rw [decide_eq_false h]; simp [this, h]

def vc17 (a0 a1 a2 a3 : Int) (K : SV → Prop) (Q : Nat → List Pv → Prop) : Prop := fnVc Γ7 Tryd.f17 [] [.arr .u64 4 true [a0, a1, a2, a3]] gh K Q
theorem vc17_eq : ∀ (a0 a1 a2 a3 : Int) (K : SV → Prop) (Q : Nat → List Pv → Prop), vc17 a0 a1 a2 a3 K Q = ∀ (x1 : Int), x1 = w0 (val4 [a0, a1, a2, a3] % (7237005577332262213973186563042994240857116359379907606001950938285454250989 : Int)) → InR IntKind.u64 x1 → ∀ (x2 : Int), x2 = w1 (val4 [a0, a1, a2, a3] % (7237005577332262213973186563042994240857116359379907606001950938285454250989 : Int)) → InR IntKind.u64 x2 → ∀ (x3 : Int), x3 = w2 (val4 [a0, a1, a2, a3] % (7237005577332262213973186563042994240857116359379907606001950938285454250989 : Int)) → InR IntKind.u64 x3 → ∀ (x4 : Int), x4 = w3 (val4 [a0, a1, a2, a3] % (7237005577332262213973186563042994240857116359379907606001950938285454250989 : Int)) → InR IntKind.u64 x4 → K (SV.arr IntKind.u64 (4 : Nat) true [x1, x2, x3, x4]) := by
  intros
  kernel_rfl

def ofS : List SV → Option (List Prop × SV)
  | [.arr .u64 4 _ l] => some ([], .arr .u64 4 true (words4 (val4 l % ell)))
  | _ => none

theorem of_ok : CallOk Tryd.prog gh 17 (pureCtr ofS) := by
  refine call_pure (fn := Tryd.f17) Γ7_ok rfl (by kernel_rfl) (by kernel_rfl) (by kernel_rfl) ofS fun args p y hs hp hf => ?_
  unfold ofS at hs
  split at hs
  · rename_i e1 l
    simp only [Option.some.injEq, Prod.mk.injEq] at hs
    obtain ⟨rfl, rfl⟩ := hs
    simp only [FactVs, FactV] at hf
    obtain ⟨⟨hl, h1⟩, _⟩ := hf
    obtain ⟨a0, a1, a2, a3, rfl⟩ := len4 hl
    have i0 := h1 a0 (by simp); have i1 := h1 a1 (by simp); have i2 := h1 a2 (by simp); have i3 := h1 a3 (by simp)
    refine ⟨[.arr .u64 4 true [a0, a1, a2, a3]], [], _, ⟨rfl, trivial⟩, Nat.le_of_ble_eq_true (by kernel_rfl), vc_noloops ?_⟩
    show vc17 a0 a1 a2 a3 _ _
    rw [vc17_eq]
    intro x1 e1 r1 x2 e2 r2 x3 e3 r3 x4 e4 r4
    show [x1, x2, x3, x4] = words4 (val4 [a0, a1, a2, a3] % ell)
    rw [e1, e2, e3, e4]; rfl
  · cases hs

def vc18 (a0 a1 a2 a3 b0 b1 b2 b3 : Int) (K : SV → Prop) (Q : Nat → List Pv → Prop) : Prop := fnVc Γ7 Tryd.f18 [] [.arr .u64 4 true [a0, a1, a2, a3], .arr .u64 4 true [b0, b1, b2, b3]] gh K Q
theorem vc18_eq : ∀ (a0 a1 a2 a3 b0 b1 b2 b3 : Int) (K : SV → Prop) (Q : Nat → List Pv → Prop), vc18 a0 a1 a2 a3 b0 b1 b2 b3 K Q = ∀ (x1 : Int), x1 = w0 (val4 [a0, a1, a2, a3] % (7237005577332262213973186563042994240857116359379907606001950938285454250989 : Int)) → InR IntKind.u64 x1 → ∀ (x2 : Int), x2 = w1 (val4 [a0, a1, a2, a3] % (7237005577332262213973186563042994240857116359379907606001950938285454250989 : Int)) → InR IntKind.u64 x2 → ∀ (x3 : Int), x3 = w2 (val4 [a0, a1, a2, a3] % (7237005577332262213973186563042994240857116359379907606001950938285454250989 : Int)) → InR IntKind.u64 x3 → ∀ (x4 : Int), x4 = w3 (val4 [a0, a1, a2, a3] % (7237005577332262213973186563042994240857116359379907606001950938285454250989 : Int)) → InR IntKind.u64 x4 → ∀ (x5 : Int), x5 = w0 (val4 [b0, b1, b2, b3] % (7237005577332262213973186563042994240857116359379907606001950938285454250989 : Int)) → InR IntKind.u64 x5 → ∀ (x6 : Int), x6 = w1 (val4 [b0, b1, b2, b3] % (7237005577332262213973186563042994240857116359379907606001950938285454250989 : Int)) → InR IntKind.u64 x6 → ∀ (x7 : Int), x7 = w2 (val4 [b0, b1, b2, b3] % (7237005577332262213973186563042994240857116359379907606001950938285454250989 : Int)) → InR IntKind.u64 x7 → ∀ (x8 : Int), x8 = w3 (val4 [b0, b1, b2, b3] % (7237005577332262213973186563042994240857116359379907606001950938285454250989 : Int)) → InR IntKind.u64 x8 → K (SV.b false ([x1, x2, x3, x4] == [x5, x6, x7, x8])) := by
  intros
  kernel_rfl

def sameS : List SV → Option (List Prop × SV)
  | [.arr .u64 4 _ l, .arr .u64 4 _ l'] => some ([], .b false (decide (val4 l % ell = val4 l' % ell)))
  | _ => none

theorem same_ok : CallOk Tryd.prog gh 18 (pureCtr sameS) := by
  refine call_pure (fn := Tryd.f18) Γ7_ok rfl (by kernel_rfl) (by kernel_rfl) (by kernel_rfl) sameS fun args p y hs hp hf => ?_
  unfold sameS at hs
  split at hs
  · rename_i e1 l e2 l'
    simp only [Option.some.injEq, Prod.mk.injEq] at hs
    obtain ⟨rfl, rfl⟩ := hs
    simp only [FactVs, FactV] at hf
    obtain ⟨⟨hl, h1⟩, ⟨hl', h2⟩, _⟩ := hf
    obtain ⟨a0, a1, a2, a3, rfl⟩ := len4 hl
    obtain ⟨b0, b1, b2, b3, rfl⟩ := len4 hl'
    have i0 := h1 a0 (by simp); have i1 := h1 a1 (by simp); have i2 := h1 a2 (by simp); have i3 := h1 a3 (by simp)
    have j0 := h2 b0 (by simp); have j1 := h2 b1 (by simp); have j2 := h2 b2 (by simp); have j3 := h2 b3 (by simp)
    refine ⟨[.arr .u64 4 true [a0, a1, a2, a3], .arr .u64 4 true [b0, b1, b2, b3]], [], _, ⟨rfl, rfl, trivial⟩, Nat.le_of_ble_eq_true (by kernel_rfl), vc_noloops ?_⟩
    show vc18 a0 a1 a2 a3 b0 b1 b2 b3 _ _
    rw [vc18_eq]
    intro x1 e1 r1 x2 e2 r2 x3 e3 r3 x4 e4 r4 x5 e5 r5 x6 e6 r6 x7 e7 r7 x8 e8 r8
    show ([x1, x2, x3, x4] == [x5, x6, x7, x8]) = decide (val4 [a0, a1, a2, a3] % ell = val4 [b0, b1, b2, b3] % ell)
    rw [← beq_words (mod_bd _) (mod_bd _), e1, e2, e3, e4, e5, e6, e7, e8]; rfl
  · cases hs

def vc19 (a0 a1 a2 a3 b0 b1 b2 b3 : Int) (K : SV → Prop) (Q : Nat → List Pv → Prop) : Prop := fnVc Γ7 Tryd.f19 [] [.arr .u64 4 true [a0, a1, a2, a3], .arr .u64 4 true [b0, b1, b2, b3]] gh K Q
theorem vc19_eq : ∀ (a0 a1 a2 a3 b0 b1 b2 b3 : Int) (K : SV → Prop) (Q : Nat → List Pv → Prop), vc19 a0 a1 a2 a3 b0 b1 b2 b3 K Q = K (SV.b false ([a0, a1, a2, a3] == [b0, b1, b2, b3])) := by
  intros
  kernel_rfl

def rsameS : List SV → Option (List Prop × SV)
  | [.arr .u64 4 _ l, .arr .u64 4 _ l'] => some ([], .b false (l == l'))
  | _ => none

theorem rsame_ok : CallOk Tryd.prog gh 19 (pureCtr rsameS) := by
  refine call_pure (fn := Tryd.f19) Γ7_ok rfl (by kernel_rfl) (by kernel_rfl) (by kernel_rfl) rsameS fun args p y hs hp hf => ?_
  unfold rsameS at hs
  split at hs
  · rename_i e1 l e2 l'
    simp only [Option.some.injEq, Prod.mk.injEq] at hs
    obtain ⟨rfl, rfl⟩ := hs
    simp only [FactVs, FactV] at hf
    obtain ⟨⟨hl, h1⟩, ⟨hl', h2⟩, _⟩ := hf
    obtain ⟨a0, a1, a2, a3, rfl⟩ := len4 hl
    obtain ⟨b0, b1, b2, b3, rfl⟩ := len4 hl'
    have i0 := h1 a0 (by simp); have i1 := h1 a1 (by simp); have i2 := h1 a2 (by simp); have i3 := h1 a3 (by simp)
    have j0 := h2 b0 (by simp); have j1 := h2 b1 (by simp); have j2 := h2 b2 (by simp); have j3 := h2 b3 (by simp)
    refine ⟨[.arr .u64 4 true [a0, a1, a2, a3], .arr .u64 4 true [b0, b1, b2, b3]], [], _, ⟨rfl, rfl, trivial⟩, Nat.le_of_ble_eq_true (by kernel_rfl), vc_noloops ?_⟩
    show vc19 a0 a1 a2 a3 b0 b1 b2 b3 _ _
    rw [vc19_eq]
    rfl
  · cases hs

def vc20 (a0 a1 a2 a3 : Int) (K : SV → Prop) (Q : Nat → List Pv → Prop) : Prop := fnVc Γ7 Tryd.f20 [] [.arr .u64 4 true [a0, a1, a2, a3]] gh K Q
theorem vc20_eq : ∀ (a0 a1 a2 a3 : Int) (K : SV → Prop) (Q : Nat → List Pv → Prop), vc20 a0 a1 a2 a3 K Q = ∀ (x1 : Int), x1 = w0 (val4 [a0, a1, a2, a3] % (7237005577332262213973186563042994240857116359379907606001950938285454250989 : Int)) → InR IntKind.u64 x1 → ∀ (x2 : Int), x2 = w1 (val4 [a0, a1, a2, a3] % (7237005577332262213973186563042994240857116359379907606001950938285454250989 : Int)) → InR IntKind.u64 x2 → ∀ (x3 : Int), x3 = w2 (val4 [a0, a1, a2, a3] % (7237005577332262213973186563042994240857116359379907606001950938285454250989 : Int)) → InR IntKind.u64 x3 → ∀ (x4 : Int), x4 = w3 (val4 [a0, a1, a2, a3] % (7237005577332262213973186563042994240857116359379907606001950938285454250989 : Int)) → InR IntKind.u64 x4 → K (SV.b false ([x1, x2, x3, x4] == [(0 : Int), (0 : Int), (0 : Int), (0 : Int)])) := by
  intros
  kernel_rfl

def isZeroS : List SV → Option (List Prop × SV)
  | [.arr .u64 4 _ l] => some ([], .b false (decide (val4 l % ell = 0)))
  | _ => none

theorem isZero_ok : CallOk Tryd.prog gh 20 (pureCtr isZeroS) := by
  refine call_pure (fn := Tryd.f20) Γ7_ok rfl (by kernel_rfl) (by kernel_rfl) (by kernel_rfl) isZeroS fun args p y hs hp hf => ?_
  unfold isZeroS at hs
  split at hs
  · rename_i e1 l
    simp only [Option.some.injEq, Prod.mk.injEq] at hs
    obtain ⟨rfl, rfl⟩ := hs
    simp only [FactVs, FactV] at hf
    obtain ⟨⟨hl, h1⟩, _⟩ := hf
    obtain ⟨a0, a1, a2, a3, rfl⟩ := len4 hl
    have i0 := h1 a0 (by simp); have i1 := h1 a1 (by simp); have i2 := h1 a2 (by simp); have i3 := h1 a3 (by simp)
    refine ⟨[.arr .u64 4 true [a0, a1, a2, a3]], [], _, ⟨rfl, trivial⟩, Nat.le_of_ble_eq_true (by kernel_rfl), vc_noloops ?_⟩
    show vc20 a0 a1 a2 a3 _ _
    rw [vc20_eq]
    intro x1 e1 r1 x2 e2 r2 x3 e3 r3 x4 e4 r4
    show ([x1, x2, x3, x4] == [0, 0, 0, 0]) = decide (val4 [a0, a1, a2, a3] % ell = 0)
    have := beq_words (mod_bd (val4 [a0, a1, a2, a3])) (y := 0) (by rw [ell_lit]; omega)
    rw [← this, e1, e2, e3, e4]; rfl
  · cases hs

def vc21 (a0 a1 a2 a3 : Int) (K : SV → Prop) (Q : Nat → List Pv → Prop) : Prop := fnVc Γ7 Tryd.f21 [] [.arr .u64 4 true [a0, a1, a2, a3]] gh K Q
theorem vc21_eq : ∀ (a0 a1 a2 a3 : Int) (K : SV → Prop) (Q : Nat → List Pv → Prop), vc21 a0 a1 a2 a3 K Q = K (SV.b false ([a0, a1, a2, a3] == [(0 : Int), (0 : Int), (0 : Int), (0 : Int)])) := by
  intros
  kernel_rfl

def risZeroS : List SV → Option (List Prop × SV)
  | [.arr .u64 4 _ l] => some ([], .b false (l == [0, 0, 0, 0]))
  | _ => none

theorem risZero_ok : CallOk Tryd.prog gh 21 (pureCtr risZeroS) := by
  refine call_pure (fn := Tryd.f21) Γ7_ok rfl (by kernel_rfl) (by kernel_rfl) (by kernel_rfl) risZeroS fun args p y hs hp hf => ?_
  unfold risZeroS at hs
  split at hs
  · rename_i e1 l
    simp only [Option.some.injEq, Prod.mk.injEq] at hs
    obtain ⟨rfl, rfl⟩ := hs
    simp only [FactVs, FactV] at hf
    obtain ⟨⟨hl, h1⟩, _⟩ := hf
    obtain ⟨a0, a1, a2, a3, rfl⟩ := len4 hl
    have i0 := h1 a0 (by simp); have i1 := h1 a1 (by simp); have i2 := h1 a2 (by simp); have i3 := h1 a3 (by simp)
    refine ⟨[.arr .u64 4 true [a0, a1, a2, a3]], [], _, ⟨rfl, trivial⟩, Nat.le_of_ble_eq_true (by kernel_rfl), vc_noloops ?_⟩
    show vc21 a0 a1 a2 a3 _ _
    rw [vc21_eq]
    rfl
  · cases hs

def vc24 (a0 a1 a2 a3 b0 b1 b2 b3 : Int) (K : SV → Prop) (Q : Nat → List Pv → Prop) : Prop := fnVc Γ7 Tryd.f24 [] [.arr .u64 4 true [a0, a1, a2, a3], .arr .u64 4 true [b0, b1, b2, b3]] gh K Q
theorem vc24_eq : ∀ (a0 a1 a2 a3 b0 b1 b2 b3 : Int) (K : SV → Prop) (Q : Nat → List Pv → Prop), vc24 a0 a1 a2 a3 b0 b1 b2 b3 K Q = (((a0 != b0) = true → K (SV.b true false)) ∧ ((a0 != b0) = false → ((a1 != b1) = true → K (SV.b true false)) ∧ ((a1 != b1) = false → ((a2 != b2) = true → K (SV.b true false)) ∧ ((a2 != b2) = false → ((a3 != b3) = true → K (SV.b true false)) ∧ ((a3 != b3) = false → K (SV.b true true)))))) := by
  intros
  kernel_rfl

def isTS : List SV → Option (List Prop × SV)
  | [.arr .u64 4 _ l, .arr .u64 4 _ l'] => some ([], .b false (l == l'))
  | _ => none

theorem isT_ok : CallOk Tryd.prog gh 24 (pureCtr isTS) := by
  refine call_pure (fn := Tryd.f24) Γ7_ok rfl (by kernel_rfl) (by kernel_rfl) (by kernel_rfl) isTS fun args p y hs hp hf => ?_
  unfold isTS at hs
  split at hs
  · rename_i e1 l e2 l'
    simp only [Option.some.injEq, Prod.mk.injEq] at hs
    obtain ⟨rfl, rfl⟩ := hs
    simp only [FactVs, FactV] at hf
    obtain ⟨⟨hl, h1⟩, ⟨hl', h2⟩, _⟩ := hf
    obtain ⟨a0, a1, a2, a3, rfl⟩ := len4 hl
    obtain ⟨b0, b1, b2, b3, rfl⟩ := len4 hl'
    have i0 := h1 a0 (by simp); have i1 := h1 a1 (by simp); have i2 := h1 a2 (by simp); have i3 := h1 a3 (by simp)
    have j0 := h2 b0 (by simp); have j1 := h2 b1 (by simp); have j2 := h2 b2 (by simp); have j3 := h2 b3 (by simp)
    refine ⟨[.arr .u64 4 true [a0, a1, a2, a3], .arr .u64 4 true [b0, b1, b2, b3]], [], _, ⟨rfl, rfl, trivial⟩, Nat.le_of_ble_eq_true (by kernel_rfl), vc_noloops ?_⟩
    show vc24 a0 a1 a2 a3 b0 b1 b2 b3 _ _
    rw [vc24_eq]
    have key : ∀ {b : Bool}, ([a0, a1, a2, a3] == [b0, b1, b2, b3]) = b → b = ([a0, a1, a2, a3] == [b0, b1, b2, b3]) := fun h => h.symm
    refine ⟨fun h => key ?_, fun h0 => ⟨fun h => key ?_, fun h1 => ⟨fun h => key ?_, fun h2 => ⟨fun h => key ?_, fun h3 => key ?_⟩⟩⟩⟩ <;> simp_all
  · cases hs

def vc26 (c a0 a1 a2 a3 b0 b1 b2 b3 : Int) (K : SV → Prop) (Q : Nat → List Pv → Prop) : Prop := fnVc Γ7 Tryd.f26 [] [.i .i64 ⟨false, c⟩, .arr .u64 4 true [a0, a1, a2, a3], .arr .u64 4 true [b0, b1, b2, b3]] gh K Q
theorem vc26_eq : ∀ (c a0 a1 a2 a3 b0 b1 b2 b3 : Int) (K : SV → Prop) (Q : Nat → List Pv → Prop), vc26 c a0 a1 a2 a3 b0 b1 b2 b3 K Q = ∀ (x1 : Int), x1 = c.tmod (2 : Int) → InR IntKind.i64 x1 → ((x1 != (0 : Int)) = true → K (SV.arr IntKind.u64 (4 : Nat) true [a0, a1, a2, a3])) ∧ ((x1 != (0 : Int)) = false → K (SV.arr IntKind.u64 (4 : Nat) true [b0, b1, b2, b3])) := by
  intros
  kernel_rfl

def _root_.Go.Sp.selI (c x y : Int) : Int := if c % 2 = 0 then y else x
open Go.Sp (selI)

def rselS : List SV → Option (List Prop × SV)
  | [.i .i64 c, .arr .u64 4 _ l, .arr .u64 4 _ l'] => some ([], .arr .u64 4 true [selI c.z (ge l 0) (ge l' 0), selI c.z (ge l 1) (ge l' 1), selI c.z (ge l 2) (ge l' 2), selI c.z (ge l 3) (ge l' 3)])
  | _ => none

theorem rsel_ok : CallOk Tryd.prog gh 26 (pureCtr rselS) := by
  refine call_pure (fn := Tryd.f26) Γ7_ok rfl (by kernel_rfl) (by kernel_rfl) (by kernel_rfl) rselS fun args p y hs hp hf => ?_
  unfold rselS at hs
  split at hs
  · rename_i c e1 l e2 l'
    simp only [Option.some.injEq, Prod.mk.injEq] at hs
    obtain ⟨rfl, rfl⟩ := hs
    simp only [FactVs, FactV] at hf
    obtain ⟨hc, ⟨hl, h1⟩, ⟨hl', h2⟩, _⟩ := hf
    obtain ⟨a0, a1, a2, a3, rfl⟩ := len4 hl
    obtain ⟨b0, b1, b2, b3, rfl⟩ := len4 hl'
    have i0 := h1 a0 (by simp); have i1 := h1 a1 (by simp); have i2 := h1 a2 (by simp); have i3 := h1 a3 (by simp)
    have j0 := h2 b0 (by simp); have j1 := h2 b1 (by simp); have j2 := h2 b2 (by simp); have j3 := h2 b3 (by simp)
    refine ⟨[.i .i64 ⟨false, c.z⟩, .arr .u64 4 true [a0, a1, a2, a3], .arr .u64 4 true [b0, b1, b2, b3]], [], _, ⟨rfl, rfl, rfl, trivial⟩, Nat.le_of_ble_eq_true (by kernel_rfl), vc_noloops ?_⟩
    show vc26 c.z a0 a1 a2 a3 b0 b1 b2 b3 _ _
    rw [vc26_eq]
    generalize c.z = c at *
    intro x1 e1 r1
    have k1 : x1 = 0 ↔ c % 2 = 0 := by
      rw [e1, ← Int.dvd_iff_tmod_eq_zero, Int.dvd_iff_emod_eq_zero]
    refine ⟨fun h => ?_, fun h => ?_⟩
    · have h : ¬ x1 = 0 := by simpa using h
      show [a0, a1, a2, a3] = [selI c a0 b0, selI c a1 b1, selI c a2 b2, selI c a3 b3]
      unfold selI
      simp only [if_neg (fun e => h (k1.2 e))]
    · have h : x1 = 0 := by simpa using h
      show [b0, b1, b2, b3] = [selI c a0 b0, selI c a1 b1, selI c a2 b2, selI c a3 b3]
      unfold selI
      simp only [if_pos (k1.1 h)]
  · cases hs

def vc25 (c a0 a1 a2 a3 b0 b1 b2 b3 : Int) (K : SV → Prop) (Q : Nat → List Pv → Prop) : Prop := fnVc Γ7 Tryd.f25 [] [.i .i64 ⟨false, c⟩, .arr .u64 4 true [a0, a1, a2, a3], .arr .u64 4 true [b0, b1, b2, b3]] gh K Q
theorem vc25_eq : ∀ (c a0 a1 a2 a3 b0 b1 b2 b3 : Int) (K : SV → Prop) (Q : Nat → List Pv → Prop), vc25 c a0 a1 a2 a3 b0 b1 b2 b3 K Q = ∀ (x1 : Int), x1 = IntKind.u64.wrap c → InR IntKind.u64 x1 → ∀ (x2 : Int), x2 = andI IntKind.u64 x1 (1 : Int) → InR IntKind.u64 x2 → ∀ (x3 : Int), x3 = IntKind.u64.wrap ((0 : Int) - x2) → InR IntKind.u64 x3 → Need (x3 = (0 : Int) ∨ x3 = (18446744073709551615 : Int)) ∧ ∀ (x4 : Int), x4 = chI x3 a0 b0 → InR IntKind.u64 x4 → ∀ (x5 : Int), x5 = chI x3 a1 b1 → InR IntKind.u64 x5 → ∀ (x6 : Int), x6 = chI x3 a2 b2 → InR IntKind.u64 x6 → ∀ (x7 : Int), x7 = chI x3 a3 b3 → InR IntKind.u64 x7 → ∀ (x8 : Int), x8 = w0 (val4 [x4, x5, x6, x7] % (7237005577332262213973186563042994240857116359379907606001950938285454250989 : Int)) → InR IntKind.u64 x8 → ∀ (x9 : Int), x9 = w1 (val4 [x4, x5, x6, x7] % (7237005577332262213973186563042994240857116359379907606001950938285454250989 : Int)) → InR IntKind.u64 x9 → ∀ (x10 : Int), x10 = w2 (val4 [x4, x5, x6, x7] % (7237005577332262213973186563042994240857116359379907606001950938285454250989 : Int)) → InR IntKind.u64 x10 → ∀ (x11 : Int), x11 = w3 (val4 [x4, x5, x6, x7] % (7237005577332262213973186563042994240857116359379907606001950938285454250989 : Int)) → InR IntKind.u64 x11 → K (SV.arr IntKind.u64 (4 : Nat) true [x8, x9, x10, x11]) := by
  intros
  kernel_rfl

def selS : List SV → Option (List Prop × SV)
  | [.i .i64 c, .arr .u64 4 _ l, .arr .u64 4 _ l'] => some ([], .arr .u64 4 true (words4 ((if c.z % 2 = 0 then val4 l' else val4 l) % ell)))
  | _ => none

theorem sel_ok : CallOk Tryd.prog gh 25 (pureCtr selS) := by
  refine call_pure (fn := Tryd.f25) Γ7_ok rfl (by kernel_rfl) (by kernel_rfl) (by kernel_rfl) selS fun args p y hs hp hf => ?_
  unfold selS at hs
  split at hs
  · rename_i c e1 l e2 l'
    simp only [Option.some.injEq, Prod.mk.injEq] at hs
    obtain ⟨rfl, rfl⟩ := hs
    simp only [FactVs, FactV] at hf
    obtain ⟨hc, ⟨hl, h1⟩, ⟨hl', h2⟩, _⟩ := hf
    obtain ⟨a0, a1, a2, a3, rfl⟩ := len4 hl
    obtain ⟨b0, b1, b2, b3, rfl⟩ := len4 hl'
    have i0 := h1 a0 (by simp); have i1 := h1 a1 (by simp); have i2 := h1 a2 (by simp); have i3 := h1 a3 (by simp)
    have j0 := h2 b0 (by simp); have j1 := h2 b1 (by simp); have j2 := h2 b2 (by simp); have j3 := h2 b3 (by simp)
    refine ⟨[.i .i64 ⟨false, c.z⟩, .arr .u64 4 true [a0, a1, a2, a3], .arr .u64 4 true [b0, b1, b2, b3]], [], _, ⟨rfl, rfl, rfl, trivial⟩, Nat.le_of_ble_eq_true (by kernel_rfl), vc_noloops ?_⟩
    show vc25 c.z a0 a1 a2 a3 b0 b1 b2 b3 _ _
    rw [vc25_eq]
    generalize c.z = c at *
    intro x1 e1 r1 x2 e2 r2 x3 e3 r3
    have q2 : x2 = x1 % 2 := by rw [e2]; exact and_mask 1 (by omega) r1
    rw [wrap_u64] at e1
    have hm := mask_ok (x := x2) (by omega) e3
    refine ⟨by unfold Need; omega, fun x4 e4 r4 x5 e5 r5 x6 e6 r6 x7 e7 r7 x8 e8 r8 x9 e9 r9 x10 e10 r10 x11 e11 r11 => ?_⟩
    show [x8, x9, x10, x11] = words4 ((if c % 2 = 0 then val4 [b0, b1, b2, b3] else val4 [a0, a1, a2, a3]) % ell)
    rw [e8, e9, e10, e11]
    rcases hm with ⟨h0, hm⟩ | ⟨h0, hm⟩
    · simp only [chI, hm, if_true] at e4 e5 e6 e7
      rw [if_pos (by omega), e4, e5, e6, e7]; rfl
    · have hne : ¬ (x3 = 0) := by omega
      simp only [chI, hne, if_false] at e4 e5 e6 e7
      rw [if_neg (by omega), e4, e5, e6, e7]; rfl
  · cases hs

end Go.Gx
