/- The number that many words are, its remainder: the reference. -/
import Derived.Test.YtnjcbedjhokfhaaDoorScI
import Derived.Test.YtnjcbedjhokfhaaDoorViews
namespace Go.Sp
/-- The number that 16-bit words are. -/
def valW : List Int → Int
  | [] => 0
  | x :: r => x + 65536 * valW r
end Go.Sp
namespace Go.Gx
open Go.Proofs Go.Sp
set_option linter.unusedVariables false

def Γ5 : Tab := ⟨tys, (80, pureCtr stepS) :: Γ4.ctr, [0], gh⟩
theorem Γ5_ok : TabOk Tryd.prog Γ5 := Γ4_ok.cons step_ok

/-- The loop over the words, at its head. -/
def L87 : Loops := [(3, ⟨[.sl 500 0 1 ⟨true, 0⟩ ⟨false, 0⟩, .any, .p 1000 0, .p 1001 0, .i .i64 ⟨false, 0⟩] ++ reps .any 14,
  gh ++ [(500, .segs true [.rowI .u64 []]), (1000, .segs false [.arr .u64 4 false []]), (1001, .segs false [.arr .u64 4 false []])], 1010⟩)]
def vc87 (l : List Int) (K : SV → Prop) (Q : Nat → List Pv → Prop) : Prop := fnVc Γ5 Tryd.f87 L87 [.sl 500 0 1 ⟨true, 0⟩ ⟨false, (l.length : Int)⟩] (gh ++ [(500, .segs true [.rowI .u64 l])]) K Q
theorem vc87_eq : ∀ (l : List Int) (K : SV → Prop) (Q : Nat → List Pv → Prop), vc87 l K Q = ∀ (x1 : Int), x1 = IntKind.i64.wrap (↑l.length - (1 : Int)) → InR IntKind.i64 x1 → Same Tryd.f87 (3 : Nat) (itemsOf Tryd.f87 (3 : Nat)) ∧ Q (3 : Nat) [Pv.z ↑l.length, Pv.z x1, Pv.l l, Pv.l [(0 : Int), (0 : Int), (0 : Int), (0 : Int)], Pv.l [(0 : Int), (0 : Int), (0 : Int), (0 : Int)]] := by
  intros
  kernel_rfl


def lc87 (n i : Int) (l r o : List Int) (K : SV → Prop) (Q : Nat → List Pv → Prop) : Prop := loopVc Γ5 Tryd.f87 L87 3 [.z n, .z i, .l l, .l r, .l o] K Q
theorem lc87_eq : ∀ (n i : Int) (l r o : List Int) (K : SV → Prop) (Q : Nat → List Pv → Prop), lc87 n i l r o K Q = ((decide (i ≥ (0 : Int)) = true → Need ((0 : Int) ≤ i ∧ i < n) ∧ Need ((0 : Int) ≤ i ∧ i < ↑l.length) ∧ ∀ (x1 : Int), x1 = l.getD i.toNat (0 : Int) → InR IntKind.u64 x1 → Need (val4 o < (7237005577332262213973186563042994240857116359379907606001950938285454250989 : Int)) ∧ Need (x1 < (65536 : Int)) ∧ ∀ (x2 : Int), x2 = w0 ((val4 o * (65536 : Int) + x1) % (7237005577332262213973186563042994240857116359379907606001950938285454250989 : Int)) → InR IntKind.u64 x2 → ∀ (x3 : Int), x3 = w1 ((val4 o * (65536 : Int) + x1) % (7237005577332262213973186563042994240857116359379907606001950938285454250989 : Int)) → InR IntKind.u64 x3 → ∀ (x4 : Int), x4 = w2 ((val4 o * (65536 : Int) + x1) % (7237005577332262213973186563042994240857116359379907606001950938285454250989 : Int)) → InR IntKind.u64 x4 → ∀ (x5 : Int), x5 = w3 ((val4 o * (65536 : Int) + x1) % (7237005577332262213973186563042994240857116359379907606001950938285454250989 : Int)) → InR IntKind.u64 x5 → ∀ (x6 : Int), x6 = IntKind.i64.wrap (i - (1 : Int)) → InR IntKind.i64 x6 → Same Tryd.f87 (3 : Nat) (itemsOf Tryd.f87 (3 : Nat)) ∧ Q (3 : Nat) [Pv.z n, Pv.z x6, Pv.l l, Pv.l r, Pv.l [x2, x3, x4, x5]]) ∧ (decide (i ≥ (0 : Int)) = false → K (SV.arr IntKind.u64 (4 : Nat) false o))) := by
  intros
  kernel_rfl


def wordsS : List RA → Option (List Prop × SV)
  | [.c (.ints .u64 l)] => some ([∀ z ∈ l, z < 65536], .arr .u64 4 true (words4 (valW l % ell)))
  | _ => none

def inv87 (l : List Int) (key : Nat) (ps : List Pv) (m : Nat) : Prop :=
  key = 3 ∧ ∃ i o, ps = [.z (l.length : Int), .z i, .l l, .l [0, 0, 0, 0], .l o] ∧ (m : Int) = i + 1 ∧ i < (l.length : Int) ∧ o = words4 (valW (l.drop m) % ell)

theorem val_words (n : Int) : val4 (words4 n) = n % 115792089237316195423570985008687907853269984665640564039457584007913129639936 := val_of rfl rfl rfl rfl

theorem val_mod (n : Int) : val4 (words4 (n % ell)) = n % ell ∧ 0 ≤ n % ell ∧ n % ell < ell := by
  rw [val_words, ell_lit]
  omega

theorem words_ok : CallOk Tryd.prog gh 87 (readCtr [true] wordsS) := by
  refine call_read (fn := Tryd.f87) Γ5_ok rfl (fun g hg => by simp [Γ5, gh, keysOf] at hg; omega) (by kernel_rfl) (by kernel_rfl) (by kernel_rfl) [true] wordsS fun ras p y hs hp hv hq => ?_
  unfold wordsS at hs
  split at hs
  · rename_i l
    simp only [Option.some.injEq, Prod.mk.injEq] at hs
    obtain ⟨rfl, rfl⟩ := hs
    obtain ⟨hok, hlen⟩ := hq (.ints .u64 l) (by simp)
    have hok : AllR .u64 l := hok
    have hlen : (l.length : Int) < 9223372036854775808 := hlen
    have hsm := hp.1
    refine ⟨[.sl 500 0 1 ⟨true, 0⟩ ⟨false, (l.length : Int)⟩], L87, inv87 l, ⟨rfl, trivial⟩, Nat.le_of_ble_eq_true (by kernel_rfl), ?_, ?_, ?_⟩
    · intro k t ht g hg
      simp only [L87, List.mem_singleton, Prod.mk.injEq] at ht
      obtain ⟨rfl, rfl⟩ := ht
      have hg : g ∈ [0, 500] := hg
      simp only [List.mem_cons, List.not_mem_nil, or_false] at hg
      rcases hg with rfl | rfl
      · exact ⟨by omega, rfl⟩
      · exact ⟨by omega, rfl⟩
    · rintro key ps m ⟨rfl, i, o, rfl, hm, hi, ho⟩
      show lc87 (l.length : Int) i l [0, 0, 0, 0] o _ _
      rw [lc87_eq]
      obtain ⟨v1, v2, v3⟩ := val_mod (valW (l.drop m))
      rw [← ho] at v1
      refine ⟨fun h => ?_, fun h => ?_⟩
      · have h := of_decide_eq_true h
        obtain ⟨j, rfl⟩ := Int.eq_ofNat_of_zero_le h
        have hmj : m = j + 1 := by omega
        have hj : j < l.length := by omega
        subst hmj
        refine ⟨⟨by omega, hi⟩, ⟨by omega, hi⟩, fun x1 e1 r1 => ⟨by unfold Need; rw [v1, ← ell_lit]; exact v3, ?_, fun x2 e2 r2 x3 e3 r3 x4 e4 r4 x5 e5 r5 x6 e6 r6 => ⟨rfl, j, by omega, rfl, x6, _, rfl, ?_, ?_, ?_⟩⟩⟩
        · have : x1 = l[j] := by rw [e1]; simp [hj]
          unfold Need
          rw [this]; exact hsm _ (List.getElem_mem hj)
        · rw [wrap_i64 (by omega)] at e6; omega
        · rw [wrap_i64 (by omega)] at e6; omega
        · have e : x1 = l[j] := by rw [e1]; simp [hj]
          have hd : valW (l.drop j) = l[j] + 65536 * valW (l.drop (j + 1)) := by
            rw [List.drop_eq_getElem_cons hj]; rfl
          have hmod : (val4 o * 65536 + x1) % 7237005577332262213973186563042994240857116359379907606001950938285454250989 = valW (l.drop j) % ell := by
            rw [v1, hd, e, ell_lit]; omega
          rw [e2, e3, e4, e5, hmod]; rfl
      · have h := of_decide_eq_false h
        have hm0 : m = 0 := by omega
        subst hm0
        show o = words4 (valW l % ell)
        rw [ho]; rfl
    · show vc87 l _ _
      rw [vc87_eq]
      intro x1 e1 r1
      rw [wrap_i64 (by omega)] at e1
      refine ⟨rfl, l.length, rfl, x1, [0, 0, 0, 0], rfl, by omega, by omega, ?_⟩
      rw [List.drop_eq_nil_of_le (Nat.le_refl _)]; rfl
  · cases hs

end Go.Gx
