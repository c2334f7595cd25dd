/- HashKeys: the keyed hash of parts is that of the parts joined; a long key stands for its hash, a short one for itself with a zero behind it. For all keys and lists whose bytes are not more than the cards' bound; the tables lie as the program's text lays them. -/
import Derived.Test.YtihihilhfijloaaDoorM4
import Derived.Test.YtihihilhfijloaaDoorM3
import Derived.Test.YtihihilhfijloaaDoorCards
import Derived.Test.YtihihilhfijloaaDoorTie
import Derived.WalkKit
import Derived.ProofKit
import Derived.OpenShut
import Derived.Carry
import Derived.Deep.DeepHandedRow
import Derived.Lib.LaidTab
import Derived.ChangeSlices
import Derived.SizedLaws
import Derived.Stop.LaidErr
import Derived.Test.YtihihilhfijloaaDoorRows

/- Write and Clone, as general contracts. -/
namespace Go.Gx
open Go.Proofs Go.Sp
set_option linter.unusedVariables false
set_option maxRecDepth 100000

theorem glow : ∀ g ∈ keysOf gh, g < 490 := fun g hg => by have hg : g ∈ [0, 2] := hg; simp at hg; omega
def R23 (ws bl : List Int) (n : Int) (m : Bool) : List Seg := [.arr .u64 8 false ws, .arr .u8 128 false bl, .one (.i .i64 ⟨false, n⟩), .one (.b false m)]
def H6 (l : List Seg) : Heap := gh ++ (490, .world) :: [(600, .segs false l)]
def L23g : Loops := [(1, ⟨[.p 600 0, .ro 490 (.ints .u8) (.l [])] ++ reps .any 48, H6 (R23 [] [] 0 false), 2000⟩)]
def vc23g (ws bl : List Int) (n : Int) (m : Bool) (d : RO) (K : List RV → List (Option (List Seg)) → Prop) (Q : Nat → List Pv → Prop) : Prop := fnVcG 1 Γ5 Tryd.f23 L23g [.p 600 0, .ro 490 (.ints .u8) d] (H6 (R23 ws bl n m)) K Q
def lc23g (d : RO) (k ws bl : List Int) (n : Int) (m : Bool) (K : List RV → List (Option (List Seg)) → Prop) (Q : Nat → List Pv → Prop) : Prop := loopVcG 1 Γ5 Tryd.f23 L23g 1 [.ro d, .l k, .l ws, .l bl, .z n, .b m] K Q
def vc23n (d : RO) (K : List RV → List (Option (List Seg)) → Prop) (Q : Nat → List Pv → Prop) : Prop := fnVcG 0 Γ5 Tryd.f23 [] [.np, .ro 490 (.ints .u8) d] (gh ++ (490, .world) :: []) K Q
def vc26g (ws bl : List Int) (n : Int) (m : Bool) (K : List RV → List (Option (List Seg)) → Prop) (Q : Nat → List Pv → Prop) : Prop := fnVcG 1 Γ5 Tryd.f26 [] [.p 600 0] (H6 (R23 ws bl n m)) K Q
theorem vc23g_eq : ∀ (ws bl : List Int) (n : Int) (m : Bool) (d : RO) (K : List RV → List (Option (List Seg)) → Prop) (Q : Nat → List Pv → Prop), vc23g ws bl n m d K Q = ∀ (x1 : List Int), x1 = ws → x1.length = (8 : Nat) → AllR IntKind.u64 x1 → ∀ (x2 : List Int), x2 = bl → x2.length = (128 : Nat) → AllR IntKind.u8 x2 → ∀ (x3 : Int), x3 = n → InR IntKind.i64 x3 → ∀ (x4 : Bool), x4 = !m → (x4 = true → K [] [some [Seg.arr IntKind.u64 (8 : Nat) false x1, Seg.arr IntKind.u8 (128 : Nat) false x2, Seg.one (SV.i IntKind.i64 { st := false, z := x3 }), Seg.one (SV.b false m)]]) ∧ (x4 = false → ∀ (x5 : Int), x5 = IntKind.i64.wrap ((1152921504606846976 : Int) - x3) → InR IntKind.i64 x5 → (decide (((roL d).length : Int) > x5) = true → K [] [some [Seg.arr IntKind.u64 (8 : Nat) false x1, Seg.arr IntKind.u8 (128 : Nat) false x2, Seg.one (SV.i IntKind.i64 { st := false, z := x3 }), Seg.one (SV.b false m)]]) ∧ (decide (((roL d).length : Int) > x5) = false → Same Tryd.f23 (1 : Nat) (itemsOf Tryd.f23 (1 : Nat)) ∧ Q (1 : Nat) [Pv.ro d, Pv.l K80, Pv.l x1, Pv.l x2, Pv.z x3, Pv.b m])) := by
  intros
  kernel_rfl
theorem lc23g_eq : ∀ (d : RO) (k ws bl : List Int) (n : Int) (m : Bool) (K : List RV → List (Option (List Seg)) → Prop) (Q : Nat → List Pv → Prop), lc23g d k ws bl n m K Q = ((decide (((roL d).length : Int) > (0 : Int)) = true → ∀ (x1 : Int), x1 = n.tmod (128 : Int) → InR IntKind.i64 x1 → Need ((0 : Int) ≤ x1 ∧ x1 ≤ (128 : Int) ∧ (128 : Int) ≤ (128 : Int)) ∧ Need (x1 + ((128 : Int) - x1) ≤ (128 : Int)) ∧ ∀ (x2 : List Int), x2 = ws → x2.length = (8 : Nat) → AllR IntKind.u64 x2 → ∀ (x3 : List Int), x3 = splice bl x1.toNat (List.take ((128 : Int) - x1).toNat (roL d)) → x3.length = (128 : Nat) → AllR IntKind.u8 x3 → ∀ (x4 : Int), x4 = n → InR IntKind.i64 x4 → ∀ (x5 : Int), x5 = min (((roL d).length : Int)) ((128 : Int) - x1) → InR IntKind.i64 x5 → Need ((0 : Int) ≤ x5 ∧ x5 ≤ ((roL d).length : Int) ∧ ((roL d).length : Int) ≤ ((roL d).length : Int)) ∧ ∀ (x6 : Int), x6 = IntKind.i64.wrap (x4 + x5) → InR IntKind.i64 x6 → ∀ (x7 : Int), x7 = IntKind.i64.wrap (x1 + x5) → InR IntKind.i64 x7 → ((x7 == (128 : Int)) = true → ∀ (x8 : List Int), x8 = compr x2 x3 → x8.length = (8 : Nat) → AllR IntKind.u64 x8 → ∀ (x9 : List Int), x9 = x3 → x9.length = (128 : Nat) → AllR IntKind.u8 x9 → ∀ (x10 : Int), x10 = x6 → InR IntKind.i64 x10 → Same Tryd.f23 (1 : Nat) (itemsOf Tryd.f23 (1 : Nat)) ∧ Q (1 : Nat) [Pv.ro (RO.l (List.take (((roL d).length : Int) - x5).toNat (List.drop x5.toNat (roL d)))), Pv.l k, Pv.l x8, Pv.l x9, Pv.z x10, Pv.b m]) ∧ ((x7 == (128 : Int)) = false → Same Tryd.f23 (1 : Nat) (itemsOf Tryd.f23 (1 : Nat)) ∧ Q (1 : Nat) [Pv.ro (RO.l (List.take (((roL d).length : Int) - x5).toNat (List.drop x5.toNat (roL d)))), Pv.l k, Pv.l x2, Pv.l x3, Pv.z x6, Pv.b m])) ∧ (decide (((roL d).length : Int) > (0 : Int)) = false → K [] [some [Seg.arr IntKind.u64 (8 : Nat) false ws, Seg.arr IntKind.u8 (128 : Nat) false bl, Seg.one (SV.i IntKind.i64 { st := false, z := n }), Seg.one (SV.b false m)]])) := by
  intros
  kernel_rfl
theorem vc23n_eq : ∀ (d : RO) (K : List RV → List (Option (List Seg)) → Prop) (Q : Nat → List Pv → Prop), vc23n d K Q = K [] [] := by
  intros
  kernel_rfl
theorem vc26g_eq : ∀ (ws bl : List Int) (n : Int) (m : Bool) (K : List RV → List (Option (List Seg)) → Prop) (Q : Nat → List Pv → Prop), vc26g ws bl n m K Q = ∀ (x1 : List Int), x1 = ws → x1.length = (8 : Nat) → AllR IntKind.u64 x1 → ∀ (x2 : List Int), x2 = bl → x2.length = (128 : Nat) → AllR IntKind.u8 x2 → ∀ (x3 : Int), x3 = n → InR IntKind.i64 x3 → ∀ (x4 : Bool), x4 = !m → (x4 = true → K [RV.v SV.np] [some [Seg.arr IntKind.u64 (8 : Nat) false x1, Seg.arr IntKind.u8 (128 : Nat) false x2, Seg.one (SV.i IntKind.i64 { st := false, z := x3 }), Seg.one (SV.b false m)]]) ∧ (x4 = false → K [RV.ptr [Seg.arr IntKind.u64 (8 : Nat) false x1, Seg.arr IntKind.u8 (128 : Nat) false x2, Seg.one (SV.i IntKind.i64 { st := false, z := x3 }), Seg.one (SV.b false m)]] [some [Seg.arr IntKind.u64 (8 : Nat) false x1, Seg.arr IntKind.u8 (128 : Nat) false x2, Seg.one (SV.i IntKind.i64 { st := false, z := x3 }), Seg.one (SV.b false m)]]) := by
  intros
  kernel_rfl

/-- What a state holds behind more bytes. -/
def wrR (ws bl : List Int) (n : Int) (m : Bool) (b : List Int) : List Seg := R23 (wr m ⟨ws, bl, n⟩ b).ws (wr m ⟨ws, bl, n⟩ b).bl (wr m ⟨ws, bl, n⟩ b).n m
def writeG : List AV → Option (List Prop × List RV × List (Option (List Seg)))
  | [.m [.arr .u64 8 _ ws, .arr .u8 128 _ bl, .one (.i .i64 n), .one (.b _ m)], .d (.ints .u8) d] => some ([m = true → 0 ≤ n.z ∧ n.z ≤ 1152921504606846976], [], [some (wrR ws bl n.z m (roL d))])
  | [.v .np, .d (.ints .u8) d] => some ([], [], [])
  | _ => none
theorem eqR (ws bl : List Int) (n : Int) (m : Bool) : eqSegs (R23 ws bl n m) (R23 ws bl n m) := ⟨⟨rfl, rfl, rfl⟩, ⟨rfl, rfl, rfl⟩, ⟨rfl, rfl⟩, ⟨rfl, rfl⟩, trivial⟩
theorem eqR' {e1 e2 e3 e4 : Bool} (ws bl : List Int) (n : Int) (m : Bool) : eqSegs [.arr .u64 8 e1 ws, .arr .u8 128 e2 bl, .one (.i .i64 ⟨e3, n⟩), .one (.b e4 m)] (R23 ws bl n m) := ⟨⟨rfl, rfl, rfl⟩, ⟨rfl, rfl, rfl⟩, ⟨rfl, rfl⟩, ⟨rfl, rfl⟩, trivial⟩
def inv23g (b : List Int) (s : HS) (m : Bool) (key : Nat) (ps : List Pv) (mm : Nat) : Prop :=
  key = 1 ∧ ∃ (j : Nat) (d : RO), j ≤ b.length ∧ roL d = b.drop j ∧ ps = [.ro d, .l K80, .l (feed (b.take j) s).ws, .l (feed (b.take j) s).bl, .z (feed (b.take j) s).n, .b m] ∧ mm = b.length - j

set_option maxHeartbeats 2000000 in
theorem writeG_ok : CallOk Tryd.prog gh 23 (genCtr [.m, .d (.ints .u8)] writeG) := by
  refine call_gen (fn := Tryd.f23) Γ5_ok rfl glow rfl (by kernel_rfl) (by kernel_rfl) _ writeG fun av p rvs fin hs hp hf => ?_
  unfold writeG at hs
  split at hs
  · rename_i e1 ws e2 bl n e3 m d
    simp only [Option.some.injEq, Prod.mk.injEq] at hs
    obtain ⟨rfl, rfl, rfl⟩ := hs
    obtain ⟨⟨⟨hws, _⟩, ⟨hbl, hblr⟩, hn, _, _⟩, ⟨hdr, hdl⟩, _⟩ := hf
    obtain ⟨nT, n⟩ := n
    dsimp only at *
    have hp : m = true → 0 ≤ n ∧ n ≤ 1152921504606846976 := hp.1
    generalize hb : roL d = b at *
    refine ⟨[.p 600 0, .ro 490 (.ints .u8) d], [(600, .segs false (R23 ws bl n m))], L23g, fun key ps mm => m = true ∧ n + (b.length : Int) ≤ 1152921504606846976 ∧ inv23g b ⟨ws, bl, n⟩ m key ps mm, ⟨rfl, rfl, ⟨_, rfl, eqR' ws bl n m⟩, rfl, trivial⟩, Nat.le_of_ble_eq_true (by kernel_rfl), ?_, ?_, ?_⟩
    · intro k t ht g hg
      have hg : g ∈ [0, 2, 490, 600] := hg
      simp only [List.mem_cons, List.not_mem_nil, or_false] at hg
      simp only [L23g, List.mem_cons, List.not_mem_nil, or_false, Prod.mk.injEq] at ht
      obtain ⟨rfl, rfl⟩ := ht
      rcases hg with rfl | rfl | rfl | rfl <;> exact ⟨by omega, rfl⟩
    · rintro vk t ps mm ht ⟨rfl, hle, rfl, j, d', hj, hd', rfl, rfl⟩
      simp only [L23g, List.mem_cons, List.not_mem_nil, or_false, Prod.mk.injEq] at ht
      obtain ⟨_, rfl⟩ := ht
      show lc23g d' K80 (feed (b.take j) ⟨ws, bl, n⟩).ws (feed (b.take j) ⟨ws, bl, n⟩).bl (feed (b.take j) ⟨ws, bl, n⟩).n true _ _
      rw [lc23g_eq]
      rw [hd']
      obtain ⟨hn0, hn1⟩ := hp rfl
      have hfn := feed_n (b.take j) ⟨ws, bl, n⟩
      rw [List.length_take, Nat.min_eq_left hj] at hfn
      have hfb := feed_bl (b.take j) ⟨ws, bl, n⟩
      dsimp only at hfn hfb
      have hdl' : ((b.drop j).length : Int) = (b.length : Int) - j := by rw [List.length_drop]; omega
      rw [hdl']
      generalize hS : feed (b.take j) ⟨ws, bl, n⟩ = S at hfn hfb ⊢
      refine ⟨fun hlt => ?_, fun hge => ?_⟩
      · have hlt := of_decide_eq_true hlt
        intro x1 e1 _
        have hx1 : x1 = S.n % 128 := by rw [e1, Int.tmod_eq_emod_of_nonneg (by omega)]
        refine ⟨need_of (by omega), need_of (by omega), fun x2 e2 l2 r2 x3 e3 l3 r3 x4 e4 r4 x5 e5 r5 => ?_⟩
        refine ⟨need_of (by omega), fun x6 e6 r6 x7 e7 r7 => ?_⟩
        rw [wrap_i64 (by omega)] at e6 e7
        obtain ⟨c, rfl⟩ : ∃ c : Nat, x5 = (c : Int) := ⟨x5.toNat, by omega⟩
        have htk : List.take ((128 : Int) - x1).toNat (List.drop j b) = (b.drop j).take c := by
          rcases Nat.lt_or_ge ((128 : Int) - x1).toNat (b.length - j) with h | h
          · rw [show ((128 : Int) - x1).toNat = c by omega]
          · rw [List.take_of_length_le (by rw [List.length_drop]; omega), List.take_of_length_le (by rw [List.length_drop]; omega)]
        rw [htk] at e3
        have hcl : ((b.drop j).take c).length = c := by rw [List.length_take, List.length_drop]; omega
        have hnext : feed (b.take (j + c)) ⟨ws, bl, n⟩ = feed ((b.drop j).take c) S := by
          rw [List.take_add, feed_append, hS]
        have hch := feed_chunk ((b.drop j).take c) S (by omega) (by rw [hfb]; exact hbl) (by rw [hcl]; omega) (fun h => by rw [h] at hcl; simp at hcl; omega)
        rw [hcl] at hch
        have hx1n : x1.toNat = (S.n % 128).toNat := by rw [hx1]
        have hd2 : roL (.l (List.take ((b.length : Int) - j - c).toNat (List.drop ((c : Nat) : Int).toNat (List.drop j b)))) = b.drop (j + c) := by
          show List.take _ _ = _
          rw [Int.toNat_natCast, List.drop_drop, List.take_of_length_le (by rw [List.length_drop]; omega)]
        refine ⟨fun h7 => ?_, fun h7 => ?_⟩
        · have h7 := of_decide_eq_true h7
          intro x8 e8 _ _ x9 e9 _ _ x10 e10 _
          refine ⟨rfl, b.length - (j + c), by omega, rfl, hle, rfl, j + c, _, by omega, hd2, ?_, rfl⟩
          rw [hnext, hch, if_pos (by omega)]
          dsimp only
          rw [e10, e6, e9, e8, e2, e3, e4, hx1n]
        · have h7 := of_decide_eq_false h7
          refine ⟨rfl, b.length - (j + c), by omega, rfl, hle, rfl, j + c, _, by omega, hd2, ?_, rfl⟩
          rw [hnext, hch, if_neg (by omega)]
          dsimp only
          rw [e6, e2, e3, e4, hx1n]
      · have hge := of_decide_eq_false hge
        obtain rfl : j = b.length := by omega
        rw [List.take_of_length_le (Nat.le_refl _)] at hS
        have hw : wr true ⟨ws, bl, n⟩ b = S := by unfold wr; rw [if_pos ⟨rfl, by dsimp only; omega⟩, hS]
        unfold wrR
        rw [hw]
        exact ⟨trivial, eqR _ _ _ _, trivial⟩
    · show vc23g ws bl n m d _ _
      rw [vc23g_eq]
      rw [hb]
      intro x1 e1 _ _ x2 e2 _ _ x3 e3 _ x4 e4
      subst e1 e2 e3
      refine ⟨fun h4 => ?_, fun h4 => ?_⟩
      · obtain rfl : m = false := by rw [e4] at h4; simpa using h4
        have hw : wr false ⟨x1, x2, x3⟩ b = ⟨x1, x2, x3⟩ := by unfold wr; rw [if_neg (fun h => by cases h.1)]
        unfold wrR
        rw [hw]
        exact ⟨trivial, eqR _ _ _ _, trivial⟩
      · obtain rfl : m = true := by rw [e4] at h4; simpa using h4
        obtain ⟨hn0, hn1⟩ := hp rfl
        intro x5 e5 _
        rw [wrap_i64 (by omega)] at e5
        refine ⟨fun h => ?_, fun h => ?_⟩
        · have h := of_decide_eq_true h
          have hw : wr true ⟨x1, x2, x3⟩ b = ⟨x1, x2, x3⟩ := by unfold wr; rw [if_neg (fun h' => by have := h'.2; dsimp only at this; omega)]
          unfold wrR
          rw [hw]
          exact ⟨trivial, eqR _ _ _ _, trivial⟩
        · have h := of_decide_eq_false h
          exact ⟨rfl, b.length - 0, rfl, by omega, rfl, 0, d, by omega, by rw [hb]; rfl, rfl, rfl⟩
  · rename_i d
    simp only [Option.some.injEq, Prod.mk.injEq] at hs
    obtain ⟨rfl, rfl, rfl⟩ := hs
    refine ⟨[.np, .ro 490 (.ints .u8) d], [], [], _, ⟨trivial, rfl, trivial⟩, Nat.le_of_ble_eq_true (by kernel_rfl), vcG_noloops ?_⟩
    show vc23n d _ _
    rw [vc23n_eq]
    exact ⟨trivial, trivial⟩
  · cases hs

def cloneG : List AV → Option (List Prop × List RV × List (Option (List Seg)))
  | [.m [.arr .u64 8 _ ws, .arr .u8 128 _ bl, .one (.i .i64 n), .one (.b _ m)]] => some ([m = true], [.ptr (R23 ws bl n.z m)], [some (R23 ws bl n.z m)])
  | _ => none
theorem cloneG_ok : CallOk Tryd.prog gh 26 (genCtr [.m] cloneG) := by
  refine call_gen (fn := Tryd.f26) Γ5_ok rfl glow rfl (by kernel_rfl) (by kernel_rfl) _ cloneG fun av p rvs fin hs hp hf => ?_
  unfold cloneG at hs
  split at hs
  · rename_i e1 ws e2 bl n e3 m
    simp only [Option.some.injEq, Prod.mk.injEq] at hs
    obtain ⟨rfl, rfl, rfl⟩ := hs
    obtain ⟨nT, n⟩ := n
    obtain rfl : m = true := hp.1
    dsimp only at *
    refine ⟨[.p 600 0], [(600, .segs false (R23 ws bl n true))], [], _, ⟨rfl, rfl, ⟨_, rfl, eqR' ws bl n true⟩, trivial⟩, Nat.le_of_ble_eq_true (by kernel_rfl), vcG_noloops ?_⟩
    show vc26g ws bl n true _ _
    rw [vc26g_eq]
    rintro x1 rfl _ _ x2 rfl _ _ x3 rfl _ x4 rfl
    exact ⟨fun h => (by cases h), fun _ => ⟨⟨eqR _ _ _ _, trivial⟩, eqR _ _ _ _, trivial⟩⟩
  · cases hs
/-- The table: all methods of a state that is there. -/
def Γ8 : Tab := ⟨tys, [(23, genCtr [.m, .d (.ints .u8)] writeG), (26, genCtr [.m] cloneG)] ++ Γ6.ctr, [0, 2], gh⟩
theorem Γ8_ok : TabOk Tryd.prog Γ8 := (Γ6_ok.cons cloneG_ok).cons writeG_ok
end Go.Gx

/- The hash of parts. -/
namespace Go.Sp
open Go.Gx
def st0 : HS := ⟨start8, List.replicate 128 0, 0⟩
/-- The hash of bytes. -/
def sha (b : List Int) : List Int := sumL (feed b st0).ws (feed b st0).bl (feed b st0).n true
/-- The parts of a list, one behind the other. -/
def roJ (d : RO) : List Int := ((roX d).map roL).flatten
end Go.Sp
namespace Go.Gx
open Go.Proofs Go.Sp
set_option linter.unusedVariables false
set_option maxRecDepth 100000


theorem take_succ_map (xs : List RO) (j : Nat) (h : j < xs.length) : ((xs.take (j + 1)).map roL).flatten = ((xs.take j).map roL).flatten ++ roL (xs.getD j (.r [])) := by
  rw [List.take_add_one, List.getElem?_eq_getElem h, List.map_append, List.flatten_append]
  congr 1
  simp [List.getD, h]
theorem flat_take_le (xs : List RO) (j : Nat) : (((xs.take j).map roL).flatten).length ≤ ((xs.map roL).flatten).length := by
  have h : ((xs.map roL).flatten) = (((xs.take j).map roL).flatten) ++ (((xs.drop j).map roL).flatten) := by
    rw [← List.flatten_append, ← List.map_append, List.take_append_drop]
  rw [h, List.length_append]; omega
theorem feed_st0 (b : List Int) : (feed b st0).n = (b.length : Int) := by
  rw [feed_n]; simp [st0]
def L14 : Loops := [(3, ⟨[.any, .any, .p 1000 0, .p 1001 0, .any, .any, .any, .ro 490 (.l (.ints .u8)) (.r []), .i .i64 ⟨false, 0⟩, .i .i64 ⟨false, 0⟩] ++ reps .any 9, gh ++ (490, .world) :: [(1000, .segs false [.arr .u8 64 false []]), (1001, .segs false (R23 [] [] 0 false))], 2000⟩)]
def vc14 (d : RO) (K : List RV → List (Option (List Seg)) → Prop) (Q : Nat → List Pv → Prop) : Prop := fnVcG 0 Γ8 Tryd.f14 L14 [.ro 490 (.l (.ints .u8)) d] (gh ++ (490, .world) :: []) K Q
def lc14 (d : RO) (n i : Int) (k z ws bl : List Int) (c : Int) (m : Bool) (K : List RV → List (Option (List Seg)) → Prop) (Q : Nat → List Pv → Prop) : Prop := loopVcG 0 Γ8 Tryd.f14 L14 3 [.ro d, .z n, .z i, .l k, .l z, .l ws, .l bl, .z c, .b m] K Q
theorem vc14_eq : ∀ (d : RO) (K : List RV → List (Option (List Seg)) → Prop) (Q : Nat → List Pv → Prop), vc14 d K Q = ∀ (x1 : Int), x1 = (7640891576956012808 : Int) → InR IntKind.u64 x1 → ∀ (x2 : Int), x2 = (13503953896175478587 : Int) → InR IntKind.u64 x2 → ∀ (x3 : Int), x3 = (4354685564936845355 : Int) → InR IntKind.u64 x3 → ∀ (x4 : Int), x4 = (11912009170470909681 : Int) → InR IntKind.u64 x4 → ∀ (x5 : Int), x5 = (5840696475078001361 : Int) → InR IntKind.u64 x5 → ∀ (x6 : Int), x6 = (11170449401992604703 : Int) → InR IntKind.u64 x6 → ∀ (x7 : Int), x7 = (2270897969802886507 : Int) → InR IntKind.u64 x7 → ∀ (x8 : Int), x8 = (6620516959819538809 : Int) → InR IntKind.u64 x8 → ∀ (x9 : List Int), x9 = List.replicate (128 : Nat) (0 : Int) → x9.length = (128 : Nat) → AllR IntKind.u8 x9 → Same Tryd.f14 (3 : Nat) (itemsOf Tryd.f14 (3 : Nat)) ∧ Q (3 : Nat) [Pv.ro d, Pv.z ((roX d).length : Int), Pv.z (0 : Int), Pv.l K80, Pv.l (List.replicate (64 : Nat) (0 : Int)), Pv.l [x1, x2, x3, x4, x5, x6, x7, x8], Pv.l x9, Pv.z (0 : Int), Pv.b true] := by
  intros
  kernel_rfl
theorem lc14_eq : ∀ (d : RO) (n i : Int) (k z ws bl : List Int) (c : Int) (m : Bool) (K : List RV → List (Option (List Seg)) → Prop) (Q : Nat → List Pv → Prop), lc14 d n i k z ws bl c m K Q = ((decide (i < n) = true → Need ((0 : Int) ≤ i ∧ i < ((roX d).length : Int)) ∧ Need (m = true → (0 : Int) ≤ c ∧ c ≤ (1152921504606846976 : Int)) ∧ ∀ (x1 : List Int), x1 = (wr m { ws := ws, bl := bl, n := c } (roL (roN d i.toNat))).ws → x1.length = (8 : Nat) → AllR IntKind.u64 x1 → ∀ (x2 : List Int), x2 = (wr m { ws := ws, bl := bl, n := c } (roL (roN d i.toNat))).bl → x2.length = (128 : Nat) → AllR IntKind.u8 x2 → ∀ (x3 : Int), x3 = (wr m { ws := ws, bl := bl, n := c } (roL (roN d i.toNat))).n → InR IntKind.i64 x3 → ∀ (x4 : Int), x4 = IntKind.i64.wrap (i + (1 : Int)) → InR IntKind.i64 x4 → Same Tryd.f14 (3 : Nat) (itemsOf Tryd.f14 (3 : Nat)) ∧ Q (3 : Nat) [Pv.ro d, Pv.z n, Pv.z x4, Pv.l k, Pv.l z, Pv.l x1, Pv.l x2, Pv.z x3, Pv.b m]) ∧ (decide (i < n) = false → Need ((0 : Int) ≤ c) ∧ ∀ (x5 : List Int), x5 = ws → x5.length = (8 : Nat) → AllR IntKind.u64 x5 → ∀ (x6 : List Int), x6 = bl → x6.length = (128 : Nat) → AllR IntKind.u8 x6 → ∀ (x7 : Int), x7 = c → InR IntKind.i64 x7 → ∀ (x8 : List Int), x8 = sumL ws bl c m → x8.length = (64 : Nat) → AllR IntKind.u8 x8 → K [RV.v (SV.arr IntKind.u8 (64 : Nat) false x8)] [])) := by
  intros
  kernel_rfl

def inv14 (d : RO) (key : Nat) (ps : List Pv) (mm : Nat) : Prop :=
  key = 3 ∧ ∃ j : Nat, j ≤ (roX d).length ∧ ps = [.ro d, .z ((roX d).length : Int), .z (j : Int), .l K80, .l (List.replicate 64 0), .l (feed (((roX d).take j).map roL).flatten st0).ws, .l (feed (((roX d).take j).map roL).flatten st0).bl, .z (feed (((roX d).take j).map roL).flatten st0).n, .b true] ∧ mm = (roX d).length - j
def sumG : List AV → Option (List Prop × List RV × List (Option (List Seg)))
  | [.d (.l (.ints .u8)) d] => some ([((roJ d).length : Int) ≤ 1152921504606846976], [.v (.arr .u8 64 false (sha (roJ d)))], [])
  | _ => none
theorem sumG_ok : CallOk Tryd.prog gh 14 (genCtr [.d (.l (.ints .u8))] sumG) := by
  refine call_gen (fn := Tryd.f14) Γ8_ok rfl glow rfl (by kernel_rfl) (by kernel_rfl) _ sumG fun av p rvs fin hs hp hf => ?_
  unfold sumG at hs
  split at hs
  · rename_i d
    simp only [Option.some.injEq, Prod.mk.injEq] at hs
    obtain ⟨rfl, rfl, rfl⟩ := hs
    have hp : ((roJ d).length : Int) ≤ 1152921504606846976 := hp.1
    obtain ⟨⟨_, hlen⟩, _⟩ := hf
    refine ⟨[.ro 490 (.l (.ints .u8)) d], [], L14, inv14 d, ⟨rfl, trivial⟩, Nat.le_of_ble_eq_true (by kernel_rfl), ?_, ?_, ?_⟩
    · intro k t ht g hg
      have hg : g ∈ [0, 2, 490] := hg
      simp only [List.mem_cons, List.not_mem_nil, or_false] at hg
      simp only [L14, List.mem_cons, List.not_mem_nil, or_false, Prod.mk.injEq] at ht
      obtain ⟨rfl, rfl⟩ := ht
      rcases hg with rfl | rfl | rfl <;> exact ⟨by omega, rfl⟩
    · rintro vk t ps mm ht ⟨rfl, j, hj, rfl, rfl⟩
      simp only [L14, List.mem_cons, List.not_mem_nil, or_false, Prod.mk.injEq] at ht
      obtain ⟨_, rfl⟩ := ht
      show lc14 d ((roX d).length : Int) (j : Int) K80 (List.replicate 64 0) (feed (((roX d).take j).map roL).flatten st0).ws (feed (((roX d).take j).map roL).flatten st0).bl (feed (((roX d).take j).map roL).flatten st0).n true _ _
      rw [lc14_eq]
      have hn := feed_st0 (((roX d).take j).map roL).flatten
      refine ⟨fun hlt => ?_, fun hge => ?_⟩
      · have hlt := of_decide_eq_true hlt
        have hjl : j < (roX d).length := by omega
        have e1 := take_succ_map (roX d) j hjl
        have e2 := flat_take_le (roX d) (j + 1)
        have e3 : (((roX d).take (j + 1)).map roL).flatten.length = (((roX d).take j).map roL).flatten.length + (roL (roN d j)).length := by rw [e1, List.length_append]; rfl
        have hT : (roJ d).length = ((roX d).map roL).flatten.length := rfl
        have hw : wr true (feed (((roX d).take j).map roL).flatten st0) (roL (roN d (j : Int).toNat)) = feed (((roX d).take (j + 1)).map roL).flatten st0 := by
          unfold wr
          rw [Int.toNat_natCast, if_pos ⟨rfl, by rw [hn]; omega⟩, e1, feed_append]; rfl
        refine ⟨need_of (by omega), need_of (fun _ => by rw [hn]; omega), ?_⟩
        rw [show (HS.mk (feed (((roX d).take j).map roL).flatten st0).ws (feed (((roX d).take j).map roL).flatten st0).bl (feed (((roX d).take j).map roL).flatten st0).n) = feed (((roX d).take j).map roL).flatten st0 from rfl, hw]
        rintro x1 rfl _ _ x2 rfl _ _ x3 rfl _ x4 e4 _
        rw [wrap_i64 (by omega)] at e4
        subst e4
        exact ⟨rfl, (roX d).length - (j + 1), by omega, rfl, j + 1, by omega, rfl, rfl⟩
      · have hge := of_decide_eq_false hge
        obtain rfl : j = (roX d).length := by omega
        refine ⟨need_of (by rw [hn]; omega), ?_⟩
        intro x5 e5 _ _ x6 e6 _ _ x7 e7 _ x8 e8 _ _
        refine ⟨⟨?_, trivial⟩, trivial⟩
        show x8 = sha (roJ d)
        rw [e8]
        unfold sha roJ
        rw [List.take_of_length_le (Nat.le_refl _)]
    · show vc14 d _ _
      rw [vc14_eq]
      rintro x1 rfl _ x2 rfl _ x3 rfl _ x4 rfl _ x5 rfl _ x6 rfl _ x7 rfl _ x8 rfl _ x9 rfl _ _
      refine ⟨rfl, (roX d).length - 0, rfl, 0, by omega, ?_, rfl⟩
      simp only [List.take_zero, List.map_nil, List.flatten_nil, feed, st0, start8]
      rfl
  · cases hs
def Γ9 : Tab := ⟨tys, (14, genCtr [.d (.l (.ints .u8))] sumG) :: Γ8.ctr, [0, 2], gh⟩
theorem Γ9_ok : TabOk Tryd.prog Γ9 := Γ8_ok.cons sumG_ok
end Go.Gx

/- The hash of "abc" is what is known of it. -/
namespace Go.Gx
open Go.Proofs Go.Sp
set_option linter.unusedVariables false
set_option maxRecDepth 100000

def vc15 (K : List RV → List (Option (List Seg)) → Prop) (Q : Nat → List Pv → Prop) : Prop := fnVcG 0 Γ9 Tryd.f15 [] [] (gh ++ (490, .world) :: []) K Q
theorem vc15_eq : ∀ (K : List RV → List (Option (List Seg)) → Prop) (Q : Nat → List Pv → Prop), vc15 K Q = (Need ((3 : Int) ≤ (3 : Int)) ∧ Need ((3 : Int) ≤ (1152921504606846976 : Int)) ∧ ∀ (x1 : List Int), x1 = sha (roJ (RO.r [RO.l (List.take (3 : Nat) (List.drop (0 : Nat) [(97 : Int), (98 : Int), (99 : Int)]))])) → x1.length = (64 : Nat) → AllR IntKind.u8 x1 → K [RV.v (SV.b false ([x1.getD (0 : Nat) (0 : Int), x1.getD (1 : Nat) (0 : Int), x1.getD (2 : Nat) (0 : Int), x1.getD (3 : Nat) (0 : Int), x1.getD (4 : Nat) (0 : Int), x1.getD (5 : Nat) (0 : Int), x1.getD (6 : Nat) (0 : Int), x1.getD (7 : Nat) (0 : Int)] == [(221 : Int), (175 : Int), (53 : Int), (161 : Int), (147 : Int), (97 : Int), (122 : Int), (186 : Int)]))] []) := by
  intros
  kernel_rfl

theorem sha_abc : (sha [97, 98, 99]).take 8 = [221, 175, 53, 161, 147, 97, 122, 186] ∧ (sha [97, 98, 99]).length = 64 ∧ (sha [97, 98, 99]).getD 63 0 = 159 := by decide +kernel
theorem sha_none : (sha []).take 8 = [207, 131, 225, 53, 126, 239, 184, 189] ∧ (sha []).length = 64 := by decide +kernel
theorem take8 (l : List Int) (h : l.length = 64) : [l.getD 0 0, l.getD 1 0, l.getD 2 0, l.getD 3 0, l.getD 4 0, l.getD 5 0, l.getD 6 0, l.getD 7 0] = l.take 8 := by
  match l, h with
  | a :: b :: c :: d :: e :: f :: g :: i :: r, _ => rfl
def worksG : List AV → Option (List Prop × List RV × List (Option (List Seg)))
  | [] => some ([], [.v (.b true true)], [])
  | _ => none
theorem worksG_ok : CallOk Tryd.prog gh 15 (genCtr [] worksG) := by
  refine call_gen (fn := Tryd.f15) Γ9_ok rfl glow rfl (by kernel_rfl) (by kernel_rfl) _ worksG fun av p rvs fin hs hp hf => ?_
  unfold worksG at hs
  split at hs
  · simp only [Option.some.injEq, Prod.mk.injEq] at hs
    obtain ⟨rfl, rfl, rfl⟩ := hs
    refine ⟨[], [], [], _, trivial, Nat.le_of_ble_eq_true (by kernel_rfl), vcG_noloops ?_⟩
    show vc15 _ _
    rw [vc15_eq]
    refine ⟨need_of (by omega), need_of (by omega), ?_⟩
    intro x1 e1 hl _
    refine ⟨⟨?_, trivial⟩, trivial⟩
    show _ = true
    have e : x1 = sha [97, 98, 99] := e1
    rw [take8 x1 hl, e, sha_abc.1]
    rfl
  · cases hs
def Γ10 : Tab := ⟨tys, (15, genCtr [] worksG) :: Γ9.ctr, [0, 2], gh⟩
theorem Γ10_ok : TabOk Tryd.prog Γ10 := Γ9_ok.cons worksG_ok
end Go.Gx

/- How many bits a number has. -/
namespace Go.Gx
open Go.Proofs Go.Sp
set_option linter.unusedVariables false
set_option maxRecDepth 100000

/-- The program's table of the first bytes' lengths. -/
def lenTab : ByteArray := ⟨#[0, 1, 2, 2, 3, 3, 3, 3, 4, 4, 4, 4, 4, 4, 4, 4, 5, 5, 5, 5, 5, 5, 5, 5, 5, 5, 5, 5, 5, 5, 5, 5, 6, 6, 6, 6, 6, 6, 6, 6, 6, 6, 6, 6, 6, 6, 6, 6, 6, 6, 6, 6, 6, 6, 6, 6, 6, 6, 6, 6, 6, 6, 6, 6, 7, 7, 7, 7, 7, 7, 7, 7, 7, 7, 7, 7, 7, 7, 7, 7, 7, 7, 7, 7, 7, 7, 7, 7, 7, 7, 7, 7, 7, 7, 7, 7, 7, 7, 7, 7, 7, 7, 7, 7, 7, 7, 7, 7, 7, 7, 7, 7, 7, 7, 7, 7, 7, 7, 7, 7, 7, 7, 7, 7, 7, 7, 7, 7, 8, 8, 8, 8, 8, 8, 8, 8, 8, 8, 8, 8, 8, 8, 8, 8, 8, 8, 8, 8, 8, 8, 8, 8, 8, 8, 8, 8, 8, 8, 8, 8, 8, 8, 8, 8, 8, 8, 8, 8, 8, 8, 8, 8, 8, 8, 8, 8, 8, 8, 8, 8, 8, 8, 8, 8, 8, 8, 8, 8, 8, 8, 8, 8, 8, 8, 8, 8, 8, 8, 8, 8, 8, 8, 8, 8, 8, 8, 8, 8, 8, 8, 8, 8, 8, 8, 8, 8, 8, 8, 8, 8, 8, 8, 8, 8, 8, 8, 8, 8, 8, 8, 8, 8, 8, 8, 8, 8, 8, 8, 8, 8, 8, 8, 8, 8, 8, 8, 8, 8, 8, 8, 8, 8, 8, 8, 8, 8]⟩
def vc50 (x : Int) (K : SV → Prop) (Q : Nat → List Pv → Prop) : Prop := fnVc Γ10 Tryd.f50 [] [.i .u64 ⟨false, x⟩] gh K Q
theorem vc50_eq : ∀ (x : Int) (K : SV → Prop) (Q : Nat → List Pv → Prop), vc50 x K Q = ((decide (x ≥ (4294967296 : Int)) = true → ∀ (x1 : Int), x1 = shrI IntKind.u64 x (32 : Int) → InR IntKind.u64 x1 → (decide (x1 ≥ (65536 : Int)) = true → ∀ (x2 : Int), x2 = shrI IntKind.u64 x1 (16 : Int) → InR IntKind.u64 x2 → (decide (x2 ≥ (256 : Int)) = true → ∀ (x3 : Int), x3 = shrI IntKind.u64 x2 (8 : Int) → InR IntKind.u64 x3 → ∀ (x4 : Int), x4 = IntKind.u8.wrap x3 → InR IntKind.u8 x4 → Need ((0 : Int) ≤ x4 ∧ x4 < (256 : Int)) ∧ ∀ (x5 : Int), x5 = ↑(lenTab.data.getD x4.toNat (0 : UInt8)).toNat → InR IntKind.u8 x5 → ∀ (x6 : Int), x6 = IntKind.i64.wrap x5 → InR IntKind.i64 x6 → ∀ (x7 : Int), x7 = IntKind.i64.wrap ((56 : Int) + x6) → InR IntKind.i64 x7 → K (SV.i IntKind.i64 { st := false, z := x7 })) ∧ (decide (x2 ≥ (256 : Int)) = false → ∀ (x8 : Int), x8 = IntKind.u8.wrap x2 → InR IntKind.u8 x8 → Need ((0 : Int) ≤ x8 ∧ x8 < (256 : Int)) ∧ ∀ (x9 : Int), x9 = ↑(lenTab.data.getD x8.toNat (0 : UInt8)).toNat → InR IntKind.u8 x9 → ∀ (x10 : Int), x10 = IntKind.i64.wrap x9 → InR IntKind.i64 x10 → ∀ (x11 : Int), x11 = IntKind.i64.wrap ((48 : Int) + x10) → InR IntKind.i64 x11 → K (SV.i IntKind.i64 { st := false, z := x11 }))) ∧ (decide (x1 ≥ (65536 : Int)) = false → (decide (x1 ≥ (256 : Int)) = true → ∀ (x12 : Int), x12 = shrI IntKind.u64 x1 (8 : Int) → InR IntKind.u64 x12 → ∀ (x13 : Int), x13 = IntKind.u8.wrap x12 → InR IntKind.u8 x13 → Need ((0 : Int) ≤ x13 ∧ x13 < (256 : Int)) ∧ ∀ (x14 : Int), x14 = ↑(lenTab.data.getD x13.toNat (0 : UInt8)).toNat → InR IntKind.u8 x14 → ∀ (x15 : Int), x15 = IntKind.i64.wrap x14 → InR IntKind.i64 x15 → ∀ (x16 : Int), x16 = IntKind.i64.wrap ((40 : Int) + x15) → InR IntKind.i64 x16 → K (SV.i IntKind.i64 { st := false, z := x16 })) ∧ (decide (x1 ≥ (256 : Int)) = false → ∀ (x17 : Int), x17 = IntKind.u8.wrap x1 → InR IntKind.u8 x17 → Need ((0 : Int) ≤ x17 ∧ x17 < (256 : Int)) ∧ ∀ (x18 : Int), x18 = ↑(lenTab.data.getD x17.toNat (0 : UInt8)).toNat → InR IntKind.u8 x18 → ∀ (x19 : Int), x19 = IntKind.i64.wrap x18 → InR IntKind.i64 x19 → ∀ (x20 : Int), x20 = IntKind.i64.wrap ((32 : Int) + x19) → InR IntKind.i64 x20 → K (SV.i IntKind.i64 { st := false, z := x20 })))) ∧ (decide (x ≥ (4294967296 : Int)) = false → (decide (x ≥ (65536 : Int)) = true → ∀ (x21 : Int), x21 = shrI IntKind.u64 x (16 : Int) → InR IntKind.u64 x21 → (decide (x21 ≥ (256 : Int)) = true → ∀ (x22 : Int), x22 = shrI IntKind.u64 x21 (8 : Int) → InR IntKind.u64 x22 → ∀ (x23 : Int), x23 = IntKind.u8.wrap x22 → InR IntKind.u8 x23 → Need ((0 : Int) ≤ x23 ∧ x23 < (256 : Int)) ∧ ∀ (x24 : Int), x24 = ↑(lenTab.data.getD x23.toNat (0 : UInt8)).toNat → InR IntKind.u8 x24 → ∀ (x25 : Int), x25 = IntKind.i64.wrap x24 → InR IntKind.i64 x25 → ∀ (x26 : Int), x26 = IntKind.i64.wrap ((24 : Int) + x25) → InR IntKind.i64 x26 → K (SV.i IntKind.i64 { st := false, z := x26 })) ∧ (decide (x21 ≥ (256 : Int)) = false → ∀ (x27 : Int), x27 = IntKind.u8.wrap x21 → InR IntKind.u8 x27 → Need ((0 : Int) ≤ x27 ∧ x27 < (256 : Int)) ∧ ∀ (x28 : Int), x28 = ↑(lenTab.data.getD x27.toNat (0 : UInt8)).toNat → InR IntKind.u8 x28 → ∀ (x29 : Int), x29 = IntKind.i64.wrap x28 → InR IntKind.i64 x29 → ∀ (x30 : Int), x30 = IntKind.i64.wrap ((16 : Int) + x29) → InR IntKind.i64 x30 → K (SV.i IntKind.i64 { st := false, z := x30 }))) ∧ (decide (x ≥ (65536 : Int)) = false → (decide (x ≥ (256 : Int)) = true → ∀ (x31 : Int), x31 = shrI IntKind.u64 x (8 : Int) → InR IntKind.u64 x31 → ∀ (x32 : Int), x32 = IntKind.u8.wrap x31 → InR IntKind.u8 x32 → Need ((0 : Int) ≤ x32 ∧ x32 < (256 : Int)) ∧ ∀ (x33 : Int), x33 = ↑(lenTab.data.getD x32.toNat (0 : UInt8)).toNat → InR IntKind.u8 x33 → ∀ (x34 : Int), x34 = IntKind.i64.wrap x33 → InR IntKind.i64 x34 → ∀ (x35 : Int), x35 = IntKind.i64.wrap ((8 : Int) + x34) → InR IntKind.i64 x35 → K (SV.i IntKind.i64 { st := false, z := x35 })) ∧ (decide (x ≥ (256 : Int)) = false → ∀ (x36 : Int), x36 = IntKind.u8.wrap x → InR IntKind.u8 x36 → Need ((0 : Int) ≤ x36 ∧ x36 < (256 : Int)) ∧ ∀ (x37 : Int), x37 = ↑(lenTab.data.getD x36.toNat (0 : UInt8)).toNat → InR IntKind.u8 x37 → ∀ (x38 : Int), x38 = IntKind.i64.wrap x37 → InR IntKind.i64 x38 → ∀ (x39 : Int), x39 = IntKind.i64.wrap ((0 : Int) + x38) → InR IntKind.i64 x39 → K (SV.i IntKind.i64 { st := false, z := x39 }))))) := by
  intros
  kernel_rfl

def _root_.Go.Sp.lenI (x : Int) : Int := if x ≤ 0 then 0 else ((Nat.log2 x.toNat : Nat) : Int) + 1
theorem log2_div {n k : Nat} (h : 2 ^ k ≤ n) : (n / 2 ^ k).log2 + k = n.log2 := by
  have hp : 0 < 2 ^ k := Nat.pow_pos (by omega)
  have hn : n ≠ 0 := by omega
  have hd : n / 2 ^ k ≠ 0 := by
    have := Nat.div_pos h hp
    omega
  have h1 : 2 ^ ((n / 2 ^ k).log2) ≤ n / 2 ^ k := (Nat.le_log2 hd).1 (Nat.le_refl _)
  have h2 : n / 2 ^ k < 2 ^ ((n / 2 ^ k).log2 + 1) := (Nat.log2_lt hd).1 (by omega)
  have h3 : (n / 2 ^ k).log2 + k ≤ n.log2 := (Nat.le_log2 hn).2 (by rw [Nat.pow_add]; exact (Nat.le_div_iff_mul_le hp).1 h1)
  have h4 : n.log2 < (n / 2 ^ k).log2 + 1 + k := (Nat.log2_lt hn).2 (by rw [Nat.pow_add]; exact (Nat.div_lt_iff_lt_mul hp).1 h2)
  omega
theorem lenI_div {x : Int} (k : Nat) (h : (2 : Int) ^ k ≤ x) : lenI (x / 2 ^ k) + k = lenI x := by
  have hp : (0 : Int) < 2 ^ k := Int.pow_pos (by omega)
  obtain ⟨n, rfl⟩ := Int.eq_ofNat_of_zero_le (show 0 ≤ x by omega)
  have h' : 2 ^ k ≤ n := by
    have : ((2 ^ k : Nat) : Int) ≤ (n : Int) := by rw [Int.natCast_pow]; exact h
    omega
  have e : (n : Int) / 2 ^ k = ((n / 2 ^ k : Nat) : Int) := by rw [Int.natCast_ediv, Int.natCast_pow]; rfl
  have hpn : 0 < 2 ^ k := Nat.pow_pos (by omega)
  have hd := Nat.div_pos h' hpn
  have := log2_div h'
  rw [e]
  unfold lenI
  rw [if_neg (by omega), if_neg (by omega), Int.toNat_natCast, Int.toNat_natCast]
  omega
theorem lenTab_at : ∀ j : Fin 256, ((lenTab.data.getD j.val 0).toNat : Int) = lenI (j.val : Int) := by decide +kernel
theorem lenTab_of {x : Int} (h : 0 ≤ x ∧ x < 256) : ((lenTab.data.getD x.toNat 0).toNat : Int) = lenI x := by
  have := lenTab_at ⟨x.toNat, by omega⟩
  rw [this]
  congr 1
  show ((x.toNat : Nat) : Int) = x
  omega
theorem shr_div {x : Int} (k : Nat) (hk : k ≤ 64) : shrI .u64 x (k : Int) = x / 2 ^ k := by
  unfold shrI
  rw [show (min ((k : Int)).toNat IntKind.u64.bits) = k by simp [IntKind.bits]; omega, Int.fdiv_eq_ediv_of_nonneg]
  exact Int.le_of_lt (Int.pow_pos (by omega))
theorem lenI_small {x : Int} (h : 0 ≤ x ∧ x < 256) : 0 ≤ lenI x ∧ lenI x ≤ 8 := by
  rw [← lenTab_of h]
  have : ∀ j : Fin 256, (lenTab.data.getD j.val 0).toNat ≤ 8 := by decide +kernel
  have := this ⟨x.toNat, by omega⟩
  constructor
  · omega
  · have e : (⟨x.toNat, by omega⟩ : Fin 256).val = x.toNat := rfl
    rw [e] at this
    omega
theorem wrap_u8 {x : Int} (h : 0 ≤ x ∧ x < 256) : IntKind.u8.wrap x = x := wrap_of_InR h
def lenS : List SV → Option (List Prop × SV)
  | [.i .u64 x] => some ([], .i .i64 ⟨false, lenI x.z⟩)
  | _ => none
theorem len64_ok : CallOk Tryd.prog gh 50 (pureCtr lenS) := by
  refine call_pure (fn := Tryd.f50) Γ10_ok rfl (by kernel_rfl) (by kernel_rfl) (by kernel_rfl) lenS fun args P0 Y0 hs hp hf => ?_
  unfold lenS at hs
  split at hs
  · rename_i x
    simp only [Option.some.injEq, Prod.mk.injEq] at hs
    obtain ⟨rfl, rfl⟩ := hs
    obtain ⟨nT, x⟩ := x
    obtain ⟨hx, _⟩ := hf
    simp only [FactV, InR] at hx
    refine ⟨[.i .u64 ⟨false, x⟩], [], _, ⟨rfl, trivial⟩, Nat.le_of_ble_eq_true (by kernel_rfl), vc_noloops ?_⟩
    show vc50 x _ _
    rw [vc50_eq]
    have s8 := fun x => shr_div (x := x) 8 (by omega)
    have s16 := fun x => shr_div (x := x) 16 (by omega)
    have s32 := fun x => shr_div (x := x) 32 (by omega)
    have d8 := fun x => lenI_div (x := x) 8
    have d16 := fun x => lenI_div (x := x) 16
    have d32 := fun x => lenI_div (x := x) 32
    simp only [show ((8 : Nat) : Int) = 8 from rfl, show ((16 : Nat) : Int) = 16 from rfl, show ((32 : Nat) : Int) = 32 from rfl, show (2 : Int) ^ 8 = 256 from rfl, show (2 : Int) ^ 16 = 65536 from rfl, show (2 : Int) ^ 32 = 4294967296 from rfl] at s8 s16 s32 d8 d16 d32
    simp only [s8, s16, s32, forall_eq, decide_eq_true_eq, decide_eq_false_iff_not]
    have leaf : ∀ (c y : Int), 0 ≤ y → y < 256 → 0 ≤ c → c ≤ 56 → lenI y + c = lenI x → InR .u8 (IntKind.u8.wrap y) → (Need (0 ≤ IntKind.u8.wrap y ∧ IntKind.u8.wrap y < 256) ∧ (InR .u8 ((lenTab.data.getD (IntKind.u8.wrap y).toNat 0).toNat : Int) → InR .i64 (IntKind.i64.wrap ((lenTab.data.getD (IntKind.u8.wrap y).toNat 0).toNat : Int)) → InR .i64 (IntKind.i64.wrap (c + IntKind.i64.wrap ((lenTab.data.getD (IntKind.u8.wrap y).toNat 0).toNat : Int))) → eqV (.i .i64 ⟨false, IntKind.i64.wrap (c + IntKind.i64.wrap ((lenTab.data.getD (IntKind.u8.wrap y).toNat 0).toNat : Int))⟩) (.i .i64 ⟨false, lenI x⟩))) := by
      intro c y h1 h2 h3 h4 h5 _
      rw [wrap_u8 ⟨h1, h2⟩, lenTab_of ⟨h1, h2⟩]
      have h6 := lenI_small ⟨h1, h2⟩
      rw [wrap_i64 (by omega), wrap_i64 (by omega)]
      exact ⟨need_of ⟨h1, h2⟩, fun _ _ _ => by show c + lenI y = lenI x; omega⟩
    refine ⟨fun h1 _ => ⟨fun h2 _ => ⟨fun h3 _ hr => leaf 56 _ ?_ ?_ ?_ ?_ ?_ hr, fun h3 hr => leaf 48 _ ?_ ?_ ?_ ?_ ?_ hr⟩, fun h2 => ⟨fun h3 _ hr => leaf 40 _ ?_ ?_ ?_ ?_ ?_ hr, fun h3 hr => leaf 32 _ ?_ ?_ ?_ ?_ ?_ hr⟩⟩,
      fun h1 => ⟨fun h2 _ => ⟨fun h3 _ hr => leaf 24 _ ?_ ?_ ?_ ?_ ?_ hr, fun h3 hr => leaf 16 _ ?_ ?_ ?_ ?_ ?_ hr⟩, fun h2 => ⟨fun h3 _ hr => leaf 8 _ ?_ ?_ ?_ ?_ ?_ hr, fun h3 hr => leaf 0 _ ?_ ?_ ?_ ?_ ?_ hr⟩⟩⟩
    all_goals first
      | omega
      | (have a1 := d32 x h1; have a2 := d16 _ h2; have a3 := d8 _ h3; omega)
      | (have a1 := d32 x h1; have a2 := d16 _ h2; omega)
      | (have a1 := d32 x h1; have a3 := d8 _ h3; omega)
      | (have a1 := d32 x h1; omega)
      | (have a2 := d16 _ h2; have a3 := d8 _ h3; omega)
      | (have a2 := d16 _ h2; omega)
      | (have a3 := d8 _ h3; omega)
  · cases hs
def ΓL1 : Tab := ⟨tys, (50, pureCtr lenS) :: Γ10.ctr, [0, 2], gh⟩
theorem ΓL1_ok : TabOk Tryd.prog ΓL1 := Γ10_ok.cons len64_ok
def vc45 (x : Int) (K : SV → Prop) (Q : Nat → List Pv → Prop) : Prop := fnVc ΓL1 Tryd.f45 [] [.i .u64 ⟨false, x⟩] gh K Q
theorem vc45_eq : ∀ (x : Int) (K : SV → Prop) (Q : Nat → List Pv → Prop), vc45 x K Q = ∀ (x1 : Int), x1 = lenI x → InR IntKind.i64 x1 → K (SV.i IntKind.i64 { st := false, z := x1 }) := by
  intros
  kernel_rfl

theorem len_ok : CallOk Tryd.prog gh 45 (pureCtr lenS) := by
  refine call_pure (fn := Tryd.f45) ΓL1_ok rfl (by kernel_rfl) (by kernel_rfl) (by kernel_rfl) lenS fun args P0 Y0 hs hp hf => ?_
  unfold lenS at hs
  split at hs
  · rename_i x
    simp only [Option.some.injEq, Prod.mk.injEq] at hs
    obtain ⟨rfl, rfl⟩ := hs
    obtain ⟨nT, x⟩ := x
    refine ⟨[.i .u64 ⟨false, x⟩], [], _, ⟨rfl, trivial⟩, Nat.le_of_ble_eq_true (by kernel_rfl), vc_noloops ?_⟩
    show vc45 x _ _
    rw [vc45_eq]
    intro x1 e1 _
    exact e1
  · cases hs
def ΓL : Tab := ⟨tys, (45, pureCtr lenS) :: ΓL1.ctr, [0, 2], gh⟩
theorem ΓL_ok : TabOk Tryd.prog ΓL := ΓL1_ok.cons len_ok
end Go.Gx

namespace Go.Sp
open Go.Gx
/-- The root of a tree of hashes. -/
def rootN : Nat → List (List Int) → List Int
  | 0, _ => []
  | m + 1, ls => match ls with
    | [] => sha []
    | [a] => sha (0 :: a)
    | ls => sha (1 :: (rootN m (ls.take (2 ^ (ls.length - 1).log2)) ++ rootN m (ls.drop (2 ^ (ls.length - 1).log2))))
def rootL (ls : List (List Int)) : List Int := rootN (ls.length + 1) ls
end Go.Sp
namespace Go.Gx
open Go.Proofs Go.Sp
set_option linter.unusedVariables false
set_option maxRecDepth 100000
def rootG (m : Nat) : List AV → Option (List Prop × List RV × List (Option (List Seg)))
  | [.d (.l (.ints .u8)) d] => some ([(roX d).length < m, ∀ x ∈ roX d, ((roL x).length : Int) ≤ 576460752303423488], [.v (.arr .u8 64 false (rootL ((roX d).map roL)))], [])
  | _ => none
end Go.Gx

/- Contracts in general: another telling of the same. -/
namespace Go.Gx
open Go.RowKit
set_option linter.unusedVariables false

def RP.bind {α β : Type} : RP α → (α → RP β) → RP β
  | .ret a, f => f a
  | .fail, _ => .fail
  | .get k h, f => .get k fun b => (h b).bind f

theorem RP.run_bind {α β : Type} {H : Nat → Option SB} (f : α → RP β) : ∀ (g : RP α) (rs : List Nat), (g.bind f).run H rs = (match g.run H rs with | some (a, rs1) => (f a).run H rs1 | none => none)
  | .ret a, rs => rfl
  | .fail, rs => rfl
  | .get k h, rs => by simp only [RP.bind, RP.run]; exact RP.run_bind f (h (H k)) (k :: rs)

/-- Does it only read, and hand on what it has read? -/
def Uni {α : Type} (F : (α → RP Delta) → RP Delta) : Prop := ∃ g : RP α, ∀ f, F f = g.bind f

theorem Uni.fail {α : Type} : Uni (α := α) fun _ => .fail := ⟨.fail, fun _ => rfl⟩
theorem Uni.ret {α : Type} (a : α) : Uni (α := α) fun f => f a := ⟨.ret a, fun _ => rfl⟩
theorem Uni.get {α : Type} (k : Nat) {F : Option SB → (α → RP Delta) → RP Delta} (h : ∀ b, Uni (F b)) : Uni fun f => .get k fun b => F b f :=
  ⟨.get k fun b => Classical.choose (h b), fun f => by
    simp only [RP.bind]
    congr 1
    funext b
    exact Classical.choose_spec (h b) f⟩
theorem Uni.bind {α β : Type} {F : (α → RP Delta) → RP Delta} (hF : Uni F) {G : α → (β → RP Delta) → RP Delta} (hG : ∀ a, Uni (G a)) : Uni fun f => F fun a => G a f := by
  obtain ⟨g, hg⟩ := hF
  have bb : ∀ {α β γ : Type} (g : RP α) (h : α → RP β) (f : β → RP γ), (g.bind h).bind f = g.bind fun a => (h a).bind f := by
    intro α β γ g h f
    induction g with
    | ret a => rfl
    | fail => rfl
    | get k r ih => simp only [RP.bind]; congr 1; funext b; exact ih b
  have hG' : ∀ a, ∃ k : RP β, ∀ f, G a f = k.bind f := hG
  refine ⟨g.bind fun a => Classical.choose (hG' a), fun f => ?_⟩
  show F (fun a => G a f) = _
  rw [hg, bb]
  congr 1
  funext a
  exact Classical.choose_spec (hG' a) f

theorem uni_withCon (x : SV) : Uni (α := List Prop × Con) fun f => withCon x fun p q => f (p, q) := by
  cases x <;> simp only [withCon] <;> try exact .fail
  case s v => exact .ret _
  case sl key c est off len =>
    refine .get _ fun b => ?_
    match b with
    | some (.segs ro l) =>
      simp only
      cases segAt l c with
      | none => exact .fail
      | some gj =>
        obtain ⟨g, j⟩ := gj
        cases j with
        | succ j => exact .fail
        | zero =>
          simp only
          cases conSeg g est off len with
          | none => exact .fail
          | some pq => exact .ret (pq.1, pq.2)
    | some .gone => exact .fail
    | some .world => exact .fail
    | none => exact .fail
  case ro key sh d =>
    refine .get _ fun b => ?_
    match b with
    | some .world => cases sh <;> first | exact .fail | exact .ret _
    | some (.segs ro l) => exact .fail
    | some .gone => exact .fail
    | none => exact .fail

theorem uni_each {g : SV → (List Prop → RO → RP Delta) → RP Delta} (hg : ∀ x, Uni (α := List Prop × RO) fun f => g x fun p d => f (p, d)) : ∀ xs : List SV, Uni (α := List Prop × List RO) fun f => eachRO g xs fun p d => f (p, d)
  | [] => .ret ([], [])
  | x :: r => by
    simp only [eachRO]
    exact Uni.bind (F := fun f => g x fun p d => f (p, d)) (hg x) (G := fun a f => eachRO g r fun p' ds => f (a.1 ++ p', a.2 :: ds)) fun a =>
      Uni.bind (F := fun f => eachRO g r fun p d => f (p, d)) (uni_each hg r) (G := fun b f => f (a.1 ++ b.1, a.2 :: b.2)) fun b => .ret _

theorem uni_view (ban : List Nat) : ∀ (sh : Sh) (x : SV), Uni (α := List Prop × RO) fun f => viewRO ban sh x fun p d => f (p, d)
  | .ints k, x => by
    simp only [viewRO]
    cases x <;> try exact .fail
    case nsl => exact .ret _
    case ro key sh d =>
      refine .get _ fun b => ?_
      match b with
      | some .world => simp only; cases shEq sh (.ints k) <;> first | exact .fail | exact .ret _
      | some (.segs ro l) => exact .fail
      | some .gone => exact .fail
      | none => exact .fail
    case sl key c est off len =>
      simp only
      cases memN key ban with
      | true => exact .fail
      | false =>
        refine Uni.bind (F := fun f => withCon (.sl key c est off len) fun p q => f (p, q)) (uni_withCon _) (G := fun a f => match a.2 with | .ints k' l => (match keq k' k with | true => f (a.1, RO.l l) | false => .fail) | _ => .fail) fun a => ?_
        obtain ⟨p, q⟩ := a
        cases q with
        | arrs => exact .fail
        | ints k' l => simp only; cases keq k' k <;> first | exact .fail | exact .ret _
  | .l e, x => by
    simp only [viewRO]
    cases x <;> try exact .fail
    case nsl => exact .ret _
    case ro key sh d =>
      refine .get _ fun b => ?_
      match b with
      | some .world => simp only; cases shEq sh (.l e) <;> first | exact .fail | exact .ret _
      | some (.segs ro l) => exact .fail
      | some .gone => exact .fail
      | none => exact .fail
    case sl key c est off len =>
      show Uni fun f => (match (SV.sl key c est off len) with
        | .ro key sh d => _
        | .nsl => _
        | .sl key 0 1 ⟨true, .ofNat 0⟩ ⟨true, .ofNat n⟩ => _
        | _ => _)
      split
      · rename_i h; cases h
      · rename_i h; cases h
      · rename_i key' n h
        cases memN key' ban with
        | true => exact .fail
        | false =>
          refine .get _ fun b => ?_
          match b with
          | some .world => exact .fail
          | some .gone => exact .fail
          | none => exact .fail
          | some (.segs ro l) =>
            simp only
            cases onesOf l with
            | none => exact .fail
            | some xs =>
              simp only
              cases (Nat.beq xs.length n && Nat.blt 0 n) with
              | false => exact .fail
              | true => exact Uni.bind (F := fun f => eachRO (viewRO ban e) xs fun p d => f (p, d)) (uni_each (fun x => uni_view ban e x) xs) (G := fun a f => f (a.1, RO.r a.2)) fun a => .ret _
      · exact .fail
  | .i _, x => by simp only [viewRO]; exact .fail
  | .tb, x => by simp only [viewRO]; exact .fail
  | .ts, x => by simp only [viewRO]; exact .fail
  | .arr _ _, x => by simp only [viewRO]; exact .fail
  | .r _, x => by simp only [viewRO]; exact .fail

theorem uni_getA (ban : List Nat) : ∀ (ms : List Md) (xs : List SV), Uni (α := List Prop × List AV) fun f => getA ban ms xs fun p a => f (p, a)
  | [], [] => .ret ([], [])
  | [], _ :: _ => .fail
  | .v :: _, [] => .fail
  | .d _ :: _, [] => .fail
  | .m :: _, [] => .fail
  | .o :: _, [] => .fail
  | .v :: ms, x :: xs => by
    simp only [getA]
    exact Uni.bind (F := fun f => getA ban ms xs fun p a => f (p, a)) (uni_getA ban ms xs) (G := fun b f => f (b.1, .v x :: b.2)) fun b => .ret _
  | .d sh :: ms, x :: xs => by
    simp only [getA]
    exact Uni.bind (F := fun f => viewRO ban sh x fun p d => f (p, d)) (uni_view ban sh x) (G := fun a f => getA ban ms xs fun p' b => f (a.1 ++ p', .d sh a.2 :: b)) fun a =>
      Uni.bind (F := fun f => getA ban ms xs fun p a => f (p, a)) (uni_getA ban ms xs) (G := fun b f => f (a.1 ++ b.1, .d sh a.2 :: b.2)) fun b => .ret _
  | .m :: ms, x :: xs => by
    simp only [getA]
    cases x <;> try exact .fail
    case np => exact Uni.bind (F := fun f => getA ban ms xs fun p a => f (p, a)) (uni_getA ban ms xs) (G := fun b f => f (b.1, .v .np :: b.2)) fun b => .ret _
    case p key c =>
      cases c with
      | succ c => exact .fail
      | zero =>
        refine .get _ fun b => ?_
        match b with
        | some .world => exact .fail
        | some .gone => exact .fail
        | none => exact .fail
        | some (.segs true l) => exact .fail
        | some (.segs false l) => exact Uni.bind (F := fun f => getA ban ms xs fun p a => f (p, a)) (uni_getA ban ms xs) (G := fun b f => f (b.1, .m l :: b.2)) fun b => .ret _
  | .o :: ms, x :: xs => by
    simp only [getA]
    cases x <;> try exact .fail
    case nsl => exact Uni.bind (F := fun f => getA ban ms xs fun p a => f (p, a)) (uni_getA ban ms xs) (G := fun b f => f (b.1, .v .nsl :: b.2)) fun b => .ret _
    case sl key c est off len =>
      show Uni fun f => (match (SV.sl key c est off len) with
        | .sl key 0 est ⟨true, .ofNat 0⟩ len => _
        | .nsl => _
        | _ => _)
      split
      · rename_i key' est' len' h
        refine .get _ fun b => ?_
        match b with
        | some .world => exact .fail
        | some .gone => exact .fail
        | none => exact .fail
        | some (.segs true l) => exact .fail
        | some (.segs false []) => exact .fail
        | some (.segs false (_ :: _ :: _)) => exact .fail
        | some (.segs false [g]) =>
          simp only
          cases rowCon g with
          | none => exact .fail
          | some q =>
            simp only
            cases Nat.beq est' (conSize q) with
            | false => exact .fail
            | true => exact Uni.bind (F := fun f => getA ban ms xs fun p a => f (p, a)) (uni_getA ban ms xs) (G := fun b f => f ((len'.z = ((conLen q : Nat) : Int)) :: b.1, .o q :: b.2)) fun b => .ret _
      · rename_i h; cases h
      · exact .fail

section
variable {P : Program}

/-- A contract's answers, told by other contracts of the same function. -/
theorem gen_weaken {gh : Heap} {f : FuncId} {ms : List Md} {spec : List AV → Option (List Prop × List RV × List (Option (List Seg)))}
    (h : ∀ av p rvs fin, spec av = some (p, rvs, fin) → AllP p → ∃ spec' p', CallOk P gh f (genCtr ms spec') ∧ spec' av = some (p', rvs, fin) ∧ AllP p') : CallOk P gh f (genCtr ms spec) := by
  intro stamp args H rs rs' d vs w0 M ρ w hG hc hp hD hm
  obtain ⟨g, hg⟩ := uni_getA (ownKeys ms args) ms args
  have run : ∀ spec : List AV → Option (List Prop × List RV × List (Option (List Seg))), genCtr ms spec stamp args = (match nodupN (ownKeys ms args) with
      | true => g.bind (fun x => match spec x.2 with
        | some (p', rvs, fin) => (match finW (ownKeys ms args) fin, oneFr rvs && Nat.ble fin.length 100 with
          | some ws, true => (match frOf rvs with
            | none => .ret ⟨x.1 ++ p', resOf stamp rvs, ws, true⟩
            | some l => .get stamp fun b => (match b with
              | none => .ret ⟨x.1 ++ p', resOf stamp rvs, (stamp, .segs false l) :: ws, true⟩
              | some _ => .fail))
          | _, _ => .fail)
        | none => .fail)
      | false => .fail) := fun spec => by
    unfold genCtr
    simp only
    cases nodupN (ownKeys ms args) with
    | false => rfl
    | true => exact hg fun x => match spec x.2 with
        | some (p', rvs, fin) => (match finW (ownKeys ms args) fin, oneFr rvs && Nat.ble fin.length 100 with
          | some ws, true => (match frOf rvs with
            | none => .ret ⟨x.1 ++ p', resOf stamp rvs, ws, true⟩
            | some l => .get stamp fun b => (match b with
              | none => .ret ⟨x.1 ++ p', resOf stamp rvs, (stamp, .segs false l) :: ws, true⟩
              | some _ => .fail))
          | _, _ => .fail)
        | none => .fail
  rw [run] at hc
  cases hn : nodupN (ownKeys ms args) with
  | false => rw [hn] at hc; simp [RP.run] at hc
  | true =>
    rw [hn] at hc
    simp only [RP.run_bind] at hc
    cases hr : g.run H rs with
    | none => rw [hr] at hc; cases hc
    | some pa =>
      obtain ⟨⟨p, av⟩, rs1⟩ := pa
      rw [hr] at hc
      simp only at hc
      cases hs : spec av with
      | none => rw [hs] at hc; simp [RP.run] at hc
      | some t =>
        obtain ⟨p', rvs, fin⟩ := t
        rw [hs] at hc
        simp only at hc
        have hpp : AllP p' := by
          split at hc
          · split at hc
            · have e := run_ret hc; subst e; exact (AllP.append (l := p) (r := p') hp).2
            · simp only [RP.run] at hc
              split at hc
              · have e := run_ret hc; subst e; exact (AllP.append (l := p) (r := p') hp).2
              · simp [RP.run] at hc
          · simp [RP.run] at hc
        obtain ⟨spec', p'', hok, hs', hp''⟩ := h av p' rvs fin hs hpp
        have happ : ∀ a b : List Prop, AllP a → AllP b → AllP (a ++ b) := by
          intro a b ha hb
          induction a with
          | nil => exact hb
          | cons x r ih => exact ⟨ha.1, ih ha.2⟩
        have hrun : (genCtr ms spec' stamp args).run H rs = some (⟨p ++ p'', d.v, d.ws, d.gen⟩, rs') ∧ AllP p := by
          rw [run, hn]
          simp only [RP.run_bind, hr, hs']
          split at hc
          · rename_i ws e1 e2
            split at hc
            · rename_i e3
              have e := run_ret hc
              simp only [RP.run, Option.some.injEq, Prod.mk.injEq] at hc
              subst e
              exact ⟨by simp only [RP.run, hc.2], (AllP.append (l := p) (r := p') hp).1⟩
            · rename_i l e3
              simp only [RP.run] at hc ⊢
              split at hc
              · rename_i e4
                have e := run_ret hc
                simp only [RP.run, Option.some.injEq, Prod.mk.injEq] at hc
                subst e
                exact ⟨by simp only [RP.run, hc.2], (AllP.append (l := p) (r := p') hp).1⟩
              · simp [RP.run] at hc
          · simp [RP.run] at hc
        have hfin := hok stamp args H rs rs' ⟨p ++ p'', d.v, d.ws, d.gen⟩ vs w0 M ρ w hG hrun.1 (happ _ _ hrun.2 hp'') hD hm
        exact hfin

end
end Go.Gx

/- The root of a tree. -/
namespace Go.Gx
open Go.Proofs Go.Sp
set_option linter.unusedVariables false
set_option maxRecDepth 100000

def ΓR (m : Nat) : Tab := ⟨tys, (35, genCtr [.d (.l (.ints .u8))] (rootG m)) :: ΓL.ctr, [0, 2], gh⟩
def vc35 (m : Nat) (d : RO) (K : List RV → List (Option (List Seg)) → Prop) (Q : Nat → List Pv → Prop) : Prop := fnVcG 0 (ΓR m) Tryd.f35 [] [.ro 490 (.l (.ints .u8)) d] (gh ++ (490, .world) :: []) K Q
theorem vc35_eq : ∀ (m : Nat) (d : RO) (K : List RV → List (Option (List Seg)) → Prop) (Q : Nat → List Pv → Prop), vc35 m d K Q = (((((roX d).length : Int) == (0 : Int)) = true → Need ((0 : Int) ≤ (1152921504606846976 : Int)) ∧ ∀ (x1 : List Int), x1 = sha (roJ (RO.r [])) → x1.length = (64 : Nat) → AllR IntKind.u8 x1 → K [RV.v (SV.arr IntKind.u8 (64 : Nat) false x1)] []) ∧ ((((roX d).length : Int) == (0 : Int)) = false → ((((roX d).length : Int) == (1 : Int)) = true → Need ((0 : Int) ≤ (0 : Int) ∧ (0 : Int) < ((roX d).length : Int)) ∧ Need ((1 : Int) ≤ (1 : Int)) ∧ Need (↑(roJ (RO.r [RO.l (List.take (1 : Nat) (List.drop (0 : Nat) [(0 : Int)])), roN d (0 : Nat)])).length ≤ (1152921504606846976 : Int)) ∧ ∀ (x2 : List Int), x2 = sha (roJ (RO.r [RO.l (List.take (1 : Nat) (List.drop (0 : Nat) [(0 : Int)])), roN d (0 : Nat)])) → x2.length = (64 : Nat) → AllR IntKind.u8 x2 → K [RV.v (SV.arr IntKind.u8 (64 : Nat) false x2)] []) ∧ ((((roX d).length : Int) == (1 : Int)) = false → ∀ (x3 : Int), x3 = IntKind.i64.wrap (((roX d).length : Int) - (1 : Int)) → InR IntKind.i64 x3 → ∀ (x4 : Int), x4 = IntKind.u64.wrap x3 → InR IntKind.u64 x4 → ∀ (x5 : Int), x5 = lenI x4 → InR IntKind.i64 x5 → ∀ (x6 : Int), x6 = IntKind.i64.wrap (x5 - (1 : Int)) → InR IntKind.i64 x6 → Need ((0 : Int) ≤ x6) ∧ ∀ (x7 : Int), x7 = shlI IntKind.i64 (1 : Int) x6 → InR IntKind.i64 x7 → Need ((0 : Int) ≤ (0 : Int) ∧ (0 : Int) ≤ x7 ∧ x7 ≤ ((roX d).length : Int)) ∧ Need ((roX (RO.r (List.take (x7 - (0 : Int)).toNat (List.drop (0 : Nat) (roX d))))).length < m) ∧ Need (∀ (x : RO), x ∈ roX (RO.r (List.take (x7 - (0 : Int)).toNat (List.drop (0 : Nat) (roX d)))) → ((roL x).length : Int) ≤ (576460752303423488 : Int)) ∧ ∀ (x8 : List Int), x8 = rootL (List.map roL (roX (RO.r (List.take (x7 - (0 : Int)).toNat (List.drop (0 : Nat) (roX d)))))) → x8.length = (64 : Nat) → AllR IntKind.u8 x8 → Need ((0 : Int) ≤ x7 ∧ x7 ≤ ((roX d).length : Int) ∧ ((roX d).length : Int) ≤ ((roX d).length : Int)) ∧ Need ((roX (RO.r (List.take (((roX d).length : Int) - x7).toNat (List.drop x7.toNat (roX d))))).length < m) ∧ Need (∀ (x : RO), x ∈ roX (RO.r (List.take (((roX d).length : Int) - x7).toNat (List.drop x7.toNat (roX d)))) → ((roL x).length : Int) ≤ (576460752303423488 : Int)) ∧ ∀ (x9 : List Int), x9 = rootL (List.map roL (roX (RO.r (List.take (((roX d).length : Int) - x7).toNat (List.drop x7.toNat (roX d)))))) → x9.length = (64 : Nat) → AllR IntKind.u8 x9 → Need ((1 : Int) ≤ (1 : Int)) ∧ Need (↑(roJ (RO.r [RO.l (List.take (1 : Nat) (List.drop (0 : Nat) [(1 : Int)])), RO.l (List.take (64 : Nat) (List.drop (0 : Nat) x8)), RO.l (List.take (64 : Nat) (List.drop (0 : Nat) x9))])).length ≤ (1152921504606846976 : Int)) ∧ ∀ (x10 : List Int), x10 = sha (roJ (RO.r [RO.l (List.take (1 : Nat) (List.drop (0 : Nat) [(1 : Int)])), RO.l (List.take (64 : Nat) (List.drop (0 : Nat) x8)), RO.l (List.take (64 : Nat) (List.drop (0 : Nat) x9))])) → x10.length = (64 : Nat) → AllR IntKind.u8 x10 → K [RV.v (SV.arr IntKind.u8 (64 : Nat) false x10)] []))) := by
  intros
  kernel_rfl

theorem rootN_len : ∀ (m : Nat) (ls : List (List Int)), (rootN m ls).length ≤ 64 → True := fun _ _ _ => trivial
theorem rootN_mono : ∀ (m n : Nat) (ls : List (List Int)), ls.length < m → ls.length < n → rootN m ls = rootN n ls
  | 0, n, ls, h, _ => by omega
  | m + 1, 0, ls, _, h => by omega
  | m + 1, n + 1, ls, h1, h2 => by
    match ls with
    | [] => rfl
    | [a] => rfl
    | a :: b :: r =>
      have hl : (a :: b :: r).length = r.length + 2 := rfl
      have hne : (a :: b :: r).length - 1 ≠ 0 := by omega
      have e1 : 2 ^ ((a :: b :: r).length - 1).log2 ≤ (a :: b :: r).length - 1 := (Nat.le_log2 hne).1 (Nat.le_refl _)
      have e2 : 0 < 2 ^ ((a :: b :: r).length - 1).log2 := Nat.pow_pos (by omega)
      show sha (1 :: (rootN m _ ++ rootN m _)) = sha (1 :: (rootN n _ ++ rootN n _))
      rw [rootN_mono m n _ (by rw [List.length_take]; omega) (by rw [List.length_take]; omega), rootN_mono m n _ (by rw [List.length_drop]; omega) (by rw [List.length_drop]; omega)]
theorem rootL_nil : rootL [] = sha [] := rfl
theorem rootL_one (a : List Int) : rootL [a] = sha (0 :: a) := rfl
theorem rootL_two (ls : List (List Int)) (h : 2 ≤ ls.length) : rootL ls = sha (1 :: (rootL (ls.take (2 ^ (ls.length - 1).log2)) ++ rootL (ls.drop (2 ^ (ls.length - 1).log2)))) := by
  have hne : ls.length - 1 ≠ 0 := by omega
  have e1 : 2 ^ (ls.length - 1).log2 ≤ ls.length - 1 := (Nat.le_log2 hne).1 (Nat.le_refl _)
  have e2 : 0 < 2 ^ (ls.length - 1).log2 := Nat.pow_pos (by omega)
  have e : rootL ls = sha (1 :: (rootN ls.length (ls.take (2 ^ (ls.length - 1).log2)) ++ rootN ls.length (ls.drop (2 ^ (ls.length - 1).log2)))) := by
    match ls, h with
    | a :: b :: r, _ => rfl
  rw [e]
  unfold rootL
  rw [rootN_mono ls.length ((ls.take (2 ^ (ls.length - 1).log2)).length + 1) _ (by rw [List.length_take]; omega) (by omega), rootN_mono ls.length ((ls.drop (2 ^ (ls.length - 1).log2)).length + 1) _ (by rw [List.length_drop]; omega) (by omega)]

theorem roJ_r (xs : List RO) : roJ (.r xs) = (xs.map roL).flatten := rfl
theorem roX_r (xs : List RO) : roX (.r xs) = xs := rfl
theorem roL_l (l : List Int) : roL (.l l) = l := rfl
theorem rootG_ok : ∀ m, CallOk Tryd.prog gh 35 (genCtr [.d (.l (.ints .u8))] (rootG m))
  | 0 => by
    refine call_gen (fn := Tryd.f35) ΓL_ok rfl glow rfl (by kernel_rfl) (by kernel_rfl) _ (rootG 0) fun av p rvs fin hs hp hf => ?_
    unfold rootG at hs
    split at hs
    · rename_i d
      simp only [Option.some.injEq, Prod.mk.injEq] at hs
      obtain ⟨rfl, rfl, rfl⟩ := hs
      exact absurd hp.1 (Nat.not_lt_zero _)
    · cases hs
  | m + 1 => by
    have hΓ : TabOk Tryd.prog (ΓR m) := ΓL_ok.cons (rootG_ok m)
    refine call_gen (fn := Tryd.f35) hΓ rfl glow rfl (by kernel_rfl) (by kernel_rfl) _ (rootG (m + 1)) fun av p rvs fin hs hp hf => ?_
    unfold rootG at hs
    split at hs
    · rename_i d
      simp only [Option.some.injEq, Prod.mk.injEq] at hs
      obtain ⟨rfl, rfl, rfl⟩ := hs
      obtain ⟨hm, hx, _⟩ := hp
      obtain ⟨⟨_, hlen⟩, _⟩ := hf
      refine ⟨[.ro 490 (.l (.ints .u8)) d], [], [], _, ⟨rfl, trivial⟩, Nat.le_of_ble_eq_true (by kernel_rfl), vcG_noloops ?_⟩
      show vc35 m d _ _
      rw [vc35_eq]
      simp only [roJ_r, roX_r, List.map_cons, List.map_nil, List.flatten_cons, List.flatten_nil, List.append_nil, roL_l, List.drop_zero]
      generalize hxs : roX d = xs at *
      have hmap : (xs.map roL).length = xs.length := by simp
      refine ⟨fun h0 => ?_, fun h0 => ⟨fun h1 => ?_, fun h1 => ?_⟩⟩
      · have h0 : xs.length = 0 := by simpa using h0
        obtain rfl := List.eq_nil_of_length_eq_zero h0
        refine ⟨need_of (by omega), ?_⟩
        intro x1 e1 _ _
        exact ⟨⟨e1, trivial⟩, trivial⟩
      · have h1 : xs.length = 1 := by
          have h1 : ((xs.length : Nat) : Int) = 1 := by simpa using h1
          omega
        obtain ⟨a, rfl⟩ := List.length_eq_one_iff.1 h1
        have ha := hx a (by simp)
        have hr : roN d 0 = a := by unfold roN; rw [hxs]; rfl
        rw [hr]
        refine ⟨need_of (by simp), need_of (by omega), need_of (by simp; omega), ?_⟩
        intro x2 e2 _ _
        exact ⟨⟨e2, trivial⟩, trivial⟩
      · have h0 : xs.length ≠ 0 := by simpa using h0
        have h1 : xs.length ≠ 1 := by
          intro h; rw [h] at h1; simp at h1
        have h2 : 2 ≤ xs.length := by omega
        have hne : xs.length - 1 ≠ 0 := by omega
        have hk1 : 2 ^ (xs.length - 1).log2 ≤ xs.length - 1 := (Nat.le_log2 hne).1 (Nat.le_refl _)
        have hk2 : 0 < 2 ^ (xs.length - 1).log2 := Nat.pow_pos (by omega)
        have hlog : (xs.length - 1).log2 < 63 := (Nat.log2_lt hne).2 (by omega)
        have hv := rootL_two (xs.map roL) (by rw [hmap]; exact h2)
        rw [hmap] at hv
        intro x3 e3 _
        rw [wrap_i64 (by omega)] at e3
        intro x4 e4 _
        have e4 : x4 = x3 := by rw [e4]; exact wrap_of_InR (by simp only [InR]; omega)
        intro x5 e5 _
        have e5 : x5 = (((xs.length - 1).log2 : Nat) : Int) + 1 := by
          rw [e5, e4, e3]
          unfold lenI
          rw [if_neg (by omega)]
          congr 2
          congr 1
          omega
        intro x6 e6 _
        rw [e5, wrap_i64 (by omega)] at e6
        have e6 : x6 = (((xs.length - 1).log2 : Nat) : Int) := by omega
        refine ⟨need_of (by omega), ?_⟩
        intro x7 e7 _
        have e7 : x7 = ((2 ^ (xs.length - 1).log2 : Nat) : Int) := by
          rw [e7, e6]
          unfold shlI
          rw [Int.toNat_natCast, show min (xs.length - 1).log2 IntKind.i64.bits = (xs.length - 1).log2 by simp [IntKind.bits]; omega, Int.one_mul]
          rw [wrap_i64]
          · rw [Int.natCast_pow]; rfl
          · have : ((2 ^ (xs.length - 1).log2 : Nat) : Int) = (2 : Int) ^ (xs.length - 1).log2 := by rw [Int.natCast_pow]; rfl
            omega
        generalize 2 ^ (xs.length - 1).log2 = k at *
        have hx7 : x7.toNat = k := by omega
        have ht : (x7 - 0).toNat = k := by omega
        have hdl : ((xs.length : Int) - x7).toNat = xs.length - k := by omega
        rw [ht, hdl, hx7]
        have htk : (xs.drop k).take (xs.length - k) = xs.drop k := List.take_of_length_le (by rw [List.length_drop]; omega)
        rw [htk]
        refine ⟨need_of (by omega), need_of (by rw [List.length_take]; omega), need_of (fun x hx' => hx x (List.mem_of_mem_take hx')), ?_⟩
        intro x8 e8 h8 _
        refine ⟨need_of (by omega), need_of (by rw [List.length_drop]; omega), need_of (fun x hx' => hx x (List.mem_of_mem_drop hx')), ?_⟩
        intro x9 e9 h9 _
        have t8 : x8.take 64 = x8 := List.take_of_length_le (by omega)
        have t9 : x9.take 64 = x9 := List.take_of_length_le (by omega)
        rw [t8, t9]
        refine ⟨need_of (by omega), need_of (by simp; omega), ?_⟩
        intro x10 e10 _ _
        refine ⟨⟨?_, trivial⟩, trivial⟩
        show x10 = rootL (xs.map roL)
        rw [e10, hv, ← List.map_take, ← List.map_drop, ← e8, ← e9]
        rfl
    · cases hs
def rootF : List AV → Option (List Prop × List RV × List (Option (List Seg)))
  | [.d (.l (.ints .u8)) d] => some ([∀ x ∈ roX d, ((roL x).length : Int) ≤ 576460752303423488], [.v (.arr .u8 64 false (rootL ((roX d).map roL)))], [])
  | _ => none
theorem rootF_ok : CallOk Tryd.prog gh 35 (genCtr [.d (.l (.ints .u8))] rootF) := by
  refine gen_weaken fun av p rvs fin hs hp => ?_
  unfold rootF at hs
  split at hs
  · rename_i d
    simp only [Option.some.injEq, Prod.mk.injEq] at hs
    obtain ⟨rfl, rfl, rfl⟩ := hs
    exact ⟨_, _, rootG_ok ((roX d).length + 1), rfl, Nat.lt_succ_self _, hp.1, trivial⟩
  · cases hs
def Γ11 : Tab := ⟨tys, (35, genCtr [.d (.l (.ints .u8))] rootF) :: ΓL.ctr, [0, 2], gh⟩
theorem Γ11_ok : TabOk Tryd.prog Γ11 := ΓL_ok.cons rootF_ok
end Go.Gx

/- The keyed hash. -/
namespace Go.Sp
open Go.Gx
/-- A key of one block. -/
def padK (k : List Int) : List Int := splice (List.replicate 128 0) 0 (List.take 128 k)
def padL (k : List Int) : List Int := if 128 < k.length then padK (sha k) else padK k
def xoL (c : Int) (l : List Int) : List Int := l.map (fun x => xorI .u8 x c)
/-- The keyed hash of bytes. -/
def macL (k b : List Int) : List Int := sha (xoL 92 (padL k) ++ sha (xoL 54 (padL k) ++ b))
end Go.Sp
namespace Go.Gx
open Go.Proofs Go.Sp
set_option linter.unusedVariables false
set_option maxRecDepth 100000

def L30 : Loops := [(8, ⟨[.any, .ro 490 (.l (.ints .u8)) (.r []), .any, .any, .p 1000 0, .p 1001 0, .p 1002 0] ++ reps .any 17 ++ [.i .i64 ⟨false, 0⟩] ++ reps .any 33, gh ++ [(490, .world), (1000, .segs false [.arr .u8 64 false []]), (1001, .segs false [.arr .u8 128 false []]), (1002, .segs false [.arr .u8 128 false []])], 2000⟩),
  (16, ⟨[.any, .any, .any, .any, .p 1000 0, .any, .p 1001 0, .any, .any, .p 1002 0] ++ reps .any 32 ++ [.ro 490 (.l (.ints .u8)) (.r []), .i .i64 ⟨false, 0⟩, .i .i64 ⟨false, 0⟩] ++ reps .any 13, gh ++ [(490, .world), (1000, .segs false [.arr .u8 64 false []]), (1001, .segs false [.arr .u8 128 false []]), (1002, .segs false (R23 [] [] 0 false))], 2000⟩)]
def vc30 (k d : RO) (K : List RV → List (Option (List Seg)) → Prop) (Q : Nat → List Pv → Prop) : Prop := fnVcG 0 Γ11 Tryd.f30 L30 [.ro 490 (.ints .u8) k, .ro 490 (.l (.ints .u8)) d] (gh ++ (490, .world) :: []) K Q
def lc30a (d : RO) (i : Int) (g z a b : List Int) (K : List RV → List (Option (List Seg)) → Prop) (Q : Nat → List Pv → Prop) : Prop := loopVcG 0 Γ11 Tryd.f30 L30 8 [.ro d, .z i, .l g, .l z, .l a, .l b] K Q
def lc30b (d : RO) (n i : Int) (g z b ws bl : List Int) (c : Int) (m : Bool) (K : List RV → List (Option (List Seg)) → Prop) (Q : Nat → List Pv → Prop) : Prop := loopVcG 0 Γ11 Tryd.f30 L30 16 [.ro d, .z n, .z i, .l g, .l z, .l b, .l ws, .l bl, .z c, .b m] K Q
theorem vc30_eq : ∀ (k d : RO) (K : List RV → List (Option (List Seg)) → Prop) (Q : Nat → List Pv → Prop), vc30 k d K Q = ((decide (((roL k).length : Int) > (128 : Int)) = true → Need (((roJ (RO.r [k])).length : Int) ≤ (1152921504606846976 : Int)) ∧ ∀ (x1 : List Int), x1 = sha (roJ (RO.r [k])) → x1.length = (64 : Nat) → AllR IntKind.u8 x1 → Need ((128 : Int) ≤ (128 : Int)) ∧ ∀ (x2 : List Int), x2 = splice (List.replicate (128 : Nat) (0 : Int)) (0 : Nat) (List.take (128 : Nat) (List.take (64 : Nat) (List.drop (0 : Nat) x1))) → x2.length = (128 : Nat) → AllR IntKind.u8 x2 → ∀ (x3 : Int), x3 = min ↑(List.take (64 : Nat) (List.drop (0 : Nat) x1)).length (128 : Int) → InR IntKind.i64 x3 → Same Tryd.f30 (8 : Nat) (itemsOf Tryd.f30 (8 : Nat)) ∧ Q (8 : Nat) [Pv.ro d, Pv.z (0 : Int), Pv.l K80, Pv.l (List.replicate (64 : Nat) (0 : Int)), Pv.l x2, Pv.l x2]) ∧ (decide (((roL k).length : Int) > (128 : Int)) = false → Need ((128 : Int) ≤ (128 : Int)) ∧ ∀ (x4 : List Int), x4 = splice (List.replicate (128 : Nat) (0 : Int)) (0 : Nat) (List.take (128 : Nat) (roL k)) → x4.length = (128 : Nat) → AllR IntKind.u8 x4 → ∀ (x5 : Int), x5 = min ((roL k).length : Int) (128 : Int) → InR IntKind.i64 x5 → Same Tryd.f30 (8 : Nat) (itemsOf Tryd.f30 (8 : Nat)) ∧ Q (8 : Nat) [Pv.ro d, Pv.z (0 : Int), Pv.l K80, Pv.l (List.replicate (64 : Nat) (0 : Int)), Pv.l x4, Pv.l x4])) := by
  intros
  kernel_rfl
theorem lc30a_eq : ∀ (d : RO) (i : Int) (g z a b : List Int) (K : List RV → List (Option (List Seg)) → Prop) (Q : Nat → List Pv → Prop), lc30a d i g z a b K Q = ((decide (i < (128 : Int)) = true → Need ((0 : Int) ≤ i ∧ i < (128 : Int)) ∧ Need ((0 : Int) ≤ i ∧ i < (128 : Int)) ∧ ∀ (x1 : Int), x1 = a.getD i.toNat (0 : Int) → InR IntKind.u8 x1 → ∀ (x2 : Int), x2 = xorI IntKind.u8 x1 (54 : Int) → InR IntKind.u8 x2 → Need ((0 : Int) ≤ i ∧ i < (128 : Int)) ∧ Need ((0 : Int) ≤ i ∧ i < (128 : Int)) ∧ ∀ (x3 : List Int), x3 = a.set i.toNat x2 → x3.length = (128 : Nat) → AllR IntKind.u8 x3 → Need ((0 : Int) ≤ i ∧ i < (128 : Int)) ∧ Need ((0 : Int) ≤ i ∧ i < (128 : Int)) ∧ ∀ (x4 : Int), x4 = b.getD i.toNat (0 : Int) → InR IntKind.u8 x4 → ∀ (x5 : Int), x5 = xorI IntKind.u8 x4 (92 : Int) → InR IntKind.u8 x5 → Need ((0 : Int) ≤ i ∧ i < (128 : Int)) ∧ Need ((0 : Int) ≤ i ∧ i < (128 : Int)) ∧ ∀ (x6 : List Int), x6 = b.set i.toNat x5 → x6.length = (128 : Nat) → AllR IntKind.u8 x6 → ∀ (x7 : Int), x7 = IntKind.i64.wrap (i + (1 : Int)) → InR IntKind.i64 x7 → Same Tryd.f30 (8 : Nat) (itemsOf Tryd.f30 (8 : Nat)) ∧ Q (8 : Nat) [Pv.ro d, Pv.z x7, Pv.l g, Pv.l z, Pv.l x3, Pv.l x6]) ∧ (decide (i < (128 : Int)) = false → ∀ (x8 : Int), x8 = (7640891576956012808 : Int) → InR IntKind.u64 x8 → ∀ (x9 : Int), x9 = (13503953896175478587 : Int) → InR IntKind.u64 x9 → ∀ (x10 : Int), x10 = (4354685564936845355 : Int) → InR IntKind.u64 x10 → ∀ (x11 : Int), x11 = (11912009170470909681 : Int) → InR IntKind.u64 x11 → ∀ (x12 : Int), x12 = (5840696475078001361 : Int) → InR IntKind.u64 x12 → ∀ (x13 : Int), x13 = (11170449401992604703 : Int) → InR IntKind.u64 x13 → ∀ (x14 : Int), x14 = (2270897969802886507 : Int) → InR IntKind.u64 x14 → ∀ (x15 : Int), x15 = (6620516959819538809 : Int) → InR IntKind.u64 x15 → ∀ (x16 : List Int), x16 = List.replicate (128 : Nat) (0 : Int) → x16.length = (128 : Nat) → AllR IntKind.u8 x16 → Need (true = true → (0 : Int) ≤ (0 : Int) ∧ (0 : Int) ≤ (1152921504606846976 : Int)) ∧ ∀ (x17 : List Int), x17 = (wr true { ws := [x8, x9, x10, x11, x12, x13, x14, x15], bl := x16, n := (0 : Int) } (roL (RO.l (List.take (128 : Nat) (List.drop (0 : Nat) a))))).ws → x17.length = (8 : Nat) → AllR IntKind.u64 x17 → ∀ (x18 : List Int), x18 = (wr true { ws := [x8, x9, x10, x11, x12, x13, x14, x15], bl := x16, n := (0 : Int) } (roL (RO.l (List.take (128 : Nat) (List.drop (0 : Nat) a))))).bl → x18.length = (128 : Nat) → AllR IntKind.u8 x18 → ∀ (x19 : Int), x19 = (wr true { ws := [x8, x9, x10, x11, x12, x13, x14, x15], bl := x16, n := (0 : Int) } (roL (RO.l (List.take (128 : Nat) (List.drop (0 : Nat) a))))).n → InR IntKind.i64 x19 → Same Tryd.f30 (16 : Nat) (itemsOf Tryd.f30 (16 : Nat)) ∧ Q (16 : Nat) [Pv.ro d, Pv.z ((roX d).length : Int), Pv.z (0 : Int), Pv.l g, Pv.l z, Pv.l b, Pv.l x17, Pv.l x18, Pv.z x19, Pv.b true])) := by
  intros
  kernel_rfl
theorem lc30b_eq : ∀ (d : RO) (n i : Int) (g z b ws bl : List Int) (c : Int) (m : Bool) (K : List RV → List (Option (List Seg)) → Prop) (Q : Nat → List Pv → Prop), lc30b d n i g z b ws bl c m K Q = ((decide (i < n) = true → Need ((0 : Int) ≤ i ∧ i < ((roX d).length : Int)) ∧ Need (m = true → (0 : Int) ≤ c ∧ c ≤ (1152921504606846976 : Int)) ∧ ∀ (x1 : List Int), x1 = (wr m { ws := ws, bl := bl, n := c } (roL (roN d i.toNat))).ws → x1.length = (8 : Nat) → AllR IntKind.u64 x1 → ∀ (x2 : List Int), x2 = (wr m { ws := ws, bl := bl, n := c } (roL (roN d i.toNat))).bl → x2.length = (128 : Nat) → AllR IntKind.u8 x2 → ∀ (x3 : Int), x3 = (wr m { ws := ws, bl := bl, n := c } (roL (roN d i.toNat))).n → InR IntKind.i64 x3 → ∀ (x4 : Int), x4 = IntKind.i64.wrap (i + (1 : Int)) → InR IntKind.i64 x4 → Same Tryd.f30 (16 : Nat) (itemsOf Tryd.f30 (16 : Nat)) ∧ Q (16 : Nat) [Pv.ro d, Pv.z n, Pv.z x4, Pv.l g, Pv.l z, Pv.l b, Pv.l x1, Pv.l x2, Pv.z x3, Pv.b m]) ∧ (decide (i < n) = false → Need ((0 : Int) ≤ c) ∧ ∀ (x5 : List Int), x5 = ws → x5.length = (8 : Nat) → AllR IntKind.u64 x5 → ∀ (x6 : List Int), x6 = bl → x6.length = (128 : Nat) → AllR IntKind.u8 x6 → ∀ (x7 : Int), x7 = c → InR IntKind.i64 x7 → ∀ (x8 : List Int), x8 = sumL ws bl c m → x8.length = (64 : Nat) → AllR IntKind.u8 x8 → Need (↑(roJ (RO.r [RO.l (List.take (128 : Nat) (List.drop (0 : Nat) b)), RO.l (List.take (64 : Nat) (List.drop (0 : Nat) x8))])).length ≤ (1152921504606846976 : Int)) ∧ ∀ (x9 : List Int), x9 = sha (roJ (RO.r [RO.l (List.take (128 : Nat) (List.drop (0 : Nat) b)), RO.l (List.take (64 : Nat) (List.drop (0 : Nat) x8))])) → x9.length = (64 : Nat) → AllR IntKind.u8 x9 → K [RV.v (SV.arr IntKind.u8 (64 : Nat) false x9)] [])) := by
  intros
  kernel_rfl

theorem part_get (f : Int → Int) (p : List Int) (i : Nat) (h : i < p.length) : ((p.take i).map f ++ p.drop i).getD i 0 = p.getD i 0 := by
  have h1 : ((p.take i).map f).length = i := by rw [List.length_map, List.length_take]; omega
  rw [List.getD_eq_getElem?_getD, List.getD_eq_getElem?_getD, List.getElem?_append_right (by omega), h1, Nat.sub_self, List.getElem?_drop]
  rfl
theorem part_set (f : Int → Int) (p : List Int) (i : Nat) (h : i < p.length) : ((p.take i).map f ++ p.drop i).set i (f (p.getD i 0)) = (p.take (i + 1)).map f ++ p.drop (i + 1) := by
  have h1 : ((p.take i).map f).length = i := by rw [List.length_map, List.length_take]; omega
  rw [List.set_append_right _ _ (by omega), h1, Nat.sub_self, List.drop_eq_getElem_cons h, List.set_cons_zero, List.take_add_one, List.getElem?_eq_getElem h, List.map_append, List.append_assoc]
  simp [List.getD, h]
theorem padL_len (k : List Int) : (padL k).length = 128 := by
  unfold padL
  split
  all_goals
    unfold padK splice
    simp only [List.take_zero, List.nil_append, Nat.zero_add, List.length_append, List.length_take, List.length_drop, List.length_replicate]
    omega
theorem sha_one (d : RO) : roJ (.r [d]) = roL d := by
  simp only [roJ_r, List.map_cons, List.map_nil, List.flatten_cons, List.flatten_nil, List.append_nil]
theorem sha_pair (a b : List Int) : roJ (.r [.l a, .l b]) = a ++ b := by
  simp only [roJ_r, List.map_cons, List.map_nil, List.flatten_cons, List.flatten_nil, List.append_nil, roL_l]
def macF (p : List Int) (d : RO) (j : Nat) : HS := feed (xoL 54 p ++ (((roX d).take j).map roL).flatten) st0
theorem macF_n (p : List Int) (d : RO) (j : Nat) (hp : p.length = 128) : (macF p d j).n = 128 + (((((roX d).take j).map roL).flatten).length : Int) := by
  unfold macF
  rw [feed_st0, List.length_append]
  unfold xoL
  rw [List.length_map, hp]; push_cast; rfl
def inv30 (p : List Int) (d : RO) (key : Nat) (ps : List Pv) (mm : Nat) : Prop :=
  (key = 8 ∧ ∃ i : Nat, i ≤ 128 ∧ ps = [.ro d, .z (i : Int), .l K80, .l (List.replicate 64 0), .l ((p.take i).map (fun x => xorI .u8 x 54) ++ p.drop i), .l ((p.take i).map (fun x => xorI .u8 x 92) ++ p.drop i)] ∧ mm = (roX d).length + 1 + (128 - i)) ∨
  (key = 16 ∧ ∃ j : Nat, j ≤ (roX d).length ∧ ps = [.ro d, .z ((roX d).length : Int), .z (j : Int), .l K80, .l (List.replicate 64 0), .l (xoL 92 p), .l (macF p d j).ws, .l (macF p d j).bl, .z (macF p d j).n, .b true] ∧ mm = (roX d).length - j)
def macG : List AV → Option (List Prop × List RV × List (Option (List Seg)))
  | [.d (.ints .u8) k, .d (.l (.ints .u8)) d] => some ([((roL k).length : Int) ≤ 1152921504606846976, ((roJ d).length : Int) + 128 ≤ 1152921504606846976], [.v (.arr .u8 64 false (macL (roL k) (roJ d)))], [])
  | _ => none
theorem macG_ok : CallOk Tryd.prog gh 30 (genCtr [.d (.ints .u8), .d (.l (.ints .u8))] macG) := by
  refine call_gen (fn := Tryd.f30) Γ11_ok rfl glow rfl (by kernel_rfl) (by kernel_rfl) _ macG fun av p rvs fin hs hp hf => ?_
  unfold macG at hs
  split at hs
  · rename_i k d
    simp only [Option.some.injEq, Prod.mk.injEq] at hs
    obtain ⟨rfl, rfl, rfl⟩ := hs
    have hk : ((roL k).length : Int) ≤ 1152921504606846976 := hp.1
    have hd : ((roJ d).length : Int) + 128 ≤ 1152921504606846976 := hp.2.1
    obtain ⟨_, ⟨_, hlen⟩, _⟩ := hf
    obtain ⟨p, hpp⟩ : ∃ p, padL (roL k) = p := ⟨_, rfl⟩
    have hpl : p.length = 128 := hpp ▸ padL_len (roL k)
    refine ⟨[.ro 490 (.ints .u8) k, .ro 490 (.l (.ints .u8)) d], [], L30, inv30 p d, ⟨rfl, rfl, trivial⟩, Nat.le_of_ble_eq_true (by kernel_rfl), ?_, ?_, ?_⟩
    · intro kk t ht g hg
      have hg : g ∈ [0, 2, 490] := hg
      simp only [List.mem_cons, List.not_mem_nil, or_false] at hg
      simp only [L30, List.mem_cons, List.not_mem_nil, or_false, Prod.mk.injEq] at ht
      obtain ⟨rfl, rfl⟩ | ⟨rfl, rfl⟩ := ht <;> rcases hg with rfl | rfl | rfl <;> exact ⟨by omega, rfl⟩
    · rintro vk t ps mm ht (⟨rfl, i, hi, rfl, rfl⟩ | ⟨rfl, j, hj, rfl, rfl⟩)
      all_goals simp only [L30, List.mem_cons, List.not_mem_nil, or_false, Prod.mk.injEq, Nat.reduceEqDiff, false_and, true_and, false_or, or_false] at ht
      · subst ht
        show lc30a d (i : Int) K80 (List.replicate 64 0) ((p.take i).map (fun x => xorI .u8 x 54) ++ p.drop i) ((p.take i).map (fun x => xorI .u8 x 92) ++ p.drop i) _ _
        rw [lc30a_eq]
        refine ⟨fun hlt => ?_, fun hge => ?_⟩
        · have hlt := of_decide_eq_true hlt
          have g1 := part_get (fun x => xorI .u8 x 54) p i (by omega)
          have s1 := part_set (fun x => xorI .u8 x 54) p i (by omega)
          have g2 := part_get (fun x => xorI .u8 x 92) p i (by omega)
          have s2 := part_set (fun x => xorI .u8 x 92) p i (by omega)
          rw [Int.toNat_natCast, g1, g2]
          refine ⟨need_of (by omega), need_of (by omega), ?_⟩
          intro x1 e1 _ x2 e2 _
          refine ⟨need_of (by omega), need_of (by omega), ?_⟩
          intro x3 e3 _ _
          refine ⟨need_of (by omega), need_of (by omega), ?_⟩
          intro x4 e4 _ x5 e5 _
          refine ⟨need_of (by omega), need_of (by omega), ?_⟩
          intro x6 e6 _ _ x7 e7 _
          rw [wrap_i64 (by omega)] at e7
          rw [e2, e1, s1] at e3
          rw [e5, e4, s2] at e6
          refine ⟨rfl, (roX d).length + 1 + (128 - (i + 1)), by omega, Or.inl ⟨rfl, i + 1, by omega, ?_, rfl⟩⟩
          rw [e3, e6, e7]
          rfl
        · have hge := of_decide_eq_false hge
          obtain rfl : i = 128 := by omega
          have hA : ∀ f : Int → Int, (p.take 128).map f ++ p.drop 128 = p.map f := fun f => by rw [List.take_of_length_le (by omega), List.drop_of_length_le (by omega), List.append_nil]
          rw [hA, hA]
          intro x8 e8 _ x9 e9 _ x10 e10 _ x11 e11 _ x12 e12 _ x13 e13 _ x14 e14 _ x15 e15 _ x16 e16 _ _
          subst e8; subst e9; subst e10; subst e11; subst e12; subst e13; subst e14; subst e15; subst e16
          refine ⟨need_of (fun _ => by omega), ?_⟩
          have hx : (xoL 54 p).length = 128 := by unfold xoL; rw [List.length_map, hpl]
          have hw : wr true ⟨[7640891576956012808, 13503953896175478587, 4354685564936845355, 11912009170470909681, 5840696475078001361, 11170449401992604703, 2270897969802886507, 6620516959819538809], List.replicate 128 0, 0⟩ (roL (.l (((p.map (fun x => xorI .u8 x 54)).drop 0).take 128))) = macF p d 0 := by
            rw [List.drop_zero, roL_l, List.take_of_length_le (by rw [List.length_map, hpl]; omega)]
            unfold wr macF
            rw [if_pos ⟨rfl, by dsimp only; rw [List.length_map, hpl]; omega⟩, List.take_zero, List.map_nil, List.flatten_nil, List.append_nil]
            rfl
          rw [hw]
          intro x17 e17 _ _ x18 e18 _ _ x19 e19 _
          subst e17; subst e18; subst e19
          exact ⟨rfl, (roX d).length - 0, by omega, Or.inr ⟨rfl, 0, by omega, rfl, rfl⟩⟩
      · subst ht
        have hn := macF_n p d j hpl
        show lc30b d ((roX d).length : Int) (j : Int) K80 (List.replicate 64 0) (xoL 92 p) (macF p d j).ws (macF p d j).bl (macF p d j).n true _ _
        rw [lc30b_eq]
        refine ⟨fun hlt => ?_, fun hge => ?_⟩
        · have hlt := of_decide_eq_true hlt
          have hjl : j < (roX d).length := by omega
          have e1 := take_succ_map (roX d) j hjl
          have e2 := flat_take_le (roX d) (j + 1)
          have e3 : (((roX d).take (j + 1)).map roL).flatten.length = (((roX d).take j).map roL).flatten.length + (roL (roN d j)).length := by rw [e1, List.length_append]; rfl
          have hT : (roJ d).length = ((roX d).map roL).flatten.length := rfl
          have hw : wr true (macF p d j) (roL (roN d (j : Int).toNat)) = macF p d (j + 1) := by
            unfold wr
            rw [Int.toNat_natCast, if_pos ⟨rfl, by rw [hn]; omega⟩]
            unfold macF
            rw [e1, ← List.append_assoc, feed_append _ (roL ((roX d).getD j (RO.r [])))]; rfl
          refine ⟨need_of (by omega), need_of (fun _ => by rw [hn]; omega), ?_⟩
          rw [show (HS.mk (macF p d j).ws (macF p d j).bl (macF p d j).n) = macF p d j from rfl, hw]
          intro x1 e1 _ _ x2 e2 _ _ x3 e3 _ x4 e4 _
          subst e1; subst e2; subst e3
          rw [wrap_i64 (by omega)] at e4
          subst e4
          exact ⟨rfl, (roX d).length - (j + 1), by omega, Or.inr ⟨rfl, j + 1, by omega, rfl, rfl⟩⟩
        · have hge := of_decide_eq_false hge
          obtain rfl : j = (roX d).length := by omega
          have hb : (xoL 92 p).length = 128 := by unfold xoL; rw [List.length_map, hpl]
          refine ⟨need_of (by rw [hn]; omega), ?_⟩
          intro x5 e5 _ _ x6 e6 _ _ x7 e7 _ x8 e8 h8 _
          rw [List.drop_zero, List.drop_zero, List.take_of_length_le (l := xoL 92 p) (by omega), List.take_of_length_le (l := x8) (by omega), sha_pair]
          refine ⟨need_of (by rw [List.length_append]; omega), ?_⟩
          intro x9 e9 _ _
          refine ⟨⟨?_, trivial⟩, trivial⟩
          show x9 = macL (roL k) (roJ d)
          rw [e9, e8]
          unfold macL macF
          rw [hpp, List.take_of_length_le (Nat.le_refl _)]
          rfl
    · show vc30 k d _ _
      rw [vc30_eq]
      refine ⟨fun h => ?_, fun h => ?_⟩
      · have h := of_decide_eq_true h
        rw [sha_one]
        refine ⟨need_of (by omega), ?_⟩
        intro x1 e1 h1 _
        refine ⟨need_of (by omega), ?_⟩
        intro x2 e2 _ _ x3 _ _
        refine ⟨rfl, _, Or.inl ⟨rfl, 0, by omega, ?_, rfl⟩⟩
        have hp2 : x2 = p := by
          rw [e2, List.drop_zero, List.take_of_length_le (l := x1) (by omega)]
          rw [← hpp]
          unfold padL
          rw [if_pos (by omega), e1]; rfl
        rw [hp2]; rfl
      · have h := of_decide_eq_false h
        refine ⟨need_of (by omega), ?_⟩
        intro x4 e4 _ _ x5 _ _
        refine ⟨rfl, _, Or.inl ⟨rfl, 0, by omega, ?_, rfl⟩⟩
        have hp2 : x4 = p := by
          rw [e4]
          rw [← hpp]
          unfold padL
          rw [if_neg (by omega)]; rfl
        rw [hp2]; rfl
  · cases hs
def Γ12 : Tab := ⟨tys, (30, genCtr [.d (.ints .u8), .d (.l (.ints .u8))] macG) :: Γ11.ctr, [0, 2], gh⟩
theorem Γ12_ok : TabOk Tryd.prog Γ12 := Γ11_ok.cons macG_ok
end Go.Gx

/- The stretched key. -/
namespace Go.Sp
open Go.Gx
/-- The word "stretch". -/
def strT : List Int := [115, 116, 114, 101, 116, 99, 104]
def le8 (i : Int) : List Int := [IntKind.u8.wrap (shrI .i64 i 0), IntKind.u8.wrap (shrI .i64 i 8), IntKind.u8.wrap (shrI .i64 i 16), IntKind.u8.wrap (shrI .i64 i 24), IntKind.u8.wrap (shrI .i64 i 32), IntKind.u8.wrap (shrI .i64 i 40), IntKind.u8.wrap (shrI .i64 i 48), IntKind.u8.wrap (shrI .i64 i 56)]
/-- So many blocks. -/
def strB (k : List Int) : Nat → List Int
  | 0 => []
  | j + 1 => strB k j ++ macL k (strT ++ le8 (j : Int))
/-- So many bytes. -/
def strL (k : List Int) (n : Int) : List Int := (strB k (if n ≤ 1048576 then n.toNat else 0)).take n.toNat
end Go.Sp
namespace Go.Gx
open Go.Proofs Go.Sp
set_option linter.unusedVariables false
set_option maxRecDepth 100000

theorem sumL_len (ws bl : List Int) (n : Int) (m : Bool) : (sumL ws bl n m).length = 64 := by
  unfold sumL
  split
  · simp only [outb, List.length_set, List.length_replicate]
  · simp
theorem sha_len (b : List Int) : (sha b).length = 64 := sumL_len _ _ _ _
theorem macL_len (k b : List Int) : (macL k b).length = 64 := sha_len _
theorem take64 (l : List Int) (h : l.length = 64) : (l.drop 0).take 64 = l := by
  rw [List.drop_zero, List.take_of_length_le (by omega)]
theorem strB_len (k : List Int) : ∀ j, (strB k j).length = 64 * j
  | 0 => rfl
  | j + 1 => by rw [strB, List.length_append, strB_len k j, macL_len]; omega
theorem strB_take (k : List Int) (n a : Nat) (h : n ≤ 64 * a) : ∀ b, a ≤ b → (strB k b).take n = (strB k a).take n
  | 0, hb => by obtain rfl : a = 0 := by omega
                rfl
  | b + 1, hb => by
    by_cases hab : a = b + 1
    · rw [hab]
    · have hl := strB_len k b
      rw [strB, List.take_append_of_le_length (by omega)]
      exact strB_take k n a h b (by omega)
theorem strL_len (k : List Int) (n : Int) (h0 : 0 ≤ n) (h1 : n ≤ 1048576) : ((strL k n).length : Int) = n := by
  unfold strL
  rw [if_pos h1, List.length_take, strB_len]; omega
theorem strL_pre (k : List Int) (a b : Int) (h0 : 0 ≤ a) (h1 : a ≤ b) (h2 : b ≤ 1048576) : (strL k b).take a.toNat = strL k a := by
  unfold strL
  rw [if_pos h2, if_pos (by omega), List.take_take, show min a.toNat b.toNat = a.toNat by omega]
  exact strB_take k a.toNat a.toNat (by omega) b.toNat (by omega)
def L33 : Loops := [(5, ⟨[.ro 490 (.ints .u8) (.l []), .i .i64 ⟨false, 0⟩, .any, .any, .nsl, .nsl, .i .i64 ⟨false, 0⟩] ++ reps .any 39, gh ++ [(490, .world)], 2000⟩),
  (1005, ⟨[.ro 490 (.ints .u8) (.l []), .i .i64 ⟨false, 0⟩, .any, .any, .nsl, .sl 1001 0 1 ⟨true, 0⟩ ⟨false, 0⟩, .i .i64 ⟨false, 0⟩] ++ reps .any 39, gh ++ [(490, .world), (1001, .segs false [.rowI .u8 []])], 2000⟩)]
def vc33 (k : RO) (n : Int) (K : List RV → List (Option (List Seg)) → Prop) (Q : Nat → List Pv → Prop) : Prop := fnVcG 0 Γ12 Tryd.f33 L33 [.ro 490 (.ints .u8) k, .i .i64 ⟨false, n⟩] (gh ++ (490, .world) :: []) K Q
def lc33a (k : RO) (n i : Int) (g : List Int) (K : List RV → List (Option (List Seg)) → Prop) (Q : Nat → List Pv → Prop) : Prop := loopVcG 0 Γ12 Tryd.f33 L33 5 [.ro k, .z n, .z i, .l g] K Q
def lc33b (k : RO) (n z i : Int) (g l : List Int) (K : List RV → List (Option (List Seg)) → Prop) (Q : Nat → List Pv → Prop) : Prop := loopVcG 0 Γ12 Tryd.f33 L33 1005 [.ro k, .z n, .z z, .z i, .l g, .l l] K Q
theorem vc33_eq : ∀ (k : RO) (n : Int) (K : List RV → List (Option (List Seg)) → Prop) (Q : Nat → List Pv → Prop), vc33 k n K Q = ((decide (n < (0 : Int)) = true → K [RV.v SV.nsl] []) ∧ (decide (n < (0 : Int)) = false → (decide (n > (1048576 : Int)) = true → K [RV.v SV.nsl] []) ∧ (decide (n > (1048576 : Int)) = false → Same Tryd.f33 (5 : Nat) (itemsOf Tryd.f33 (5 : Nat)) ∧ Q (5 : Nat) [Pv.ro k, Pv.z n, Pv.z (0 : Int), Pv.l K80]))) := by
  intros
  kernel_rfl
theorem lc33a_eq : ∀ (k : RO) (n i : Int) (g : List Int) (K : List RV → List (Option (List Seg)) → Prop) (Q : Nat → List Pv → Prop), lc33a k n i g K Q = ((decide ((0 : Int) < n) = true → ∀ (x1 : Int), x1 = shrI IntKind.i64 i (0 : Int) → InR IntKind.i64 x1 → ∀ (x2 : Int), x2 = IntKind.u8.wrap x1 → InR IntKind.u8 x2 → ∀ (x3 : Int), x3 = shrI IntKind.i64 i (8 : Int) → InR IntKind.i64 x3 → ∀ (x4 : Int), x4 = IntKind.u8.wrap x3 → InR IntKind.u8 x4 → ∀ (x5 : Int), x5 = shrI IntKind.i64 i (16 : Int) → InR IntKind.i64 x5 → ∀ (x6 : Int), x6 = IntKind.u8.wrap x5 → InR IntKind.u8 x6 → ∀ (x7 : Int), x7 = shrI IntKind.i64 i (24 : Int) → InR IntKind.i64 x7 → ∀ (x8 : Int), x8 = IntKind.u8.wrap x7 → InR IntKind.u8 x8 → ∀ (x9 : Int), x9 = shrI IntKind.i64 i (32 : Int) → InR IntKind.i64 x9 → ∀ (x10 : Int), x10 = IntKind.u8.wrap x9 → InR IntKind.u8 x10 → ∀ (x11 : Int), x11 = shrI IntKind.i64 i (40 : Int) → InR IntKind.i64 x11 → ∀ (x12 : Int), x12 = IntKind.u8.wrap x11 → InR IntKind.u8 x12 → ∀ (x13 : Int), x13 = shrI IntKind.i64 i (48 : Int) → InR IntKind.i64 x13 → ∀ (x14 : Int), x14 = IntKind.u8.wrap x13 → InR IntKind.u8 x14 → ∀ (x15 : Int), x15 = shrI IntKind.i64 i (56 : Int) → InR IntKind.i64 x15 → ∀ (x16 : Int), x16 = IntKind.u8.wrap x15 → InR IntKind.u8 x16 → Need ((7 : Int) ≤ (7 : Int)) ∧ Need (((roL k).length : Int) ≤ (1152921504606846976 : Int)) ∧ Need (↑(roJ (RO.r [RO.l (List.take (7 : Nat) (List.drop (0 : Nat) [(115 : Int), (116 : Int), (114 : Int), (101 : Int), (116 : Int), (99 : Int), (104 : Int)])), RO.l (List.take (8 : Nat) (List.drop (0 : Nat) [x2, x4, x6, x8, x10, x12, x14, x16]))])).length + (128 : Int) ≤ (1152921504606846976 : Int)) ∧ ∀ (x17 : List Int), x17 = macL (roL k) (roJ (RO.r [RO.l (List.take (7 : Nat) (List.drop (0 : Nat) [(115 : Int), (116 : Int), (114 : Int), (101 : Int), (116 : Int), (99 : Int), (104 : Int)])), RO.l (List.take (8 : Nat) (List.drop (0 : Nat) [x2, x4, x6, x8, x10, x12, x14, x16]))])) → x17.length = (64 : Nat) → AllR IntKind.u8 x17 → Need (↑([] ++ List.take (64 : Nat) (List.drop (0 : Nat) x17)).length * (1 : Int) ≤ (70368744177664 : Int)) ∧ ∀ (x18 : List Int), x18 = [] ++ List.take (64 : Nat) (List.drop (0 : Nat) x17) → AllR IntKind.u8 x18 → ∀ (x19 : Int), x19 = ↑([] ++ List.take (64 : Nat) (List.drop (0 : Nat) x17)).length → (0 : Int) ≤ x19 → InR IntKind.i64 x19 → ∀ (x20 : Int), x20 = IntKind.i64.wrap (i + (1 : Int)) → InR IntKind.i64 x20 → Same Tryd.f33 (5 : Nat) (itemsOf Tryd.f33 (5 : Nat)) ∧ Q (1005 : Nat) [Pv.ro k, Pv.z n, Pv.z x19, Pv.z x20, Pv.l g, Pv.l x18]) ∧ (decide ((0 : Int) < n) = false → Need ((0 : Int) ≤ (0 : Int) ∧ (0 : Int) ≤ n ∧ n ≤ n ∧ n ≤ (0 : Int)) ∧ K [RV.v SV.nsl] [])) := by
  intros
  kernel_rfl
theorem lc33b_eq : ∀ (k : RO) (n z i : Int) (g l : List Int) (K : List RV → List (Option (List Seg)) → Prop) (Q : Nat → List Pv → Prop), lc33b k n z i g l K Q = ((decide (z < n) = true → ∀ (x1 : Int), x1 = shrI IntKind.i64 i (0 : Int) → InR IntKind.i64 x1 → ∀ (x2 : Int), x2 = IntKind.u8.wrap x1 → InR IntKind.u8 x2 → ∀ (x3 : Int), x3 = shrI IntKind.i64 i (8 : Int) → InR IntKind.i64 x3 → ∀ (x4 : Int), x4 = IntKind.u8.wrap x3 → InR IntKind.u8 x4 → ∀ (x5 : Int), x5 = shrI IntKind.i64 i (16 : Int) → InR IntKind.i64 x5 → ∀ (x6 : Int), x6 = IntKind.u8.wrap x5 → InR IntKind.u8 x6 → ∀ (x7 : Int), x7 = shrI IntKind.i64 i (24 : Int) → InR IntKind.i64 x7 → ∀ (x8 : Int), x8 = IntKind.u8.wrap x7 → InR IntKind.u8 x8 → ∀ (x9 : Int), x9 = shrI IntKind.i64 i (32 : Int) → InR IntKind.i64 x9 → ∀ (x10 : Int), x10 = IntKind.u8.wrap x9 → InR IntKind.u8 x10 → ∀ (x11 : Int), x11 = shrI IntKind.i64 i (40 : Int) → InR IntKind.i64 x11 → ∀ (x12 : Int), x12 = IntKind.u8.wrap x11 → InR IntKind.u8 x12 → ∀ (x13 : Int), x13 = shrI IntKind.i64 i (48 : Int) → InR IntKind.i64 x13 → ∀ (x14 : Int), x14 = IntKind.u8.wrap x13 → InR IntKind.u8 x14 → ∀ (x15 : Int), x15 = shrI IntKind.i64 i (56 : Int) → InR IntKind.i64 x15 → ∀ (x16 : Int), x16 = IntKind.u8.wrap x15 → InR IntKind.u8 x16 → Need ((7 : Int) ≤ (7 : Int)) ∧ Need (((roL k).length : Int) ≤ (1152921504606846976 : Int)) ∧ Need (↑(roJ (RO.r [RO.l (List.take (7 : Nat) (List.drop (0 : Nat) [(115 : Int), (116 : Int), (114 : Int), (101 : Int), (116 : Int), (99 : Int), (104 : Int)])), RO.l (List.take (8 : Nat) (List.drop (0 : Nat) [x2, x4, x6, x8, x10, x12, x14, x16]))])).length + (128 : Int) ≤ (1152921504606846976 : Int)) ∧ ∀ (x17 : List Int), x17 = macL (roL k) (roJ (RO.r [RO.l (List.take (7 : Nat) (List.drop (0 : Nat) [(115 : Int), (116 : Int), (114 : Int), (101 : Int), (116 : Int), (99 : Int), (104 : Int)])), RO.l (List.take (8 : Nat) (List.drop (0 : Nat) [x2, x4, x6, x8, x10, x12, x14, x16]))])) → x17.length = (64 : Nat) → AllR IntKind.u8 x17 → Need (↑(l ++ List.take (64 : Nat) (List.drop (0 : Nat) x17)).length * (1 : Int) ≤ (70368744177664 : Int)) ∧ Need (z = ↑l.length) ∧ ∀ (x18 : List Int), x18 = l ++ List.take (64 : Nat) (List.drop (0 : Nat) x17) → AllR IntKind.u8 x18 → ∀ (x19 : Int), x19 = ↑(l ++ List.take (64 : Nat) (List.drop (0 : Nat) x17)).length → (0 : Int) ≤ x19 → InR IntKind.i64 x19 → ∀ (x20 : Int), x20 = IntKind.i64.wrap (i + (1 : Int)) → InR IntKind.i64 x20 → Same Tryd.f33 (5 : Nat) (itemsOf Tryd.f33 (5 : Nat)) ∧ Q (1005 : Nat) [Pv.ro k, Pv.z n, Pv.z x19, Pv.z x20, Pv.l g, Pv.l x18]) ∧ (decide (z < n) = false → Need ((0 : Int) ≤ (0 : Int) ∧ (0 : Int) ≤ n ∧ n ≤ n ∧ n ≤ z) ∧ Need ((0 : Int) + n ≤ ↑l.length) ∧ K [RV.row (Con.ints IntKind.u8 (List.take n.toNat (List.drop (0 : Nat) l)))] [])) := by
  intros
  kernel_rfl

def inv33 (k : RO) (n : Int) (key : Nat) (ps : List Pv) (mm : Nat) : Prop :=
  0 ≤ n ∧ n ≤ 1048576 ∧ ((key = 5 ∧ ps = [.ro k, .z n, .z 0, .l K80] ∧ mm = n.toNat + 1) ∨
  (key = 1005 ∧ ∃ j : Nat, 0 < j ∧ 64 * (j : Int) < n + 64 ∧ ps = [.ro k, .z n, .z ((64 * j : Nat) : Int), .z (j : Int), .l K80, .l (strB (roL k) j)] ∧ mm = n.toNat - 64 * j))
def strG : List AV → Option (List Prop × List RV × List (Option (List Seg)))
  | [.d (.ints .u8) k, .v (.i .i64 ⟨_, n⟩)] => some ([((roL k).length : Int) ≤ 1152921504606846976], [.row (.ints .u8 (strL (roL k) n))], [])
  | _ => none
theorem strG_ok : CallOk Tryd.prog gh 33 (genCtr [.d (.ints .u8), .v] strG) := by
  refine call_gen (fn := Tryd.f33) Γ12_ok rfl glow rfl (by kernel_rfl) (by kernel_rfl) _ strG fun av p rvs fin hs hp hf => ?_
  unfold strG at hs
  split at hs
  · rename_i k st n
    simp only [Option.some.injEq, Prod.mk.injEq] at hs
    obtain ⟨rfl, rfl, rfl⟩ := hs
    have hk : ((roL k).length : Int) ≤ 1152921504606846976 := hp.1
    refine ⟨[.ro 490 (.ints .u8) k, .i .i64 ⟨false, n⟩], [], L33, inv33 k n, ?okA, Nat.le_of_ble_eq_true (by kernel_rfl), ?_, ?_, ?_⟩
    case okA => exact ⟨rfl, rfl, trivial⟩
    · intro kk t ht g hg
      have hg : g ∈ [0, 2, 490] := hg
      simp only [List.mem_cons, List.not_mem_nil, or_false] at hg
      simp only [L33, List.mem_cons, List.not_mem_nil, or_false, Prod.mk.injEq] at ht
      obtain ⟨rfl, rfl⟩ | ⟨rfl, rfl⟩ := ht <;> rcases hg with rfl | rfl | rfl <;> exact ⟨by omega, rfl⟩
    · rintro vk t ps mm ht ⟨hn0, hn1, ⟨rfl, rfl, rfl⟩ | ⟨rfl, j, hj0, hj, rfl, rfl⟩⟩
      all_goals simp only [L33, List.mem_cons, List.not_mem_nil, or_false, Prod.mk.injEq, Nat.reduceEqDiff, false_and, true_and, false_or, or_false] at ht
      · subst ht
        show lc33a k n 0 K80 _ _
        rw [lc33a_eq]
        refine ⟨fun hlt => ?_, fun hge => ?_⟩
        · have hlt := of_decide_eq_true hlt
          intro x1 e1 _ x2 e2 _ x3 e3 _ x4 e4 _ x5 e5 _ x6 e6 _ x7 e7 _ x8 e8 _ x9 e9 _ x10 e10 _ x11 e11 _ x12 e12 _ x13 e13 _ x14 e14 _ x15 e15 _ x16 e16 _
          rw [List.drop_zero, List.drop_zero, List.take_of_length_le (l := [x2, x4, x6, x8, x10, x12, x14, x16]) (by simp), show List.take 7 [(115 : Int), 116, 114, 101, 116, 99, 104] = strT from rfl, sha_pair]
          refine ⟨need_of (by omega), need_of (by omega), need_of (by simp [strT]), ?_⟩
          intro x17 e17 h17 _
          have h64 := take64 x17 h17
          rw [h64]
          have hm : x17 = macL (roL k) (strT ++ le8 (0 : Int)) := by
            rw [e17, e2, e4, e6, e8, e10, e12, e14, e16, e1, e3, e5, e7, e9, e11, e13, e15]; rfl
          have hl2 : ([] ++ x17).length = 64 * (0 + 1) := by rw [List.length_append, h17]; rfl
          refine ⟨need_of (by omega), ?_⟩
          intro x18 e18 _ x19 e19 _ _ x20 e20 _
          rw [wrap_i64 (by omega)] at e20
          rw [hl2] at e19
          rw [hm] at e18
          refine ⟨rfl, n.toNat - 64 * (0 + 1), by omega, hn0, hn1, Or.inr ⟨rfl, 0 + 1, by omega, by omega, ?_, rfl⟩⟩
          rw [e18, e19, e20]
          rfl
        · have hge := of_decide_eq_false hge
          by_cases h0 : n = 0
          · subst h0
            refine ⟨need_of (by omega), ⟨⟨rfl, ?_⟩, trivial⟩, trivial⟩
            exact fun x hx => by cases hx
          · omega
      · subst ht
        have hl := strB_len (roL k) j
        show lc33b k n ((64 * j : Nat) : Int) (j : Int) K80 (strB (roL k) j) _ _
        rw [lc33b_eq]
        refine ⟨fun hlt => ?_, fun hge => ?_⟩
        · have hlt := of_decide_eq_true hlt
          intro x1 e1 _ x2 e2 _ x3 e3 _ x4 e4 _ x5 e5 _ x6 e6 _ x7 e7 _ x8 e8 _ x9 e9 _ x10 e10 _ x11 e11 _ x12 e12 _ x13 e13 _ x14 e14 _ x15 e15 _ x16 e16 _
          rw [List.drop_zero, List.drop_zero, List.take_of_length_le (l := [x2, x4, x6, x8, x10, x12, x14, x16]) (by simp), show List.take 7 [(115 : Int), 116, 114, 101, 116, 99, 104] = strT from rfl, sha_pair]
          refine ⟨need_of (by omega), need_of (by omega), need_of (by simp [strT]), ?_⟩
          intro x17 e17 h17 _
          have h64 := take64 x17 h17
          rw [h64]
          have hm : x17 = macL (roL k) (strT ++ le8 (j : Int)) := by
            rw [e17, e2, e4, e6, e8, e10, e12, e14, e16, e1, e3, e5, e7, e9, e11, e13, e15]; rfl
          have hl2 : (strB (roL k) j ++ x17).length = 64 * (j + 1) := by rw [List.length_append, h17, hl]; omega
          refine ⟨need_of (by omega), need_of (by omega), ?_⟩
          intro x18 e18 _ x19 e19 _ _ x20 e20 _
          rw [wrap_i64 (by omega)] at e20
          rw [hl2] at e19
          rw [hm] at e18
          refine ⟨rfl, n.toNat - 64 * (j + 1), by omega, hn0, hn1, Or.inr ⟨rfl, j + 1, by omega, by omega, ?_, rfl⟩⟩
          rw [e18, e19, e20]
          rfl
        · have hge := of_decide_eq_false hge
          refine ⟨need_of (by omega), need_of (by omega), ⟨⟨rfl, ?_⟩, trivial⟩, trivial⟩
          show ((strB (roL k) j).drop 0).take n.toNat = strL (roL k) n
          unfold strL
          rw [if_pos hn1, List.drop_zero]
          have q := fun a b => strB_take (roL k) n.toNat a b
          have h1 := q j (by omega) (j + n.toNat) (by omega)
          have h2 := q n.toNat (by omega) (j + n.toNat) (by omega)
          rw [← h1, h2]
    · show vc33 k n _ _
      rw [vc33_eq]
      have hnil : n < 0 ∨ n > 1048576 → strL (roL k) n = [] := fun h => by
        unfold strL
        rcases h with h | h
        · rw [show n.toNat = 0 by omega, List.take_zero]
        · rw [if_neg (by omega), strB, List.take_nil]
      refine ⟨fun h => ⟨⟨?_, trivial⟩, trivial⟩, fun h => ⟨fun h2 => ⟨⟨?_, trivial⟩, trivial⟩, fun h2 => ⟨rfl, n.toNat + 1, ?_⟩⟩⟩
      · have h := of_decide_eq_true h
        have e := hnil (Or.inl h)
        exact ⟨by show (strL (roL k) n).length = 0; rw [e]; rfl, fun x hx => by rw [e] at hx; cases hx⟩
      · have h2 := of_decide_eq_true h2
        have e := hnil (Or.inr h2)
        exact ⟨by show (strL (roL k) n).length = 0; rw [e]; rfl, fun x hx => by rw [e] at hx; cases hx⟩
      · have h := of_decide_eq_false h
        have h2 := of_decide_eq_false h2
        exact ⟨by omega, by omega, Or.inl ⟨rfl, rfl, rfl⟩⟩
  · cases hs
def Γ13 : Tab := ⟨tys, (33, genCtr [.d (.ints .u8), .v] strG) :: Γ12.ctr, [0, 2], gh⟩
theorem Γ13_ok : TabOk Tryd.prog Γ13 := Γ12_ok.cons strG_ok
end Go.Gx

/- Parts joined. -/
namespace Go.Gx
open Go.Proofs Go.Sp
set_option linter.unusedVariables false
set_option maxRecDepth 100000

def L32 : Loops := [(3, ⟨[.ro 490 (.l (.ints .u8)) (.r []), .any, .nsl, .nsl, .i .i64 ⟨false, 0⟩] ++ reps .any 13, gh ++ [(490, .world)], 2000⟩),
  (1003, ⟨[.ro 490 (.l (.ints .u8)) (.r []), .any, .nsl, .sl 1001 0 1 ⟨true, 0⟩ ⟨false, 0⟩, .i .i64 ⟨false, 0⟩] ++ reps .any 13, gh ++ [(490, .world), (1001, .segs false [.rowI .u8 []])], 2000⟩)]
def vc32 (d : RO) (K : List RV → List (Option (List Seg)) → Prop) (Q : Nat → List Pv → Prop) : Prop := fnVcG 0 Γ13 Tryd.f32 L32 [.ro 490 (.l (.ints .u8)) d] (gh ++ (490, .world) :: []) K Q
def lc32a (d : RO) (i : Int) (g : List Int) (K : List RV → List (Option (List Seg)) → Prop) (Q : Nat → List Pv → Prop) : Prop := loopVcG 0 Γ13 Tryd.f32 L32 3 [.ro d, .z i, .l g] K Q
def lc32b (d : RO) (z i : Int) (g l : List Int) (K : List RV → List (Option (List Seg)) → Prop) (Q : Nat → List Pv → Prop) : Prop := loopVcG 0 Γ13 Tryd.f32 L32 1003 [.ro d, .z z, .z i, .l g, .l l] K Q
theorem vc32_eq : ∀ (d : RO) (K : List RV → List (Option (List Seg)) → Prop) (Q : Nat → List Pv → Prop), vc32 d K Q = (Same Tryd.f32 (3 : Nat) (itemsOf Tryd.f32 (3 : Nat)) ∧ Q (3 : Nat) [Pv.ro d, Pv.z (0 : Int), Pv.l K80]) := by
  intros
  kernel_rfl
theorem lc32a_eq : ∀ (d : RO) (i : Int) (g : List Int) (K : List RV → List (Option (List Seg)) → Prop) (Q : Nat → List Pv → Prop), lc32a d i g K Q = ((decide (i < ((roX d).length : Int)) = true → Need ((0 : Int) ≤ i ∧ i < ((roX d).length : Int)) ∧ Need ((([] ++ roL (roN d i.toNat)).length : Int) * (1 : Int) ≤ (70368744177664 : Int)) ∧ ∀ (x1 : List Int), x1 = [] ++ roL (roN d i.toNat) → AllR IntKind.u8 x1 → ∀ (x2 : Int), x2 = (([] ++ roL (roN d i.toNat)).length : Int) → (0 : Int) ≤ x2 → InR IntKind.i64 x2 → ∀ (x3 : Int), x3 = IntKind.i64.wrap (i + (1 : Int)) → InR IntKind.i64 x3 → Same Tryd.f32 (3 : Nat) (itemsOf Tryd.f32 (3 : Nat)) ∧ Q (1003 : Nat) [Pv.ro d, Pv.z x2, Pv.z x3, Pv.l g, Pv.l x1]) ∧ (decide (i < ((roX d).length : Int)) = false → K [RV.v SV.nsl] [])) := by
  intros
  kernel_rfl
theorem lc32b_eq : ∀ (d : RO) (z i : Int) (g l : List Int) (K : List RV → List (Option (List Seg)) → Prop) (Q : Nat → List Pv → Prop), lc32b d z i g l K Q = ((decide (i < ((roX d).length : Int)) = true → Need ((0 : Int) ≤ i ∧ i < ((roX d).length : Int)) ∧ Need (((l ++ roL (roN d i.toNat)).length : Int) * (1 : Int) ≤ (70368744177664 : Int)) ∧ Need (z = ↑l.length) ∧ ∀ (x1 : List Int), x1 = l ++ roL (roN d i.toNat) → AllR IntKind.u8 x1 → ∀ (x2 : Int), x2 = ((l ++ roL (roN d i.toNat)).length : Int) → (0 : Int) ≤ x2 → InR IntKind.i64 x2 → ∀ (x3 : Int), x3 = IntKind.i64.wrap (i + (1 : Int)) → InR IntKind.i64 x3 → Same Tryd.f32 (3 : Nat) (itemsOf Tryd.f32 (3 : Nat)) ∧ Q (1003 : Nat) [Pv.ro d, Pv.z x2, Pv.z x3, Pv.l g, Pv.l x1]) ∧ (decide (i < ((roX d).length : Int)) = false → Need ((0 : Int) + z ≤ ↑l.length) ∧ K [RV.row (Con.ints IntKind.u8 (List.take z.toNat (List.drop (0 : Nat) l)))] [])) := by
  intros
  kernel_rfl

def inv32 (d : RO) (key : Nat) (ps : List Pv) (mm : Nat) : Prop :=
  (key = 3 ∧ ps = [.ro d, .z 0, .l K80] ∧ mm = (roX d).length + 1) ∨
  (key = 1003 ∧ ∃ j : Nat, 0 < j ∧ j ≤ (roX d).length ∧ ps = [.ro d, .z (((((roX d).take j).map roL).flatten).length : Int), .z (j : Int), .l K80, .l ((((roX d).take j).map roL).flatten)] ∧ mm = (roX d).length - j)
def joinG : List AV → Option (List Prop × List RV × List (Option (List Seg)))
  | [.d (.l (.ints .u8)) d] => some ([((roJ d).length : Int) ≤ 70368744177664], [.row (.ints .u8 (roJ d))], [])
  | _ => none
theorem joinG_ok : CallOk Tryd.prog gh 32 (genCtr [.d (.l (.ints .u8))] joinG) := by
  refine call_gen (fn := Tryd.f32) Γ13_ok rfl glow rfl (by kernel_rfl) (by kernel_rfl) _ joinG fun av p rvs fin hs hp hf => ?_
  unfold joinG at hs
  split at hs
  · rename_i d
    simp only [Option.some.injEq, Prod.mk.injEq] at hs
    obtain ⟨rfl, rfl, rfl⟩ := hs
    have hd : ((roJ d).length : Int) ≤ 70368744177664 := hp.1
    obtain ⟨⟨_, hlen⟩, _⟩ := hf
    refine ⟨[.ro 490 (.l (.ints .u8)) d], [], L32, inv32 d, ⟨rfl, trivial⟩, Nat.le_of_ble_eq_true (by kernel_rfl), ?_, ?_, ?_⟩
    · intro kk t ht g hg
      have hg : g ∈ [0, 2, 490] := hg
      simp only [List.mem_cons, List.not_mem_nil, or_false] at hg
      simp only [L32, List.mem_cons, List.not_mem_nil, or_false, Prod.mk.injEq] at ht
      obtain ⟨rfl, rfl⟩ | ⟨rfl, rfl⟩ := ht <;> rcases hg with rfl | rfl | rfl <;> exact ⟨by omega, rfl⟩
    · rintro vk t ps mm ht (⟨rfl, rfl, rfl⟩ | ⟨rfl, j, hj0, hj, rfl, rfl⟩)
      all_goals simp only [L32, List.mem_cons, List.not_mem_nil, or_false, Prod.mk.injEq, Nat.reduceEqDiff, false_and, true_and, false_or, or_false] at ht
      · subst ht
        show lc32a d 0 K80 _ _
        rw [lc32a_eq]
        refine ⟨fun hlt => ?_, fun hge => ?_⟩
        · have hlt := of_decide_eq_true hlt
          have hjl : 0 < (roX d).length := by omega
          have e1 := take_succ_map (roX d) 0 hjl
          have e2 := flat_take_le (roX d) (0 + 1)
          have hT : (roJ d).length = ((roX d).map roL).flatten.length := rfl
          have hf : [] ++ roL (roN d (0 : Int).toNat) = (((roX d).take (0 + 1)).map roL).flatten := by rw [e1]; rfl
          rw [hf]
          refine ⟨need_of (by omega), need_of (by omega), ?_⟩
          intro x1 e1 _ x2 e2 _ _ x3 e3 _
          rw [wrap_i64 (by omega)] at e3
          subst e1; subst e2; subst e3
          exact ⟨rfl, (roX d).length - (0 + 1), by omega, Or.inr ⟨rfl, 0 + 1, by omega, by omega, rfl, rfl⟩⟩
        · have hge := of_decide_eq_false hge
          have h0 : (roX d).length = 0 := by omega
          have hj : roJ d = [] := by unfold roJ; rw [List.length_eq_zero_iff.1 h0]; rfl
          exact ⟨⟨⟨by show (roJ d).length = 0; rw [hj]; rfl, fun x hx => by rw [hj] at hx; cases hx⟩, trivial⟩, trivial⟩
      · subst ht
        show lc32b d (((((roX d).take j).map roL).flatten).length : Int) (j : Int) K80 ((((roX d).take j).map roL).flatten) _ _
        rw [lc32b_eq]
        refine ⟨fun hlt => ?_, fun hge => ?_⟩
        · have hlt := of_decide_eq_true hlt
          have hjl : j < (roX d).length := by omega
          have e1 := take_succ_map (roX d) j hjl
          have e2 := flat_take_le (roX d) (j + 1)
          have hT : (roJ d).length = ((roX d).map roL).flatten.length := rfl
          have hf : (((roX d).take j).map roL).flatten ++ roL (roN d (j : Int).toNat) = (((roX d).take (j + 1)).map roL).flatten := by rw [e1, Int.toNat_natCast]; rfl
          rw [hf]
          refine ⟨need_of (by omega), need_of (by omega), need_of (by omega), ?_⟩
          intro x1 e1 _ x2 e2 _ _ x3 e3 _
          rw [wrap_i64 (by omega)] at e3
          subst e1; subst e2; subst e3
          exact ⟨rfl, (roX d).length - (j + 1), by omega, Or.inr ⟨rfl, j + 1, by omega, by omega, rfl, rfl⟩⟩
        · have hge := of_decide_eq_false hge
          obtain rfl : j = (roX d).length := by omega
          rw [List.take_of_length_le (Nat.le_refl _)]
          refine ⟨need_of (by omega), ⟨⟨rfl, ?_⟩, trivial⟩, trivial⟩
          show ((((roX d).map roL).flatten).drop 0).take _ = roJ d
          rw [List.drop_zero, List.take_of_length_le (by omega)]; rfl
    · show vc32 d _ _
      rw [vc32_eq]
      exact ⟨rfl, _, Or.inl ⟨rfl, rfl, rfl⟩⟩
  · cases hs
def Γ14 : Tab := ⟨tys, (32, genCtr [.d (.l (.ints .u8))] joinG) :: Γ13.ctr, [0, 2], gh⟩
theorem Γ14_ok : TabOk Tryd.prog Γ14 := Γ13_ok.cons joinG_ok
end Go.Gx

/- From a law's call to what its row asks, for laws that only read. -/
namespace Go.Gx
open Go.ChangeShapes Go.WideShapes Go.ChangeAt Go.RowKit
set_option linter.unusedVariables false

section
variable {P : Program}

theorem cell_int {w : World} {r : Reach} {b : Nat} {e : TypeId} {k : IntKind} {v : Value} (he : P.underlying e = some (.int k)) (h : Cell.okWide P w r b e v) : ∃ z, v = .int k z ∧ InR k z := by
  have h' : Value.okWide P w r b e v := by
    unfold Value.okWide
    rw [he]; exact h
  obtain ⟨z, rfl⟩ := okWide_int he h'
  refine ⟨z, rfl, ?_⟩
  simp only [Cell.okWide, Cell.ok, he, IntKind.has] at h
  cases k <;> simp [InR, IntKind.min, IntKind.max, IntKind.bits, IntKind.signed] at h ⊢ <;> omega

theorem ints_of {k : IntKind} : ∀ (cs : List Value), (∀ v ∈ cs, ∃ z, v = .int k z ∧ InR k z) → ∃ l : List Int, AllR k l ∧ cs = l.map (Value.int k)
  | [], _ => ⟨[], fun _ h => by simp at h, rfl⟩
  | v :: cs, h => by
    obtain ⟨l, h1, rfl⟩ := ints_of cs fun v hv => h v (by simp [hv])
    obtain ⟨z, rfl, hz⟩ := h v (by simp)
    refine ⟨z :: l, fun x hx => ?_, rfl⟩
    rcases List.mem_cons.1 hx with rfl | hx
    · exact hz
    · exact h1 x hx

/-- An argument that is an array of numbers. -/
theorem arr_arg {w : World} {r : Reach} {b : Nat} {t e : TypeId} {n : Nat} {k : IntKind} {v : Value} (ht : P.underlying t = some (.array n e)) (he : P.underlying e = some (.int k)) (hc : P.cellsOf t = n) (hts : P.cellTypes P.depth t = some (List.replicate n e)) (h : Value.okWide P w r b t v) :
    ∃ l : List Int, l.length = n ∧ AllR k l ∧ v = .agg (l.map (Value.int k)).toArray := by
  unfold Value.okWide at h
  rw [ht] at h
  obtain ⟨cs, rfl, hs, ts, hts', _, hall⟩ := h
  rw [hts] at hts'
  obtain rfl := Option.some.inj hts'
  obtain ⟨l, h1, h2⟩ := ints_of (k := k) cs.toList fun v hv => by
    obtain ⟨i, hi, rfl⟩ := List.getElem_of_mem hv
    obtain ⟨u, hu, hcell⟩ := hall i (cs.toList[i]) (by simp at hi ⊢)
    have : u = e := by
      have := List.mem_of_getElem? hu
      exact (List.mem_replicate.1 this).2
    subst this
    exact cell_int he hcell
  refine ⟨l, ?_, h1, ?_⟩
  · have := congrArg List.length h2
    simp at this
    omega
  · rw [← h2]

theorem int_arg {w : World} {r : Reach} {b : Nat} {e : TypeId} {k : IntKind} {v : Value} (he : P.underlying e = some (.int k)) (h : Value.okWide P w r b e v) : ∃ z, v = .int k z ∧ InR k z := by
  unfold Value.okWide at h
  rw [he] at h
  exact cell_int he h

/-- All arguments read behind the call as they did. -/
theorem below_trodAll {H : Type} {enc : TypeId × Value → H} {W W' : World} (hl : laidOutB P = true) (hB : Below W.heap.size W W') {sp : Nat → Bool} : ∀ {ts : List TypeId} {vs : List Value} {ds : List (DataW H)} {ps : List MemPlace},
    (∀ t ∈ ts, P.readableRec t = true ∧ t < P.types.size) → DataW.TrodAll enc P W 0 (fun _ => true) true ts vs ds ps → (∀ p ∈ ps, p.block < W.heap.size) → (∀ p ∈ ps, sp p.block = true) → DataW.TrodAll enc P W' 0 sp true ts vs ds ps
  | [], _, _, _, _, h, _, _ => by
    obtain ⟨rfl, rfl, rfl⟩ := trodAll_nil h
    exact trodAll_mk0
  | t :: ts, _, _, _, ht, h, hlt, hs => by
    obtain ⟨v, vs1, d, ds1, p, q, rfl, rfl, rfl, h1, h2⟩ := trodAll_cons h
    have := ht t (by simp)
    exact trodAll_cons_mk (WideElems.Trod_stays hl this.1 this.2 h1 (fun x hx => hB.same (hlt x (by simp [hx]))) fun x hx => hs x (by simp [hx]))
      (below_trodAll hl hB (fun t h => ht t (by simp [h])) h2 (fun x hx => hlt x (by simp [hx])) fun x hx => hs x (by simp [hx]))

/-- What a row asks behind a call that has answered true and turned nothing old. -/
theorem post_true {H : Type} {enc : TypeId × Value → H} {f : Func} {s : ChangeSpec} {tb : TypeId} {W W' : World} {args : Array Value} {ds gs : List (DataW H)} {before : List MemPlace}
    (hl : laidOutB P = true) (hv : s.vars = []) (hr : f.resultTypes = #[tb]) (hb : P.underlying tb = some .bool) (hread : ∀ t ∈ f.params.toList, P.readableRec t = true ∧ t < P.types.size)
    (hfn : ∀ ds : List (DataW H), ds.length = f.params.size → (s.fn H ds).results = [.lit (.bool true)] ∧ (s.fn H ds).args = ds ∧ (s.fn H ds).vars = [])
    (hW : DataW.Whole enc P f.params.toList s.vars false W args.toList ds gs before) (hB : Below W.heap.size W W') : s.post enc P f false true false false W args (.bool true) W' := by
  have hW' := hW
  obtain ⟨p, q, hA0, hV, rfl, hz, hn⟩ := hW
  have hA : DataW.TrodAll enc P W 0 (fun _ => true) true f.params.toList args.toList ds p := hA0
  rw [hv] at hV
  obtain ⟨rfl, rfl⟩ := trodVars_none hV
  have hlen : ds.length = f.params.size := by
    have : ∀ {ts : List TypeId} {vs : List Value} {ds : List (DataW H)} {ps : List MemPlace}, DataW.TrodAll enc P W 0 (fun _ => true) true ts vs ds ps → ds.length = ts.length := by
      intro ts
      induction ts with
      | nil => intro vs ds ps h; obtain ⟨_, rfl, _⟩ := trodAll_nil h; rfl
      | cons t ts ih => intro vs ds ps h; obtain ⟨_, _, _, _, _, _, rfl, rfl, rfl, _, h2⟩ := trodAll_cons h; simp [ih h2]
    simpa using this hA
  obtain ⟨k1, k2, k3⟩ := hfn ds hlen
  have hlt : ∀ x ∈ p, x.block < W.heap.size := fun x hx => hW'.lt x (by simp [hx])
  have hres : ∀ (b : Nat) (sp : Nat → Bool) (hd : Bool), DataW.TrodAll enc P W' b sp hd f.resultTypes.toList ((Value.bool true).resultList f.resultTypes.size) (s.fn H (ds ++ [])).results [] := fun b sp hd => by
    rw [List.append_nil, k1, hr]
    exact trodAll_cons_mk (shut_bool hb _) trodAll_mk0
  have hargs : ∀ sp : Nat → Bool, (∀ x ∈ p, sp x.block = true) → DataW.TrodAll enc P W' 0 sp true f.params.toList args.toList (s.fn H (ds ++ [])).args p := fun sp hs => by
    rw [List.append_nil, k2]
    exact below_trodAll hl hB hread hA hlt hs
  have hvars : ∀ sp : Nat → Bool, DataW.TrodVars enc P W' sp s.vars (s.fn H (ds ++ [])).vars [] := fun sp => by
    rw [List.append_nil, k3, hv]; rfl
  refine ⟨ds, [], p ++ [], [], p, [], hW', hres _ _ _, hargs _ (fun x hx => by simpa using hlt x hx), hvars _, hB.frame _, fun _ => ?_⟩
  refine ⟨ok_one hr rfl (okWide_bool_mk hb _), _, _, ([] ++ p) ++ [], ⟨[] ++ p, [], trodAll_append (hargs _ (fun _ _ => rfl)) (hres _ _ _), hvars _, rfl, ?_, ?_⟩, ?_⟩
  · intro b off hp
    have hp' : MemPlace.cell b off ∈ p := by simpa using hp
    rw [hB.frozen (hlt _ hp')]
    exact hz b off (by simpa using hp')
  · intro ha
    have := hn ha
    simpa using this
  · intro x hx _
    simpa using hx

theorem chunks {α : Type} {n : Nat} : ∀ (m : Nat) (cs : List α) (f : Nat → List α), cs.length = m * n → (∀ i, i < m → (cs.drop (i * n)).take n = f i) → cs = ((List.range m).map f).flatten
  | 0, cs, f, hl, _ => by
    have : cs = [] := List.length_eq_zero_iff.1 (by simpa using hl)
    simp [this]
  | m + 1, cs, f, hl, h => by
    have ih := chunks (n := n) m (cs.drop n) (fun i => f (i + 1)) (by rw [List.length_drop, hl, Nat.succ_mul]; omega) fun i hi => by
      rw [List.drop_drop, ← h (i + 1) (by omega), Nat.succ_mul, Nat.add_comm n]
    have h0 := h 0 (by omega)
    rw [Nat.zero_mul, List.drop_zero] at h0
    rw [List.range_succ_eq_map, List.map_cons, List.flatten_cons, List.map_map]
    conv => lhs; rw [← List.take_append_drop n cs]
    rw [h0, ih]
    rfl

/-- A listed table of rows of numbers: its cells. -/
theorem tab2_of_head {W : World} {name : String} {k : IntKind} {rows : List (List Int)} {rest : List (String × DataW Unit)} {g : Nat} {t e1 e : TypeId} {m n : Nat}
    (hg : P.globalNamed name = some g) (hty : (P.globals[g]?).map (·.type) = some t) (ht : P.underlying t = some (.array m e1)) (ht1 : P.underlying e1 = some (.array n e)) (he : P.underlying e = some (.int k)) (hce : P.cellsOf e = 1) (hc1 : P.cellsOf e1 = n) (hct : P.cellsOf t = m * n)
    (h : laidMet P ((name, .agg (rows.map (Lib.tabData k))) :: rest) W) : W.rangeAt g 0 ((List.range m).map fun i => (rows.getD i []).map (Value.int k)).flatten ∧ g < W.heap.size := by
  obtain ⟨ps, ⟨g', t', cs, fuel, p, q, hg', ht', hvar, hd, _, _⟩, _⟩ := h
  obtain rfl := Option.some.inj (hg.symm.trans hg')
  obtain rfl := Option.some.inj (hty.symm.trans ht')
  have hcs : cs.toList = ((List.range m).map fun i => (rows.getD i []).map (Value.int k)).flatten := by
    cases fuel with
    | zero => simp [DataW.trod] at hd
    | succ fuel =>
      simp only [DataW.trod, ht, hc1, hct] at hd
      split at hd
      · rename_i hl
        obtain ⟨xs, hm, hx⟩ := Option.map_eq_some_iff.1 hd
        have hxs : xs.map (·.1) = rows.map (Lib.tabData k) := by
          have := congrArg Prod.fst hx
          simpa using this
        have hxl : xs.length = m := by simpa using Lib.mapM_length hm
        have hrl : rows.length = m := by
          have := congrArg List.length hxs
          simp at this
          omega
        refine chunks m _ _ hl fun i hi => ?_
        obtain ⟨b, hb, hf⟩ := Lib.mapM_at hm i i (by simp [hi])
        have h2 : (xs.map (·.1))[i]? = some b.1 := by simp [hb]
        rw [hxs] at h2
        simp only [List.getElem?_map, Option.map_eq_some_iff] at h2
        obtain ⟨r, hr, hrb⟩ := h2
        have hf' : DataW.trod (fun _ => ()) P W 0 (fun _ => true) false fuel e1 ((cs.toList.drop (i * n)).take n) = some (Lib.tabData k r, b.2) := by
          rw [hrb]; exact hf
        rw [Lib.cells_of_tab ht1 he hce hc1 hf']
        simp [List.getD, hr]
      · cases hd
  constructor
  · rw [← hcs]
    intro j v hj
    have := World.var?_cell hg hvar j
    rw [Nat.zero_add, this]
    simpa using hj
  · unfold World.var? at hvar
    rw [hg] at hvar
    simp only [Option.bind_some] at hvar
    split at hvar
    · rename_i hh
      exact (Array.getElem?_eq_some_iff.1 hh).1
    · cases hvar

theorem mem_start (W : World) (ρ : Nat → Pl) : Mem W (fun _ => False) ρ (fun _ => none) W :=
  ⟨by constructor <;> (intros; contradiction), FrameW.refl _ _, by intros; contradiction, by intros; contradiction, by intros; contradiction⟩

/-- A law as a call off a world that holds the globals: its arguments hold no pointers. -/
theorem law_calls {Γ : Tab} (hΓ : TabOk P Γ) (hgl : Γ.gl = keysOf Γ.gh) {f : FuncId} {fn : Func} (hf : P.funcs[f]? = some fn) {L : Loops} {args : List SV} {K : SV → Prop} {inv : Nat → List Pv → Nat → Prop} (hv : Vc Γ fn L Γ.gh args K inv) (hlen : args.length ≤ fn.ntmps)
    {W : World} {vs : List Value} (hG : Glob Γ.gh W fun _ => False) (ha : Ds (fun _ => False) (fun _ => ({ blk := 0, off := 0, cap := 0 } : Pl)) args vs) (hK : ∀ x, K x → ∃ e, x = .b e true) :
    Calls P f vs.toArray W fun e w' => e = .returned (.bool true) ∧ Below W.heap.size W w' := by
  obtain ⟨ρg, g1, g2, g3⟩ := mem_of_glob hG (mem_start W fun _ => ({ blk := 0, off := 0, cap := 0 } : Pl))
  have hgo : GlOk Γ W (fun _ => False) ρg (assoc Γ.gh) := ⟨fun g hg => ⟨assoc_dm (by rw [← hgl]; exact hg), (g3 g).1, (g3 g).2⟩, g2⟩
  refine (vc_calls hΓ hf hv hlen hgo g1 (Ds.mono (fun _ h => h.elim) (fun _ h => h.elim) args vs ha)).mono fun e w' he => ?_
  obtain ⟨x, v, rfl, k1, ⟨dm, ρ', k2⟩, k3⟩ := he
  obtain ⟨e, rfl⟩ := hK x k1
  simp only [D] at k2
  exact ⟨by rw [k2], k3⟩
end
end Go.Gx

/- A law that reads slices, as a call off a world that holds the globals. -/
namespace Go.Gx
open Go.RowKit Go.ChangeShapes Go.WideShapes Go.ChangeAt
set_option linter.unusedVariables false

section
variable {P : Program}

theorem law_views {Γ : Tab} (hΓ : TabOk P Γ) (hgl : Γ.gl = keysOf Γ.gh) (hlow : ∀ g ∈ keysOf Γ.gh, g < 500) {f : FuncId} {fn : Func} (hf : P.funcs[f]? = some fn) {L : Loops} {ras : List RA} {args' : List SV} {K : SV → Prop} {inv : Nat → List Pv → Nat → Prop}
    (k1 : okArgs 500 ras args') (k3 : Vc Γ fn L (Γ.gh ++ viewH 500 ras) args' K inv) (k2 : args'.length ≤ fn.ntmps)
    {W : World} {vs : List Value} (hG : Glob Γ.gh W fun _ => False) (hR : RAsD P W (fun _ => False) (fun _ => ({ blk := 0, off := 0, cap := 0 } : Pl)) ras vs) (hK : ∀ x, K x → ∃ e, x = .b e true) :
    Calls P f vs.toArray W fun e w' => e = .returned (.bool true) ∧ Below W.heap.size W w' := by
  obtain ⟨ρg, g1, g2, g3⟩ := mem_of_glob hG (mem_start W fun _ => ({ blk := 0, off := 0, cap := 0 } : Pl))
  obtain ⟨pl, v1, v2⟩ := views_at ras args' vs 500 hR k1
  have hbelow : ∀ k b, assoc Γ.gh k = some b → k < 500 := fun k b hb => hlow k (keysOf_of_dm (by unfold dmOf; rw [hb]; rfl))
  have hat : ∀ k b, assoc (Γ.gh ++ viewH 500 ras) k = some b → (k < 500 ∧ assoc Γ.gh k = some b) ∨ (500 ≤ k ∧ assoc (viewH 500 ras) k = some b) := fun k b hb => by
    rw [assoc_app] at hb
    split at hb
    · rename_i x hx
      rw [hb] at hx
      exact .inl ⟨hbelow k b hx, hx⟩
    · exact .inr ⟨viewH_low ras 500 k b hb, hb⟩
  have hmem : Mem W (fun _ => False) (fun k => if k < 500 then ρg k else pl k) (assoc (Γ.gh ++ viewH 500 ras)) W := by
    refine mem_ro fun k b hb => ?_
    rcases hat k b hb with ⟨hk, hb⟩ | ⟨hk, hb⟩
    · simp only [hk, if_true]
      obtain ⟨l, cs, rfl, _, _, _, hlt⟩ := g2 k b (assoc_mem hb)
      obtain ⟨cs2, s1, s2, s3, _⟩ := g1.heap.blk k _ hb
      obtain ⟨_, _, e, q1, q2, _, _⟩ := g2 k _ (assoc_mem hb)
      simp only [SB.segs.injEq, true_and] at e
      subst e
      refine ⟨_, _, rfl, q1, ?_, by rw [(g3 k).1, (g3 k).2]; exact q2, fun hc => g1.heap.lt k true _ hb hc⟩
      have hu : ∀ (l : List Seg) (dm dm' : Nat → Prop) (ρ ρ' : Nat → Pl) (u v : List Value), SegsD dm ρ l u → SegsD dm' ρ' l v → u.length = v.length := by
        intro l
        induction l with
        | nil => intro _ _ _ _ u v hu hv; rw [show u = [] from hu, show v = [] from hv]
        | cons g r ih =>
          intro dm dm' ρ ρ' u v hu hv
          obtain ⟨a1, a2, a3, rfl, a5⟩ := hu
          obtain ⟨b1, b2, b3, rfl, b5⟩ := hv
          have := ih dm dm' ρ ρ' _ _ a5 b5
          have hg : a1.length = b1.length := by
            cases g with
            | one x => obtain ⟨_, _, _, e1⟩ := a3; obtain ⟨_, _, _, e2⟩ := b3; rw [e1, e2]; rfl
            | arr k n ex l => rw [a3.2.2, b3.2.2]
            | rowI k l => rw [a3.2, b3.2]
            | rowA k n l => rw [a3.2, b3.2]
          simp [this, hg]
      rw [hu _ _ _ _ _ _ _ q1 s1]
      exact s2
    · have hn : ¬ (k < 500) := by omega
      simp only [hn, if_false]
      exact v1 k b hb
  have hgo : GlOk Γ W (fun _ => False) (fun k => if k < 500 then ρg k else pl k) (assoc (Γ.gh ++ viewH 500 ras)) := by
    refine ⟨fun g hg => ?_, g2⟩
    rw [hgl] at hg
    have hk := hlow g hg
    simp only [hk, if_true]
    refine ⟨?_, (g3 g).1, (g3 g).2⟩
    have := assoc_dm hg
    unfold dmOf at this ⊢
    rw [assoc_app]
    obtain ⟨b, hb⟩ := Option.isSome_iff_exists.1 this
    rw [hb]; rfl
  have hargs : Ds (dmOf (assoc (Γ.gh ++ viewH 500 ras))) (fun k => if k < 500 then ρg k else pl k) args' vs := by
    refine v2 _ _ fun k hk => ?_
    obtain ⟨b, hb⟩ := Option.isSome_iff_exists.1 hk
    have h5 := viewH_low ras 500 k b hb
    have hn : ¬ (k < 500) := by omega
    refine ⟨?_, by simp only [hn, if_false]⟩
    unfold dmOf
    rw [assoc_app]
    split
    · rfl
    · exact hk
  refine (vc_calls hΓ hf k3 k2 hgo hmem hargs).mono fun e w' he => ?_
  obtain ⟨x, v, rfl, q1, ⟨dm, ρ', q2⟩, q3⟩ := he
  obtain ⟨e, rfl⟩ := hK x q1
  simp only [D] at q2
  exact ⟨by rw [q2], q3⟩

/-- An argument that is a slice of numbers: nil, or its numbers, which are few. -/
theorem slice_arg {H : Type} {enc : TypeId × Value → H} {W : World} {t e : TypeId} {k : IntKind} {v : Value} {d : DataW H} {ps : List MemPlace} {b : Nat} (hone : v.cells = #[v])
    (ht : P.underlying t = some (.slice e)) (he : P.underlying e = some (.int k)) (hc : P.cellsOf e = 1) (h : DataW.Trod enc P W b (fun _ => true) true t v d ps) {ts : List TypeId} {ds : List (DataW H)} {j : Nat} (hj : ts[j]? = some t) (hd : ds[j]? = some d) (hw : (DataW.weightsEach P ts ds).all (· ≤ reachBytes) = true) (hbs : 0 < P.bytesOf e) :
    (v = .slice none 0 0) ∨ ∃ zs : List Int, AllR k zs ∧ zs.length < 140737488355328 ∧ ConAt P W v (.ints k zs) ∧ ∃ ad n cap, v = .slice ad n cap := by
  obtain ⟨fuel, h⟩ := h
  rw [hone] at h
  rcases open_ints ht he hc h with ⟨h1, _⟩ | ⟨a, len, cap, zs, h1, h2, h3, h4, h5, h6, h7, h8⟩
  · left; simpa using h1
  · right
    have hv : v = .slice (some a) len cap := by simpa using h1
    have hzl : zs.length = cap := by simpa using h5
    have hdz : d = .slice (lits k (zs.take len)) (lits k (zs.drop len)) := by
      have := congrArg Prod.fst h6; simpa using this
    have hsz := sized_slice hw hj (by rw [hd, hdz]) ht
    have hll : ∀ l : List Int, (lits (H := H) k l).length = l.length := fun l => by simp [lits]
    rw [hll, hll, List.length_take, List.length_drop, hzl, Nat.min_eq_left h3] at hsz
    have hcap : cap < 2 ^ 47 := by
      have h9 := reachBytes_lt
      have : cap * 1 ≤ cap * P.bytesOf e := Nat.mul_le_mul_left _ hbs
      rw [show len + (cap - len) = cap by omega] at hsz
      omega
    have hR : AllR k zs := fun z hz => by
      have := h8 z hz
      simp only [Lit.wf, Bool.and_eq_true, decide_eq_true_eq] at this
      cases k <;> simp [InR, IntKind.min, IntKind.max, IntKind.bits, IntKind.signed] at this ⊢ <;> omega
    have hRt : AllR k (zs.take len) := fun z hz => hR z (List.mem_of_mem_take hz)
    have hlen : (zs.take len).length = len := by rw [List.length_take]; omega
    have hget : ∀ i v, (((zs.take len).map (Value.int k))[i]? = some v) → W.cell? (a.add i) = some v := fun i v hv => by
      rw [List.getElem?_map, Option.map_eq_some_iff] at hv
      obtain ⟨z, hz, rfl⟩ := hv
      have hi : i < len := by have := (List.getElem?_eq_some_iff.1 hz).1; omega
      rw [List.getElem?_take, if_pos hi] at hz
      rw [h7 i (by omega)]
      simp [List.getD, hz]
    refine ⟨zs.take len, hRt, by omega, ⟨hRt, fun w' => ?_, fun ad n c' hv' => ?_, fun w' hw' m hm => ?_⟩, some a, len, cap, hv⟩
    · rw [hv]; simp [Builtin.lenOf, conLen, hlen]
    · rw [hv] at hv'
      simp only [Value.slice.injEq] at hv'
      obtain ⟨rfl, rfl, rfl⟩ := hv'
      refine ⟨by simp [conLen, hlen], h3, ?_⟩
      rcases Nat.eq_zero_or_pos cap with h0 | h0
      · exact .inl ⟨by simp only [conLen]; omega, h0⟩
      · right
        have h00 := h7 0 (by omega)
        obtain ⟨bk, of, sp⟩ := a
        have hsp : sp = none ∧ bk < W.heap.size := by
          unfold World.cell? at h00
          split at h00
          · rename_i hb
            have hb : W.heap[bk]? = _ := hb
            refine ⟨?_, (Array.getElem?_eq_some_iff.1 hb).1⟩
            split at h00
            · cases h00
            · rename_i hs
              have hs : ¬ sp.isSome = true := hs
              simpa using hs
          · cases h00
        obtain ⟨rfl, hbk⟩ := hsp
        refine ⟨bk, of, rfl, fun _ => hbk, fun i u hu => ?_⟩
        have := hget i u hu
        have ea : (⟨bk, of, none⟩ : Addr).add i = ⟨bk, of + i, none⟩ := by
          by_cases h : i = 0 <;> simp [Addr.add, h]
        rw [ea] at this
        exact this
    · rw [hv]
      have hm' : m ≤ len := by simpa [conLen, hlen] using hm
      refine firstCells_some 1 m a len cap _ (by simp only [conSize, conCells, Nat.mul_one, List.length_take, List.length_map, hlen]; omega) (fun i u hu => hw' _ _ (hget i u ?_))
      rw [List.getElem?_take] at hu
      split at hu
      · exact hu
      · cases hu
end
end Go.Gx

/- The tables of the program, and their cells in a row's world; what all rows of this seat ask. -/
namespace Go.Gx
open Go.Proofs Go.Sp Go.Proofs.YtihihilhfijloaaDoor
open Go.ChangeShapes Go.WideShapes Go.ChangeAt Go.RowKit
set_option linter.unusedVariables false

theorem glob_of {W : World} {name : String} {k : IntKind} {zs : List Int} {g : Nat} (hg : Tryd.prog.globalNamed name = some g) (h : Lib.TabIs Tryd.prog W name k zs) : W.rangeAt g 0 (zs.map (Value.int k)) ∧ g < W.heap.size := by
  have hv : W.var? Tryd.prog name = some (zs.map fun z => Value.int k z).toArray := h
  constructor
  · intro j v hj
    have := World.var?_cell hg hv j
    rw [Nat.zero_add, this]
    simpa using hj
  · unfold World.var? at hv
    rw [hg] at hv
    simp only [Option.bind_some] at hv
    split at hv
    · rename_i hh
      exact (Array.getElem?_eq_some_iff.1 hh).1
    · cases hv

theorem all_u64 {l : List Int} (h : (l.all fun z => decide (0 ≤ z) && decide (z < 18446744073709551616)) = true) : AllR .u64 l := fun z hz => by
  have := List.all_eq_true.1 h z hz
  simpa [InR] using this
theorem start_ok : start8.length = 8 ∧ AllR .u64 start8 := ⟨rfl, all_u64 (by decide +kernel)⟩
theorem rounds_ok : K80.length = 80 ∧ AllR .u64 K80 := ⟨by decide +kernel, all_u64 (by decide +kernel)⟩

theorem tab_glob {W : World} (h : laidMetH Tryd.prog [("veil/hash.rounds", Rows.laid_veil_hash_rounds), ("veil/hash.start", Rows.laid_veil_hash_start)] W) : Glob gh W fun _ => False := by
  have h' : laidMet Tryd.prog (("veil/hash.rounds", Lib.tabData .u64 K80) :: ("veil/hash.start", Lib.tabData .u64 start8) :: []) W := h
  obtain ⟨a1, a2⟩ := glob_of (g := 2) (by kernel_rfl) (Lib.tabIs_of_head (n := 80) (g := 2) (t := 78) (e := 43) (by kernel_rfl) (by kernel_rfl) (by kernel_rfl) (by kernel_rfl) (by kernel_rfl) (by kernel_rfl) h')
  obtain ⟨b1, b2⟩ := glob_of (g := 0) (by kernel_rfl) (Lib.tabIs_of_head (n := 8) (g := 0) (t := 44) (e := 43) (by kernel_rfl) (by kernel_rfl) (by kernel_rfl) (by kernel_rfl) (by kernel_rfl) (by kernel_rfl) (laidMet.tail h'))
  intro g b hb
  have hb : (g, b) ∈ [(0, SB.segs true [.arr .u64 8 true start8]), (2, .segs true [.arr .u64 80 false K80])] := hb
  simp only [List.mem_cons, List.not_mem_nil, or_false, Prod.mk.injEq] at hb
  rcases hb with ⟨rfl, rfl⟩ | ⟨rfl, rfl⟩
  · exact ⟨_, _, rfl, ⟨_, _, ⟨start_ok.1, start_ok.2, rfl⟩, (List.append_nil _).symm, rfl⟩, b1, fun x => x, b2⟩
  · exact ⟨_, _, rfl, ⟨_, _, ⟨rounds_ok.1, rounds_ok.2, rfl⟩, (List.append_nil _).symm, rfl⟩, a1, fun x => x, a2⟩

def layC (cs : Array Value) : Obj → Obj
  | .cells _ t frozen => .cells cs t frozen
  | o => o
/-- A world for the witness: the settled one, the tables laid. -/
noncomputable def laidWorld (os : Os) : World :=
  { World.holding Tryd.prog os ⟨#[], #[], []⟩ with heap := ((World.holding Tryd.prog os ⟨#[], #[], []⟩).heap.modify 0 (layC #[.int .u64 7640891576956012808, .int .u64 13503953896175478587, .int .u64 4354685564936845355, .int .u64 11912009170470909681, .int .u64 5840696475078001361, .int .u64 11170449401992604703, .int .u64 2270897969802886507, .int .u64 6620516959819538809])).modify 2 (layC #[.int .u64 4794697086780616226, .int .u64 8158064640168781261, .int .u64 13096744586834688815, .int .u64 16840607885511220156, .int .u64 4131703408338449720, .int .u64 6480981068601479193, .int .u64 10538285296894168987, .int .u64 12329834152419229976, .int .u64 15566598209576043074, .int .u64 1334009975649890238, .int .u64 2608012711638119052, .int .u64 6128411473006802146, .int .u64 8268148722764581231, .int .u64 9286055187155687089, .int .u64 11230858885718282805, .int .u64 13951009754708518548, .int .u64 16472876342353939154, .int .u64 17275323862435702243, .int .u64 1135362057144423861, .int .u64 2597628984639134821, .int .u64 3308224258029322869, .int .u64 5365058923640841347, .int .u64 6679025012923562964, .int .u64 8573033837759648693, .int .u64 10970295158949994411, .int .u64 12119686244451234320, .int .u64 12683024718118986047, .int .u64 13788192230050041572, .int .u64 14330467153632333762, .int .u64 15395433587784984357, .int .u64 489312712824947311, .int .u64 1452737877330783856, .int .u64 2861767655752347644, .int .u64 3322285676063803686, .int .u64 5560940570517711597, .int .u64 5996557281743188959, .int .u64 7280758554555802590, .int .u64 8532644243296465576, .int .u64 9350256976987008742, .int .u64 10552545826968843579, .int .u64 11727347734174303076, .int .u64 12113106623233404929, .int .u64 14000437183269869457, .int .u64 14369950271660146224, .int .u64 15101387698204529176, .int .u64 15463397548674623760, .int .u64 17586052441742319658, .int .u64 1182934255886127544, .int .u64 1847814050463011016, .int .u64 2177327727835720531, .int .u64 2830643537854262169, .int .u64 3796741975233480872, .int .u64 4115178125766777443, .int .u64 5681478168544905931, .int .u64 6601373596472566643, .int .u64 7507060721942968483, .int .u64 8399075790359081724, .int .u64 8693463985226723168, .int .u64 9568029438360202098, .int .u64 10144078919501101548, .int .u64 10430055236837252648, .int .u64 11840083180663258601, .int .u64 13761210420658862357, .int .u64 14299343276471374635, .int .u64 14566680578165727644, .int .u64 15097957966210449927, .int .u64 16922976911328602910, .int .u64 17689382322260857208, .int .u64 500013540394364858, .int .u64 748580250866718886, .int .u64 1242879168328830382, .int .u64 1977374033974150939, .int .u64 2944078676154940804, .int .u64 3659926193048069267, .int .u64 4368137639120453308, .int .u64 4836135668995329356, .int .u64 5532061633213252278, .int .u64 6448918945643986474, .int .u64 6902733635092675308, .int .u64 7801388544844847127]) }

theorem own : ownKnob Tryd.prog.godebug = none := by kernel_rfl
theorem laidOut : laidOutB Tryd.prog = true := by kernel_rfl

end Go.Gx

/- A law off a world that holds the globals: its arguments as data that is only read. -/
namespace Go.Gx
open Go.RowKit Go.ChangeShapes Go.WideShapes Go.ChangeAt
open Go.Proofs.YtihihilhfijloaaDoor.Rows (uptoBulk uptoBulkAll uptoSmall)
set_option linter.unusedVariables false

def shTyB (P : Program) : Sh → TypeId → Bool
  | .i k, t => (match P.underlying t with | some (.int k') => keq k k' | _ => false)
  | .tb, t => (match P.underlying t with | some .bool => true | _ => false)
  | .ts, t => (match P.underlying t with | some .string => true | _ => false)
  | .ints k, t => (match P.underlying t with
    | some (.slice e) => (match P.underlying e with | some (.int k') => keq k k' && (Nat.beq (P.cellsOf e) 1 && Nat.blt 0 (P.bytesOf e)) | _ => false)
    | _ => false)
  | .l sh, t => (match P.underlying t with
    | some (.slice e) => shTyB P sh e && (Nat.beq (P.cellsOf e) (shSize sh) && (Nat.blt 0 (shSize sh) && Nat.blt 0 (P.bytesOf e)))
    | _ => false)
  | _, _ => false

/-- How much data holds. -/
def roM : Sh → RO → Nat
  | .ts, d => (roS d).size
  | .ints _, d => (roL d).length
  | .l e, d => (roX d).length + ((roX d).map (roM e)).sum
  | _, _ => 0

/-- Is each slice and text of data of at most so many parts? -/
def roMx (N : Nat) : Sh → RO → Prop
  | .ts, d => (roS d).size ≤ N
  | .ints _, d => (roL d).length ≤ N
  | .l e, d => (roX d).length ≤ N ∧ ∀ x ∈ roX d, roMx N e x
  | _, _ => True

section
variable {P : Program}

theorem weightsAll_mem {H : Type} {e : TypeId} {d : DataW H} : ∀ {l : List (DataW H)}, d ∈ l → ∀ n ∈ d.weights P e, n ∈ DataW.weightsAll P e l
  | y :: r, h, n, hn => by
    simp only [DataW.weightsAll, List.mem_append]
    rcases List.mem_cons.1 h with rfl | h
    · exact .inl hn
    · exact .inr (weightsAll_mem h n hn)

theorem bulk_pos {H : Type} (d : DataW H) : 1 ≤ uptoBulk d := by unfold uptoBulk; split <;> omega
theorem bulkAll_len {H : Type} : ∀ (l : List (DataW H)), l.length ≤ uptoBulkAll l
  | [] => by simp [uptoBulkAll]
  | d :: r => by have := bulk_pos d; have := bulkAll_len r; simp only [uptoBulkAll, List.length_cons]; omega
theorem bulkAll_app {H : Type} : ∀ (a b : List (DataW H)), uptoBulkAll (a ++ b) = uptoBulkAll a + uptoBulkAll b
  | [], b => by simp [uptoBulkAll]
  | d :: r, b => by simp only [List.cons_append, uptoBulkAll, bulkAll_app r b]; omega

theorem ChainR.snoc {R : RO → Value → Prop} {x : RO} {v : Value} (hx : R x v) : ∀ (xs : List RO) (cs : List Value), ChainR R xs cs → ChainR R (xs ++ [x]) (cs ++ v.cells.toList)
  | [], cs, h => by rw [show cs = [] from h]; exact ⟨v, [], hx, by simp, rfl⟩
  | y :: r, cs, h => by
    obtain ⟨u, c, h1, rfl, h3⟩ := h
    exact ⟨u, c ++ v.cells.toList, h1, by simp [List.append_assoc], ChainR.snoc hx r c h3⟩

theorem rangeAt_app {w : World} {b o : Nat} {x y : List Value} (h1 : w.rangeAt b o x) (h2 : w.rangeAt b (o + x.length) y) : w.rangeAt b o (x ++ y) := fun j v hv => by
  rcases Nat.lt_or_ge j x.length with h | h
  · rw [List.getElem?_append_left h] at hv; exact h1 j v hv
  · rw [List.getElem?_append_right h] at hv
    have := h2 _ v hv
    rwa [show o + x.length + (j - x.length) = o + j by omega] at this

theorem addr_of_cell {W : World} {a : Addr} {v : Value} (h : W.cell? a = some v) : a = ⟨a.block, a.off, none⟩ ∧ a.block < W.heap.size := by
  obtain ⟨bk, of, sp⟩ := a
  unfold World.cell? at h
  split at h
  · rename_i hb
    have hb : W.heap[bk]? = _ := hb
    refine ⟨?_, (Array.getElem?_eq_some_iff.1 hb).1⟩
    split at h
    · cases h
    · rename_i hs
      have hs : ¬ sp.isSome = true := hs
      have : sp = none := by simpa using hs
      rw [this]
  · cases h

theorem add_add_addr (a : Addr) (i j : Nat) : (a.add i).add j = a.add (i + j) := by
  unfold Addr.add
  by_cases h1 : i = 0 <;> by_cases h2 : j = 0 <;> simp [h1, h2, Nat.add_assoc]
theorem add_zero_addr (a : Addr) : a.add 0 = a := by simp [Addr.add]

/-- An argument's reading, as data. -/
theorem trod_ro {H : Type} {enc : TypeId × Value → H} {W : World} (N : Nat) : ∀ (sh : Sh) (t : TypeId) (fuel : Nat) (cs : List Value) (x : DataW H × List MemPlace), shTyB P sh t = true → DataW.trod enc P W 0 (fun _ => true) true fuel t cs = some x →
    ∃ ro v, cs = v.cells.toList ∧ RoD W (OutB W fun _ => False) sh ro v ∧ roM sh ro + 1 ≤ uptoBulk x.1 ∧ ((∀ n ∈ x.1.weights P t, n ≤ N) → roMx N sh ro)
  | .i k, t, fuel, cs, x, hs, h => by
    simp only [shTyB] at hs
    split at hs
    · rename_i k' hu
      have hk := keq_eq hs
      subst hk
      cases fuel with
      | zero => simp [DataW.trod] at h
      | succ n =>
        unfold DataW.trod at h
        rw [hu] at h
        rcases cs with _ | ⟨c, _ | ⟨c2, r⟩⟩
        · simp at h
        · cases c <;> simp at h
          rename_i k2 z
          obtain ⟨⟨rfl, hz⟩, rfl⟩ := h
          refine ⟨.i z, .int k2 z, rfl, ?_, by simp [roM, uptoBulk], fun _ => trivial⟩
          simp only [RoD, roZ]
          refine ⟨trivial, ?_⟩
          simp only [Lit.wf, Bool.and_eq_true, decide_eq_true_eq] at hz
          cases k2 <;> simp [InR, IntKind.min, IntKind.max, IntKind.bits, IntKind.signed] at hz ⊢ <;> omega
        · simp at h
    · cases hs
  | .tb, t, fuel, cs, x, hs, h => by
    simp only [shTyB] at hs
    split at hs
    · rename_i hu
      cases fuel with
      | zero => simp [DataW.trod] at h
      | succ n =>
        unfold DataW.trod at h
        rw [hu] at h
        rcases cs with _ | ⟨c, _ | ⟨c2, r⟩⟩
        · simp at h
        · cases c <;> simp at h
          rename_i b
          subst h
          exact ⟨.b b, .bool b, rfl, by simp only [RoD, roB], by simp [roM, uptoBulk], fun _ => trivial⟩
        · simp at h
    · cases hs
  | .ts, t, fuel, cs, x, hs, h => by
    simp only [shTyB] at hs
    split at hs
    · rename_i hu
      cases fuel with
      | zero => simp [DataW.trod] at h
      | succ n =>
        unfold DataW.trod at h
        rw [hu] at h
        rcases cs with _ | ⟨c, _ | ⟨c2, r⟩⟩
        · simp at h
        · cases c <;> simp at h
          rename_i s
          obtain ⟨hz, rfl⟩ := h
          refine ⟨.s s, .string s, rfl, ?_, ?_, fun hw => ?_⟩
          · simp only [RoD, roS]
            refine ⟨trivial, ?_⟩
            have : s.size ≤ maxLen := hz
            simp only [maxLen] at this
            omega
          · simp only [roM, roS, uptoBulk]
            have : s.data.toList.length = s.size := by simp
            omega
          · have := hw s.data.toList.length (by simp [DataW.weights])
            have e : s.data.toList.length = s.size := by simp
            simp only [roMx, roS]
            omega
        · simp at h
    · cases hs
  | .ints k, t, fuel, cs, x, hs, h => by
    simp only [shTyB] at hs
    split at hs
    · rename_i e hu
      split at hs
      · rename_i k' hue
        simp only [Bool.and_eq_true] at hs
        have hk := keq_eq hs.1
        subst hk
        have hbs : 0 < P.bytesOf e := by have := hs.2.2; simp [Nat.blt] at this; omega
        rcases open_ints hu hue (Nat.eq_of_beq_eq_true hs.2.1) h with ⟨rfl, rfl⟩ | ⟨a, len, cap, zs, rfl, h2, h3, h4, h5, h6, h7, h8⟩
        · refine ⟨.l [], .slice none 0 0, rfl, ?_, by simp [roM, roL, uptoBulk], fun _ => Nat.zero_le _⟩
          simp only [RoD]
          exact ⟨none, 0, rfl, Nat.le_refl _, by simp [roL], (fun z hz => by cases hz), .inr ⟨rfl, rfl⟩⟩
        · have hzl : zs.length = cap := by simpa using h5
          have hR : AllR k zs := fun z hz => by
            have := h8 z hz
            simp only [Lit.wf, Bool.and_eq_true, decide_eq_true_eq] at this
            cases k <;> simp [InR, IntKind.min, IntKind.max, IntKind.bits, IntKind.signed] at this ⊢ <;> omega
          have hlen : (zs.take len).length = len := by rw [List.length_take]; omega
          have hmax : cap ≤ 140737488355328 ∨ True := .inr trivial
          refine ⟨.l (zs.take len), .slice (some a) len cap, rfl, ?_, ?_, fun hw => ?_⟩
          · simp only [RoD]
            have er : roL (.l (zs.take len)) = zs.take len := rfl
            rw [er]
            refine ⟨some a, cap, by rw [hlen], by omega, ?_, fun z hz => hR z (List.mem_of_mem_take hz), ?_⟩
            · rw [hlen]; simp only [maxLen] at h4; omega
            · rcases Nat.eq_zero_or_pos cap with h0 | h0
              · exact .inr ⟨by omega, h0⟩
              · have h00 := h7 0 (by omega)
                rw [add_zero_addr] at h00
                obtain ⟨ha, hb⟩ := addr_of_cell h00
                refine .inl ⟨a.block, a.off, by rw [← ha], ⟨hb, fun h => h⟩, fun i u hu => ?_⟩
                rw [List.getElem?_map, Option.map_eq_some_iff] at hu
                obtain ⟨z, hz, rfl⟩ := hu
                rw [List.getElem?_take] at hz
                split at hz
                · rename_i hi
                  have := h7 i (by omega)
                  have ea : a.add i = ⟨a.block, a.off + i, none⟩ := by rw [ha]; exact Addr.add_mid _ _ _
                  rw [ea] at this
                  rw [this]
                  simp [List.getD, hz]
                · cases hz
          · rw [h6]
            simp only [roM, roL, uptoBulk]
            have := bulkAll_len (lits (H := H) k (zs.take len))
            have e : (lits (H := H) k (zs.take len)).length = (zs.take len).length := by simp [lits]
            omega
          · rw [h6] at hw
            have elen : ∀ l : List Int, (lits (H := H) k l).length = l.length := fun l => by simp [lits]
            have := hw (((lits (H := H) k (zs.take len)).length + (lits (H := H) k (zs.drop len)).length) * P.bytesOf e) (by simp [DataW.weights, hu])
            rw [elen, elen] at this
            have h9 : ((zs.take len).length + (zs.drop len).length) * 1 ≤ ((zs.take len).length + (zs.drop len).length) * P.bytesOf e := Nat.mul_le_mul_left _ hbs
            show (zs.take len).length ≤ N
            omega
      · cases hs
    · cases hs
  | .l sh, t, fuel, cs, x, hs, h => by
    simp only [shTyB] at hs
    split at hs
    · rename_i e hu
      simp only [Bool.and_eq_true] at hs
      obtain ⟨hs1, hs2, hs3, hs4⟩ := hs
      have hbs : 0 < P.bytesOf e := by simp [Nat.blt] at hs4; omega
      have hc := Nat.eq_of_beq_eq_true hs2
      have hpos : 0 < shSize sh := by simp [Nat.blt] at hs3; omega
      rcases DataW.trod_slice hu h with ⟨rfl, rfl⟩ | ⟨a, len, cap, elems, rest, n, rfl, rfl, rfl, hb, hl, hm, hlen, hel, hsp, hns⟩
      · refine ⟨.r [], .slice none 0 0, rfl, ?_, by simp [roM, roX, uptoBulk], fun _ => ⟨Nat.zero_le _, fun x hx => by cases hx⟩⟩
        simp only [RoD]
        exact ⟨none, 0, [], rfl, Nat.le_refl _, by simp [roX], rfl, .inr ⟨rfl, rfl⟩⟩
      · obtain ⟨hrl, hrest⟩ := hsp rfl
        have hall : ∀ i, i < cap → ∃ ccs y, W.cells? 0 (a.add (i * P.cellsOf e)) (P.cellsOf e) = some ccs ∧ DataW.trod enc P W 0 (fun _ => true) true n e ccs = some y ∧ (i < len → elems[i]? = some y) := fun i hi => by
          by_cases hil : i < len
          · have h1 := hel i hil
            have h2 : elems[i]? = some elems[i] := List.getElem?_eq_getElem (by omega)
            rw [h2, Option.bind_eq_some_iff] at h1
            obtain ⟨ccs, q1, q2⟩ := h1
            exact ⟨ccs, _, q1, q2, fun _ => h2⟩
          · have h1 := hrest (i - len) (by omega)
            have h2 : rest[i - len]? = some rest[i - len] := List.getElem?_eq_getElem (by omega)
            rw [h2, Option.bind_eq_some_iff, show len + (i - len) = i by omega] at h1
            obtain ⟨ccs, q1, q2⟩ := h1
            exact ⟨ccs, _, q1, q2, fun h => absurd h hil⟩
        have hblk : 0 < cap → a = ⟨a.block, a.off, none⟩ ∧ a.block < W.heap.size := fun h0 => by
          obtain ⟨ccs, y, q1, q2, _⟩ := hall 0 h0
          obtain ⟨_, q3, q4⟩ := World.cells?_some q1
          have := q4 0 (by omega)
          rw [Nat.zero_mul, add_zero_addr, add_zero_addr] at this
          obtain ⟨v, hv⟩ : ∃ v, ccs[0]? = some v := ⟨ccs[0]'(by omega), List.getElem?_eq_getElem _⟩
          rw [hv] at this
          exact addr_of_cell this
        have hchain : ∀ m, m ≤ len → ∃ ros cs', ros.length = m ∧ ChainR (RoD W (OutB W fun _ => False) sh) ros cs' ∧ cs'.length = shSize sh * m ∧ (∀ i u, cs'[i]? = some u → W.cell? (a.add i) = some u) ∧ ros.length + (ros.map (roM sh)).sum ≤ uptoBulkAll ((elems.take m).map (·.1)) ∧ ((∀ y ∈ elems, ∀ n ∈ y.1.weights P e, n ≤ N) → ∀ ro ∈ ros, roMx N sh ro) := by
          intro m
          induction m with
          | zero => intro _; exact ⟨[], [], rfl, rfl, by simp, (fun i u h => by simp at h), by simp, fun _ x hx => by cases hx⟩
          | succ m ih =>
            intro hm'
            obtain ⟨ros, cs', r1, r2, r3, r4, r5, r6⟩ := ih (by omega)
            obtain ⟨ccs, y, q1, q2, q3⟩ := hall m (by omega)
            have q3 := q3 (by omega)
            obtain ⟨ro, v, rfl, s2, s3, s4⟩ := trod_ro N sh e n ccs y hs1 q2
            obtain ⟨_, q5, q6⟩ := World.cells?_some q1
            have hvl := RoD_cells sh ro v s2
            refine ⟨ros ++ [ro], cs' ++ v.cells.toList, by simp [r1], ChainR.snoc s2 ros cs' r2, by rw [List.length_append, r3, hvl, Nat.mul_add]; omega, fun i u hu => ?_, ?_, fun hy ro' hr => ?_⟩
            · rcases Nat.lt_or_ge i cs'.length with hi | hi
              · rw [List.getElem?_append_left hi] at hu; exact r4 i u hu
              · rw [List.getElem?_append_right hi] at hu
                have hi2 : i - cs'.length < v.cells.toList.length := (List.getElem?_eq_some_iff.1 hu).1
                have := q6 (i - cs'.length) (by omega)
                rw [hu] at this
                have e1 : m * P.cellsOf e = cs'.length := by rw [hc, r3, Nat.mul_comm]
                rw [← this, add_add_addr, e1, Nat.add_sub_cancel' hi]
            · rw [List.map_append, List.sum_append, List.length_append, List.take_add_one, q3, List.map_append, bulkAll_app]
              simp only [List.map_cons, List.map_nil, List.sum_cons, List.sum_nil, List.length_cons, List.length_nil, Option.toList_some, uptoBulkAll]
              omega
            · rcases List.mem_append.1 hr with hr | hr
              · exact r6 hy ro' hr
              · simp only [List.mem_cons, List.not_mem_nil, or_false] at hr
                subst hr
                exact s4 fun k hk => hy y (List.mem_of_getElem? q3) k hk
        obtain ⟨ros, cs', r1, r2, r3, r4, r5, r6⟩ := hchain len (Nat.le_refl _)
        refine ⟨.r ros, .slice (some a) len cap, rfl, ?_, ?_, fun hw => ⟨?_, ?_⟩⟩
        · simp only [RoD]
          have er : roX (.r ros) = ros := rfl
          rw [er]
          refine ⟨some a, cap, cs', by rw [r1], by omega, ?_, r2, ?_⟩
          · rw [r1]; simp only [maxLen] at hm; omega
          · rcases Nat.eq_zero_or_pos cap with h0 | h0
            · exact .inr ⟨by omega, h0⟩
            · obtain ⟨ha, hb⟩ := hblk h0
              refine .inl ⟨a.block, a.off, by rw [← ha], ⟨hb, fun h => h⟩, fun i u hu => ?_⟩
              have := r4 i u hu
              have ea : a.add i = ⟨a.block, a.off + i, none⟩ := by rw [ha]; exact Addr.add_mid _ _ _
              rwa [ea] at this
        · simp only [roM, roX, uptoBulk]
          rw [List.take_of_length_le (by omega)] at r5
          have := bulkAll_len (elems.map (·.1))
          rw [List.length_map] at this
          omega
        · have := hw (((elems.map (·.1)).length + (rest.map (·.1)).length) * P.bytesOf e) (by simp [DataW.weights, hu])
          rw [List.length_map, List.length_map] at this
          have h9 : (elems.length + rest.length) * 1 ≤ (elems.length + rest.length) * P.bytesOf e := Nat.mul_le_mul_left _ hbs
          show ros.length ≤ N
          omega
        · refine r6 fun y hy k hk => hw k ?_
          simp only [DataW.weights, hu, List.mem_cons, List.mem_append]
          exact .inr (.inl (weightsAll_mem (List.mem_map.2 ⟨y, hy, rfl⟩) k hk))
    · cases hs
  | .arr _ _, t, fuel, cs, x, hs, h => by simp [shTyB] at hs
  | .r _, t, fuel, cs, x, hs, h => by simp [shTyB] at hs

def slSh : Sh → Bool
  | .ints _ => true
  | .l _ => true
  | _ => false

/-- An argument that is a slice, as data. -/
theorem arg_ro {H : Type} {enc : TypeId × Value → H} {W : World} (N : Nat) (sh : Sh) {t : TypeId} {v : Value} {d : DataW H} {ps : List MemPlace} (hs : shTyB P sh t = true) (hsl : slSh sh = true) (hv : v.cells.toList = [v]) (h : DataW.Trod enc P W 0 (fun _ => true) true t v d ps) :
    ∃ ro, RoD W (OutB W fun _ => False) sh ro v ∧ (∃ ad n cap, v = .slice ad n cap) ∧ roM sh ro + 1 ≤ uptoBulk d ∧ ((∀ n ∈ d.weights P t, n ≤ N) → roMx N sh ro) := by
  obtain ⟨fuel, h⟩ := h
  obtain ⟨ro, u, e, q1, q2, q3⟩ := trod_ro N sh t fuel _ _ hs h
  have hu : ∃ ad n cap, u = .slice ad n cap := by
    cases sh <;> simp only [slSh, Bool.false_eq_true] at hsl <;> simp only [RoD] at q1
    · obtain ⟨a, cap, rfl, _⟩ := q1; exact ⟨_, _, _, rfl⟩
    · obtain ⟨a, cap, cs, rfl, _⟩ := q1; exact ⟨_, _, _, rfl⟩
  have huv : v = u := by
    obtain ⟨ad, n, cap, rfl⟩ := hu
    rw [hv] at e
    simpa [Value.cells] using e
  subst huv
  exact ⟨ro, q1, hu, q2, q3⟩

/-- A law as a call off a world that holds the globals. -/
theorem law_gen {Γ : Tab} (hΓ : TabOk P Γ) (hgl : Γ.gl = keysOf Γ.gh) (hlow : ∀ g ∈ keysOf Γ.gh, g < 490) {f : FuncId} {fn : Func} (hf : P.funcs[f]? = some fn) {av : List AV} {args' : List SV} {L : Loops} {K : List RV → List (Option (List Seg)) → Prop} {inv : Nat → List Pv → Nat → Prop}
    (k1 : okA 600 av args' []) (k2 : args'.length ≤ fn.ntmps) (k3 : VcG 0 Γ fn L (Γ.gh ++ (490, .world) :: []) args' K inv) (hK : ∀ rvs fin, K rvs fin → ∃ e, rvs = [.v (.b e true)])
    {W : World} {vs : List Value} (hG : Glob Γ.gh W fun _ => False) (hA : AsD W (OutB W fun _ => False) (fun _ => none) (fun _ => { blk := 0, off := 0, cap := 0 }) av vs []) :
    Calls P f vs.toArray W fun e w' => e = .returned (.bool true) ∧ Below W.heap.size W w' := by
  have hm := mem_start W fun _ => { blk := 0, off := 0, cap := 0 }
  obtain ⟨hh1, hh2⟩ := okA_heap av vs [] 600 args' [] hA k1
  obtain ⟨ρ1, m1, m2, m3, m4, m5⟩ := gen_mem hG hgl hlow hm (ks := []) (fun k hk => by cases hk) List.nodup_nil (M' := fun _ => False) (fun b => ⟨fun h => h.elim, fun ⟨k, hk, _⟩ => by cases hk⟩) hh1 hh2
  have hargs := okA_args m3 m4 av vs [] 600 args' [] hA k1 (fun i hi => by simp at hi)
  refine (vcG_calls hΓ hf k3 k2 m2 m1 hargs).mono fun e w' he => ?_
  obtain ⟨x, v, h', ρ', rfl, r1, r2, r3, r4⟩ := he
  obtain ⟨rvs', fin', t1, t3, t4, t5⟩ := kvG_sound r3 r2 r1
  obtain ⟨e, rfl⟩ := hK _ _ t1
  rcases t3 with ⟨r, hr, hd⟩ | ⟨hn, _⟩
  · simp only [List.cons.injEq, and_true] at hr
    subst hr
    simp only [RvD, D] at hd
    exact ⟨by rw [hd], r3.frame.below fun _ h => h⟩
  · exact absurd rfl hn

end
end Go.Gx

/- HashKeys: the keyed hash of parts is that of the parts joined; a long key stands for its hash, a short one for itself with a zero behind it. For all keys and lists whose bytes are not more than the cards' bound; the tables lie as the program's text lays them. -/
namespace Go.Gx
open Go.Proofs Go.Sp Go.RowKit
set_option linter.unusedVariables false
set_option maxRecDepth 100000
namespace HashKeys
def vc9 (k d : RO) (K : List RV → List (Option (List Seg)) → Prop) (Q : Nat → List Pv → Prop) : Prop := fnVcG 0 Γ14 Tryd.f9 [] [.ro 490 (.ints .u8) k, .ro 490 (.l (.ints .u8)) d] (gh ++ (490, .world) :: []) K Q
theorem vc9_eq : ∀ (k d : RO) (K : List RV → List (Option (List Seg)) → Prop) (Q : Nat → List Pv → Prop), vc9 k d K Q = (Need (((roJ d).length : Int) ≤ (70368744177664 : Int)) ∧ ∀ (x1 : List Int), x1 = roJ d → AllR IntKind.u8 x1 → ∀ (x2 : Int), x2 = ((roJ d).length : Int) → (0 : Int) ≤ x2 → InR IntKind.i64 x2 → Need (((roL k).length : Int) ≤ (1152921504606846976 : Int)) ∧ Need (((roJ d).length : Int) + (128 : Int) ≤ (1152921504606846976 : Int)) ∧ ∀ (x3 : List Int), x3 = macL (roL k) (roJ d) → x3.length = (64 : Nat) → AllR IntKind.u8 x3 → Need ((0 : Int) + x2 ≤ ↑x1.length) ∧ Need (((roL k).length : Int) ≤ (1152921504606846976 : Int)) ∧ Need (↑(roJ (RO.r [RO.l (List.take x2.toNat (List.drop (0 : Nat) x1))])).length + (128 : Int) ≤ (1152921504606846976 : Int)) ∧ ∀ (x4 : List Int), x4 = macL (roL k) (roJ (RO.r [RO.l (List.take x2.toNat (List.drop (0 : Nat) x1))])) → x4.length = (64 : Nat) → AllR IntKind.u8 x4 → ((!x3 == x4) = true → K [RV.v (SV.b true false)] []) ∧ ((!x3 == x4) = false → (decide (((roL k).length : Int) > (128 : Int)) = true → Need (((roJ (RO.r [k])).length : Int) ≤ (1152921504606846976 : Int)) ∧ ∀ (x5 : List Int), x5 = sha (roJ (RO.r [k])) → x5.length = (64 : Nat) → AllR IntKind.u8 x5 → Need ((0 : Int) + x2 ≤ ↑x1.length) ∧ Need (↑(roL (RO.l (List.take (64 : Nat) (List.drop (0 : Nat) x5)))).length ≤ (1152921504606846976 : Int)) ∧ Need (↑(roJ (RO.r [RO.l (List.take x2.toNat (List.drop (0 : Nat) x1))])).length + (128 : Int) ≤ (1152921504606846976 : Int)) ∧ ∀ (x6 : List Int), x6 = macL (roL (RO.l (List.take (64 : Nat) (List.drop (0 : Nat) x5)))) (roJ (RO.r [RO.l (List.take x2.toNat (List.drop (0 : Nat) x1))])) → x6.length = (64 : Nat) → AllR IntKind.u8 x6 → K [RV.v (SV.b false (x3 == x6))] []) ∧ (decide (((roL k).length : Int) > (128 : Int)) = false → (decide (((roL k).length : Int) < (128 : Int)) = true → Need ((([] ++ roL k).length : Int) * (1 : Int) ≤ (70368744177664 : Int)) ∧ ∀ (x7 : List Int), x7 = [] ++ roL k → AllR IntKind.u8 x7 → ∀ (x8 : Int), x8 = (([] ++ roL k).length : Int) → (0 : Int) ≤ x8 → InR IntKind.i64 x8 → Need (↑(x7 ++ List.take (1 : Nat) (List.drop (0 : Nat) [(0 : Int)])).length * (1 : Int) ≤ (70368744177664 : Int)) ∧ Need (x8 = ↑x7.length) ∧ Need ((1 : Int) ≤ (1 : Int)) ∧ ∀ (x9 : List Int), x9 = x7 ++ List.take (1 : Nat) (List.drop (0 : Nat) [(0 : Int)]) → AllR IntKind.u8 x9 → ∀ (x10 : Int), x10 = ↑(x7 ++ List.take (1 : Nat) (List.drop (0 : Nat) [(0 : Int)])).length → (0 : Int) ≤ x10 → InR IntKind.i64 x10 → Need ((0 : Int) + x10 ≤ ↑x9.length) ∧ Need ((0 : Int) + x2 ≤ ↑x1.length) ∧ Need (↑(roL (RO.l (List.take x10.toNat (List.drop (0 : Nat) x9)))).length ≤ (1152921504606846976 : Int)) ∧ Need (↑(roJ (RO.r [RO.l (List.take x2.toNat (List.drop (0 : Nat) x1))])).length + (128 : Int) ≤ (1152921504606846976 : Int)) ∧ ∀ (x11 : List Int), x11 = macL (roL (RO.l (List.take x10.toNat (List.drop (0 : Nat) x9)))) (roJ (RO.r [RO.l (List.take x2.toNat (List.drop (0 : Nat) x1))])) → x11.length = (64 : Nat) → AllR IntKind.u8 x11 → K [RV.v (SV.b false (x3 == x11))] []) ∧ (decide (((roL k).length : Int) < (128 : Int)) = false → K [RV.v (SV.b true true)] [])))) := by
  intros
  kernel_rfl

theorem mac_long (k b : List Int) (h : 128 < k.length) : macL (sha k) b = macL k b := by
  have h1 : padL (sha k) = padL k := by
    unfold padL
    rw [sha_len, if_neg (by omega), if_pos h]
  unfold macL
  rw [h1]
theorem mac_short (k b : List Int) (h : k.length < 128) : macL (k ++ [0]) b = macL k b := by
  have h1 : padL (k ++ [0]) = padL k := by
    have h2 : 128 - k.length = (127 - k.length) + 1 := by omega
    unfold padL padK splice
    rw [List.length_append, if_neg (by simp; omega), if_neg (by omega), List.take_of_length_le (l := k) (by omega), List.take_of_length_le (l := k ++ [0]) (by simp; omega)]
    simp only [List.take_zero, List.nil_append, Nat.zero_add, List.drop_replicate, List.length_append, List.length_cons, List.length_nil]
    rw [h2, List.replicate_succ, show 128 - (k.length + (0 + 1)) = 127 - k.length by omega, List.append_assoc]
    rfl
  unfold macL
  rw [h1]
theorem flat_sum : ∀ xs : List RO, ((xs.map roL).flatten).length ≤ (xs.map (roM (.ints .u8))).sum
  | [] => by simp
  | x :: xs => by
      have := flat_sum xs
      have h : roM (.ints .u8) x = (roL x).length := rfl
      simp only [List.map_cons, List.flatten_cons, List.length_append, List.sum_cons]
      omega
theorem law (W : World) (hG : Glob gh W fun _ => False) (k : RO) (v : Value) (hv : RoD W (OutB W fun _ => False) (.ints .u8) k v) (hs : ∃ ad n cap, v = .slice ad n cap) (hx : roMx reachBytes (.ints .u8) k)
    (d : RO) (v1 : Value) (hv1 : RoD W (OutB W fun _ => False) (.l (.ints .u8)) d v1) (hs1 : ∃ ad n cap, v1 = .slice ad n cap) (hx1 : roMx reachBytes (.l (.ints .u8)) d)
    (hM : roM (.ints .u8) k + roM (.l (.ints .u8)) d ≤ 1048576) :
    Calls Tryd.prog 9 #[v, v1] W fun e w' => e = .returned (.bool true) ∧ Below W.heap.size W w' := by
  have hf := flat_sum (roX d)
  have hM : (roL k).length + ((roX d).length + ((roX d).map (roM (.ints .u8))).sum) ≤ 1048576 := hM
  have hT : (roJ d).length = ((roX d).map roL).flatten.length := rfl
  refine law_gen Γ14_ok rfl glow rfl (fn := Tryd.f9) (L := []) (av := [.d (.ints .u8) k, .d (.l (.ints .u8)) d]) (args' := [.ro 490 (.ints .u8) k, .ro 490 (.l (.ints .u8)) d]) (K := fun rvs fin => ∃ e, rvs = [.v (.b e true)]) ⟨rfl, rfl, trivial⟩ (Nat.le_of_ble_eq_true (by kernel_rfl)) (vcG_noloops ?_) (fun _ _ h => h) hG ⟨v, _, rfl, hv, hs, v1, _, rfl, hv1, hs1, rfl, rfl⟩
  show vc9 k d _ _
  rw [vc9_eq]
  refine ⟨need_of (by omega), ?_⟩
  intro x1 e1 _ x2 e2 _ _
  subst e1; subst e2
  have hone : roJ (.r [.l (((roJ d).drop 0).take (((roJ d).length : Nat) : Int).toNat)]) = roJ d := by
    rw [sha_one, roL_l, List.drop_zero, List.take_of_length_le (by omega)]
  rw [hone]
  refine ⟨need_of (by omega), need_of (by omega), ?_⟩
  intro x3 e3 _ _
  refine ⟨need_of (by omega), need_of (by omega), need_of (by omega), ?_⟩
  intro x4 e4 _ _
  have e34 : x3 = x4 := by rw [e3, e4]
  refine ⟨fun h => by rw [e34] at h; simp at h, fun _ => ⟨fun h => ?_, fun h => ⟨fun h2 => ?_, fun h2 => ⟨true, rfl⟩⟩⟩⟩
  · have h := of_decide_eq_true h
    rw [sha_one]
    refine ⟨need_of (by omega), ?_⟩
    intro x5 e5 h5 _
    rw [roL_l, take64 x5 h5]
    refine ⟨need_of (by omega), need_of (by omega), need_of (by omega), ?_⟩
    intro x6 e6 _ _
    rw [e5, mac_long _ _ (by omega)] at e6
    exact ⟨false, by rw [e3, e6]; simp⟩
  · have h2 := of_decide_eq_true h2
    rw [List.nil_append]
    refine ⟨need_of (by omega), ?_⟩
    intro x7 e7 _ x8 e8 _ _
    subst e7; subst e8
    rw [show List.take 1 (List.drop 0 [(0 : Int)]) = [0] from rfl]
    refine ⟨need_of (by simp; omega), need_of rfl, need_of (by omega), ?_⟩
    intro x9 e9 _ x10 e10 _ _
    rw [← e9] at e10
    have h9 : x9.length = (roL k).length + 1 := by rw [e9]; simp
    rw [roL_l, List.drop_zero, List.take_of_length_le (l := x9) (by omega)]
    refine ⟨need_of (by omega), need_of (by omega), need_of (by omega), need_of (by omega), ?_⟩
    intro x11 e11 _ _
    rw [e9, mac_short _ _ (by omega)] at e11
    exact ⟨false, by rw [e3, e11]; simp⟩
end HashKeys

namespace HashKeys
open Go.Proofs.YtihihilhfijloaaDoor
open Go.ChangeShapes Go.WideShapes Go.ChangeAt Go.RowKit
theorem reads (t : Nat) (h : t ∈ Tryd.f9.params.toList) : Tryd.prog.readableRec t = true ∧ t < Tryd.prog.types.size := by
  have hp : Tryd.f9.params.toList = [25, 28] := by kernel_rfl
  rw [hp] at h
  simp only [List.mem_cons, List.not_mem_nil, or_false] at h
  rcases h with rfl | rfl <;> exact ⟨by kernel_rfl, Nat.le_of_ble_eq_true (by kernel_rfl)⟩

set_option maxRecDepth 100000 in
/-- What the call gives, for every argument and every world that holds the tables. -/
theorem contract (H : Type) (enc : TypeId × Value → H) (W : World) (base : Nat) (args : Array Value) (ds gs : List (DataW H)) (before : List MemPlace)
    (hval : ∀ (j : Nat) t v, Tryd.f9.params[j]? = some t → args[j]? = some v → Value.okWide Tryd.prog W .any base t v)
    (hW : DataW.Whole enc Tryd.prog Tryd.f9.params.toList Rows.hashKeysSpec.vars false W args.toList ds gs before)
    (hw : (DataW.weightsEach Tryd.prog (Tryd.f9.params.toList ++ (Rows.OpenSpec.upto Rows.hashKeysSpec).bare.plain.varTypes Tryd.prog) (ds ++ gs)).all (· ≤ reachBytes) = true) (hL : laidMetH Tryd.prog Rows.hashKeysUptoRow.laid W) (hC : Rows.uptoSmall H (ds ++ gs) = true) :
    Calls Tryd.prog 9 args W fun e W' => ∃ v, e = .returned v ∧ Rows.hashKeysSpec.post enc Tryd.prog Tryd.f9 false true false false W args v W' := by
  have hA : DataW.TrodAll enc Tryd.prog W 0 (fun _ => true) true [25, 28] args.toList ds _ := hW.choose_spec.choose_spec.1
  obtain ⟨v0, vs0, d0, ds0, p0, q0, hargs, hds, _, h0, r0⟩ := trodAll_cons hA
  obtain ⟨v1, vs1, d1, ds1, p1, q1, rfl, hds1, _, h1, r1⟩ := trodAll_cons r0
  obtain ⟨rfl, hdsn, _⟩ := trodAll_nil r1
  obtain rfl : args = #[v0, v1] := by cases args; simp_all
  have hds : ds = [d0, d1] := by rw [hds, hds1, hdsn]
  have hp : Tryd.f9.params = #[25, 28] := by kernel_rfl
  rw [hp] at hval
  have hp2 : Tryd.f9.params.toList = [25, 28] := by kernel_rfl
  rw [hds, hp2] at hw
  have hC : Rows.uptoBulkAll (ds ++ gs) ≤ 1048576 := of_decide_eq_true hC
  rw [hds, bulkAll_app] at hC
  simp only [Rows.uptoBulkAll] at hC
  have hc0 : v0.cells.toList = [v0] := by
    obtain ⟨a, len, cap, e⟩ := okWide_slice (e := 5) (by kernel_rfl) (hval 0 25 v0 rfl rfl)
    rw [e]; rfl
  obtain ⟨o0, e0, s0, b0, x0⟩ := arg_ro reachBytes (.ints .u8) (by kernel_rfl) rfl hc0 h0
  have x0 := x0 fun n hn => by simpa using List.all_eq_true.1 hw n (DataW.weights_mem_each (j := 0) rfl rfl n hn)
  have hc1 : v1.cells.toList = [v1] := by
    obtain ⟨a, len, cap, e⟩ := okWide_slice (e := 25) (by kernel_rfl) (hval 1 28 v1 rfl rfl)
    rw [e]; rfl
  obtain ⟨o1, e1, s1, b1, x1⟩ := arg_ro reachBytes (.l (.ints .u8)) (by kernel_rfl) rfl hc1 h1
  have x1 := x1 fun n hn => by simpa using List.all_eq_true.1 hw n (DataW.weights_mem_each (j := 1) rfl rfl n hn)
  refine (law W (tab_glob hL) o0 v0 e0 s0 x0 o1 v1 e1 s1 x1 (by omega)).mono fun e W' ⟨he, hB⟩ => ?_
  subst he
  refine ⟨_, rfl, post_true (tb := 4) laidOut rfl (by kernel_rfl) (by kernel_rfl) reads ?_ hW hB⟩
  intro ds hds
  have hds : ds.length = 2 := hds
  match ds, hds with
  | [a0, a1], _ => exact ⟨rfl, rfl, rfl⟩

def wargs : Array Value := #[.slice none 0 0, .slice none 0 0]
theorem laid_met (os : Os) : laidMet Tryd.prog Rows.hashKeysUptoRow.laid ((laidWorld os).forCall (fun _ _ => 0) ⟨#[], wargs, []⟩).memory :=
  laidMet_of_run' 8 (by kernel_rfl) (by kernel_rfl)
theorem reads0 (os : Os) {H : Type} (enc : TypeId × Value → H) : ∃ places, DataW.whole enc Tryd.prog ((laidWorld os).forCall (fun _ _ => 0) ⟨#[], wargs, []⟩).memory Tryd.f9.params.toList Rows.hashKeysSpec.vars false wargs.toList 8 = some ([.nil, .nil], [], places) :=
  ⟨[], by kernel_rfl⟩

set_option maxRecDepth 100000 in
theorem lifted (os : Os) (started : os.Started) (H : Type) (enc : TypeId × Value → H) (F : Stop.Interp) :
    ReturnsInHanded {} Tryd.checked os 9 .any ((Rows.OpenSpec.upto Rows.hashKeysSpec).preRow enc Tryd.prog Tryd.f9 Rows.hashKeysUptoRow.domain false Rows.hashKeysUptoRow.laid) (((Rows.OpenSpec.upto Rows.hashKeysSpec).at F).post enc Tryd.prog Tryd.f9 false true false false) := by
  obtain ⟨places, hx⟩ := reads0 os enc
  refine returnsInHanded_of_row (C := Tryd.checked) (s := (Rows.OpenSpec.upto Rows.hashKeysSpec)) own started (by kernel_rfl) Tryd.func9
    (witness_row_at (enc := enc) (C := Tryd.checked) false (laidWorld os) wargs rfl (by kernel_rfl) (by kernel_rfl) (by kernel_rfl)
      (OpenSpec.preRow_of_cond 8 hx (by kernel_rfl) (fun k hk => by cases hk; kernel_rfl) (by kernel_rfl) (laid_met os))) ?_
  intro W base args ds gs before hval hW _ hcond hw hL _ _
  exact contract H enc W base args ds gs before hval hW hw hL (hcond _ rfl)

theorem said : Rows.HashKeysUptoSaid :=
  OpenClaim.holds_of_cond 9 Tryd.f9 rfl rfl rfl rfl rfl rfl rfl ⟨rfl, rfl, rfl, rfl, rfl⟩ rfl rfl rfl rfl rfl (by kernel_rfl) Tryd.func9 (by kernel_rfl)
    (of_decide_eq_true (by kernel_rfl)) (by unfold Func.isWrapper; first | (rw [if_pos (by decide +kernel)]; kernel_rfl) | (rw [if_neg (by decide +kernel)]; exact ⟨rfl, rfl⟩))
    (fun os started H enc _ F => by rw [OpenClaim.pre_eq_preRow]; exact lifted os started H enc F)

theorem plain (f : FuncId) (fn : Func) (hf : Tryd.pinned.checked.prog.funcNamed "veil/veillaw03.HashKeys" = some f) (hfn : Tryd.pinned.checked.prog.funcs[f]? = some fn) :
    false = Tryd.pinned.checked.prog.looks [] ∧ ∀ (j : Nat) t, fn.params[j]? = some t → Tryd.pinned.checked.prog.wantsStandIn t = false := by
  obtain rfl : f = 9 := Option.some.inj ((show Tryd.prog.funcNamed "veil/veillaw03.HashKeys" = some 9 by kernel_rfl).symm.trans hf) |>.symm
  obtain rfl : fn = Tryd.f9 := (Option.some.inj (Tryd.func9.symm.trans hfn)).symm
  refine ⟨by kernel_rfl, fun j t ht => ?_⟩
  have hp : Tryd.f9.params = #[25, 28] := by kernel_rfl
  rw [hp] at ht
  have := Array.mem_of_getElem? ht
  simp only [List.mem_toArray, List.mem_cons, List.not_mem_nil, or_false] at this
  rcases this with rfl | rfl <;> exact (show Tryd.prog.wantsStandIn _ = false by kernel_rfl)

theorem card : Rows.HashKeysUptoCardSaid :=
  Claim7.holds_tied_plain_at .later [] _ _ _ _ said (fun _ h => by cases h) (by kernel_rfl) (fun _ h => by cases h) hashKeysUpto_row_tie rfl ⟨rfl, rfl⟩ (by kernel_rfl) rfl plain (by kernel_rfl)
end HashKeys
end Go.Gx

namespace Go.Proofs.YtihihilhfijloaaDoor
theorem hashKeysProved : Rows.HashKeysUptoCardSaid := Go.Gx.HashKeys.card
end Go.Proofs.YtihihilhfijloaaDoor
#print axioms Go.Proofs.YtihihilhfijloaaDoor.hashKeysProved
