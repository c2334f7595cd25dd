/- Part 6 of the proof: the evaluator of the code, its soundness, and what it shows of the functions. -/
import Derived.Test.YthgclfedhgmpiaaDoorM5
import Derived.Laws.Strings

/- Write and Clone, as general contracts. -/
namespace Go.Gx
open Go.Proofs Go.Sp
set_option linter.unusedVariables false
set_option maxRecDepth 100000

theorem glow : ∀ g ∈ keysOf gh, g < 490 := fun g hg => by have hg : g ∈ [3, 4] := hg; simp at hg; omega
def R23 (ws bl : List Int) (n : Int) (m : Bool) : List Seg := [.arr .u64 8 false ws, .arr .u8 128 false bl, .one (.i .i64 ⟨false, n⟩), .one (.b false m)]
def H6 (l : List Seg) : Heap := gh ++ (490, .world) :: [(600, .segs false l)]
def L23g : Loops := [(1, ⟨[.p 600 0, .ro 490 (.ints .u8) (.l [])] ++ reps .any 48, H6 (R23 [] [] 0 false), 2000⟩)]
def vc23g (ws bl : List Int) (n : Int) (m : Bool) (d : RO) (K : List RV → List (Option (List Seg)) → Prop) (Q : Nat → List Pv → Prop) : Prop := fnVcG 1 Γ5 Tryd.f61 L23g [.p 600 0, .ro 490 (.ints .u8) d] (H6 (R23 ws bl n m)) K Q
def lc23g (d : RO) (k ws bl : List Int) (n : Int) (m : Bool) (K : List RV → List (Option (List Seg)) → Prop) (Q : Nat → List Pv → Prop) : Prop := loopVcG 1 Γ5 Tryd.f61 L23g 1 [.ro d, .l k, .l ws, .l bl, .z n, .b m] K Q
def vc23n (d : RO) (K : List RV → List (Option (List Seg)) → Prop) (Q : Nat → List Pv → Prop) : Prop := fnVcG 0 Γ5 Tryd.f61 [] [.np, .ro 490 (.ints .u8) d] (gh ++ (490, .world) :: []) K Q
theorem vc23g_eq : ∀ (ws bl : List Int) (n : Int) (m : Bool) (d : RO) (K : List RV → List (Option (List Seg)) → Prop) (Q : Nat → List Pv → Prop), vc23g ws bl n m d K Q = ∀ (x1 : List Int), x1 = ws → x1.length = (8 : Nat) → AllR IntKind.u64 x1 → ∀ (x2 : List Int), x2 = bl → x2.length = (128 : Nat) → AllR IntKind.u8 x2 → ∀ (x3 : Int), x3 = n → InR IntKind.i64 x3 → ∀ (x4 : Bool), x4 = !m → (x4 = true → K [] [some [Seg.arr IntKind.u64 (8 : Nat) false x1, Seg.arr IntKind.u8 (128 : Nat) false x2, Seg.one (SV.i IntKind.i64 { st := false, z := x3 }), Seg.one (SV.b false m)]]) ∧ (x4 = false → ∀ (x5 : Int), x5 = IntKind.i64.wrap ((1152921504606846976 : Int) - x3) → InR IntKind.i64 x5 → (decide (((roL d).length : Int) > x5) = true → K [] [some [Seg.arr IntKind.u64 (8 : Nat) false x1, Seg.arr IntKind.u8 (128 : Nat) false x2, Seg.one (SV.i IntKind.i64 { st := false, z := x3 }), Seg.one (SV.b false m)]]) ∧ (decide (((roL d).length : Int) > x5) = false → Same Tryd.f61 (1 : Nat) (itemsOf Tryd.f61 (1 : Nat)) ∧ Q (1 : Nat) [Pv.ro d, Pv.l K80, Pv.l x1, Pv.l x2, Pv.z x3, Pv.b m])) := by
  intros
  kernel_rfl
theorem lc23g_eq : ∀ (d : RO) (k ws bl : List Int) (n : Int) (m : Bool) (K : List RV → List (Option (List Seg)) → Prop) (Q : Nat → List Pv → Prop), lc23g d k ws bl n m K Q = ((decide (((roL d).length : Int) > (0 : Int)) = true → ∀ (x1 : Int), x1 = n.tmod (128 : Int) → InR IntKind.i64 x1 → Need ((0 : Int) ≤ x1 ∧ x1 ≤ (128 : Int) ∧ (128 : Int) ≤ (128 : Int)) ∧ Need (x1 + ((128 : Int) - x1) ≤ (128 : Int)) ∧ ∀ (x2 : List Int), x2 = ws → x2.length = (8 : Nat) → AllR IntKind.u64 x2 → ∀ (x3 : List Int), x3 = splice bl x1.toNat (List.take ((128 : Int) - x1).toNat (roL d)) → x3.length = (128 : Nat) → AllR IntKind.u8 x3 → ∀ (x4 : Int), x4 = n → InR IntKind.i64 x4 → ∀ (x5 : Int), x5 = min (((roL d).length : Int)) ((128 : Int) - x1) → InR IntKind.i64 x5 → Need ((0 : Int) ≤ x5 ∧ x5 ≤ ((roL d).length : Int) ∧ ((roL d).length : Int) ≤ ((roL d).length : Int)) ∧ ∀ (x6 : Int), x6 = IntKind.i64.wrap (x4 + x5) → InR IntKind.i64 x6 → ∀ (x7 : Int), x7 = IntKind.i64.wrap (x1 + x5) → InR IntKind.i64 x7 → ((x7 == (128 : Int)) = true → ∀ (x8 : List Int), x8 = compr x2 x3 → x8.length = (8 : Nat) → AllR IntKind.u64 x8 → ∀ (x9 : List Int), x9 = x3 → x9.length = (128 : Nat) → AllR IntKind.u8 x9 → ∀ (x10 : Int), x10 = x6 → InR IntKind.i64 x10 → Same Tryd.f61 (1 : Nat) (itemsOf Tryd.f61 (1 : Nat)) ∧ Q (1 : Nat) [Pv.ro (RO.l (List.take (((roL d).length : Int) - x5).toNat (List.drop x5.toNat (roL d)))), Pv.l k, Pv.l x8, Pv.l x9, Pv.z x10, Pv.b m]) ∧ ((x7 == (128 : Int)) = false → Same Tryd.f61 (1 : Nat) (itemsOf Tryd.f61 (1 : Nat)) ∧ Q (1 : Nat) [Pv.ro (RO.l (List.take (((roL d).length : Int) - x5).toNat (List.drop x5.toNat (roL d)))), Pv.l k, Pv.l x2, Pv.l x3, Pv.z x6, Pv.b m])) ∧ (decide (((roL d).length : Int) > (0 : Int)) = false → K [] [some [Seg.arr IntKind.u64 (8 : Nat) false ws, Seg.arr IntKind.u8 (128 : Nat) false bl, Seg.one (SV.i IntKind.i64 { st := false, z := n }), Seg.one (SV.b false m)]])) := by
  intros
  kernel_rfl
theorem vc23n_eq : ∀ (d : RO) (K : List RV → List (Option (List Seg)) → Prop) (Q : Nat → List Pv → Prop), vc23n d K Q = K [] [] := by
  intros
  kernel_rfl
/-- What a state holds behind more bytes. -/
def wrR (ws bl : List Int) (n : Int) (m : Bool) (b : List Int) : List Seg := R23 (wr m ⟨ws, bl, n⟩ b).ws (wr m ⟨ws, bl, n⟩ b).bl (wr m ⟨ws, bl, n⟩ b).n m
def writeG : List AV → Option (List Prop × List RV × List (Option (List Seg)))
  | [.m [.arr .u64 8 _ ws, .arr .u8 128 _ bl, .one (.i .i64 n), .one (.b _ m)], .d (.ints .u8) d] => some ([m = true → 0 ≤ n.z ∧ n.z ≤ 1152921504606846976], [], [some (wrR ws bl n.z m (roL d))])
  | [.v .np, .d (.ints .u8) d] => some ([], [], [])
  | _ => none
theorem eqR (ws bl : List Int) (n : Int) (m : Bool) : eqSegs (R23 ws bl n m) (R23 ws bl n m) := ⟨⟨rfl, rfl, rfl⟩, ⟨rfl, rfl, rfl⟩, ⟨rfl, rfl⟩, ⟨rfl, rfl⟩, trivial⟩
theorem eqR' {e1 e2 e3 e4 : Bool} (ws bl : List Int) (n : Int) (m : Bool) : eqSegs [.arr .u64 8 e1 ws, .arr .u8 128 e2 bl, .one (.i .i64 ⟨e3, n⟩), .one (.b e4 m)] (R23 ws bl n m) := ⟨⟨rfl, rfl, rfl⟩, ⟨rfl, rfl, rfl⟩, ⟨rfl, rfl⟩, ⟨rfl, rfl⟩, trivial⟩
def inv23g (b : List Int) (s : HS) (m : Bool) (key : Nat) (ps : List Pv) (mm : Nat) : Prop :=
  key = 1 ∧ ∃ (j : Nat) (d : RO), j ≤ b.length ∧ roL d = b.drop j ∧ ps = [.ro d, .l K80, .l (feed (b.take j) s).ws, .l (feed (b.take j) s).bl, .z (feed (b.take j) s).n, .b m] ∧ mm = b.length - j

set_option maxHeartbeats 2000000 in
theorem writeG_ok : CallOk Tryd.prog gh 61 (genCtr [.m, .d (.ints .u8)] writeG) := by
  refine call_gen (fn := Tryd.f61) Γ5_ok rfl glow rfl (by kernel_rfl) (by kernel_rfl) _ writeG fun av p rvs fin hs hp hf => ?_
  unfold writeG at hs
  split at hs
  · rename_i e1 ws e2 bl n e3 m d
    simp only [Option.some.injEq, Prod.mk.injEq] at hs
    obtain ⟨rfl, rfl, rfl⟩ := hs
    obtain ⟨⟨⟨hws, _⟩, ⟨hbl, hblr⟩, hn, _, _⟩, ⟨hdr, hdl⟩, _⟩ := hf
    obtain ⟨nT, n⟩ := n
    dsimp only at *
    have hp : m = true → 0 ≤ n ∧ n ≤ 1152921504606846976 := hp.1
    generalize hb : roL d = b at *
    refine ⟨[.p 600 0, .ro 490 (.ints .u8) d], [(600, .segs false (R23 ws bl n m))], L23g, fun key ps mm => m = true ∧ n + (b.length : Int) ≤ 1152921504606846976 ∧ inv23g b ⟨ws, bl, n⟩ m key ps mm, ⟨rfl, rfl, ⟨_, rfl, eqR' ws bl n m⟩, rfl, trivial⟩, Nat.le_of_ble_eq_true (by kernel_rfl), ?_, ?_, ?_⟩
    · intro k t ht g hg
      have hg : g ∈ [3, 4, 490, 600] := hg
      simp only [List.mem_cons, List.not_mem_nil, or_false] at hg
      simp only [L23g, List.mem_cons, List.not_mem_nil, or_false, Prod.mk.injEq] at ht
      obtain ⟨rfl, rfl⟩ := ht
      rcases hg with rfl | rfl | rfl | rfl <;> exact ⟨by omega, rfl⟩
    · rintro vk t ps mm ht ⟨rfl, hle, rfl, j, d', hj, hd', rfl, rfl⟩
      simp only [L23g, List.mem_cons, List.not_mem_nil, or_false, Prod.mk.injEq] at ht
      obtain ⟨_, rfl⟩ := ht
      show lc23g d' K80 (feed (b.take j) ⟨ws, bl, n⟩).ws (feed (b.take j) ⟨ws, bl, n⟩).bl (feed (b.take j) ⟨ws, bl, n⟩).n true _ _
      rw [lc23g_eq]
      rw [hd']
      obtain ⟨hn0, hn1⟩ := hp rfl
      have hfn := feed_n (b.take j) ⟨ws, bl, n⟩
      rw [List.length_take, Nat.min_eq_left hj] at hfn
      have hfb := feed_bl (b.take j) ⟨ws, bl, n⟩
      dsimp only at hfn hfb
      have hdl' : ((b.drop j).length : Int) = (b.length : Int) - j := by rw [List.length_drop]; omega
      rw [hdl']
      generalize hS : feed (b.take j) ⟨ws, bl, n⟩ = S at hfn hfb ⊢
      refine ⟨fun hlt => ?_, fun hge => ?_⟩
      · have hlt := of_decide_eq_true hlt
        intro x1 e1 _
        have hx1 : x1 = S.n % 128 := by rw [e1, Int.tmod_eq_emod_of_nonneg (by omega)]
        refine ⟨need_of (by omega), need_of (by omega), fun x2 e2 l2 r2 x3 e3 l3 r3 x4 e4 r4 x5 e5 r5 => ?_⟩
        refine ⟨need_of (by omega), fun x6 e6 r6 x7 e7 r7 => ?_⟩
        rw [wrap_i64 (by omega)] at e6 e7
        obtain ⟨c, rfl⟩ : ∃ c : Nat, x5 = (c : Int) := ⟨x5.toNat, by omega⟩
        have htk : List.take ((128 : Int) - x1).toNat (List.drop j b) = (b.drop j).take c := by
          rcases Nat.lt_or_ge ((128 : Int) - x1).toNat (b.length - j) with h | h
          · rw [show ((128 : Int) - x1).toNat = c by omega]
          · rw [List.take_of_length_le (by rw [List.length_drop]; omega), List.take_of_length_le (by rw [List.length_drop]; omega)]
        rw [htk] at e3
        have hcl : ((b.drop j).take c).length = c := by rw [List.length_take, List.length_drop]; omega
        have hnext : feed (b.take (j + c)) ⟨ws, bl, n⟩ = feed ((b.drop j).take c) S := by
          rw [List.take_add, feed_append, hS]
        have hch := feed_chunk ((b.drop j).take c) S (by omega) (by rw [hfb]; exact hbl) (by rw [hcl]; omega) (fun h => by rw [h] at hcl; simp at hcl; omega)
        rw [hcl] at hch
        have hx1n : x1.toNat = (S.n % 128).toNat := by rw [hx1]
        have hd2 : roL (.l (List.take ((b.length : Int) - j - c).toNat (List.drop ((c : Nat) : Int).toNat (List.drop j b)))) = b.drop (j + c) := by
          show List.take _ _ = _
          rw [Int.toNat_natCast, List.drop_drop, List.take_of_length_le (by rw [List.length_drop]; omega)]
        refine ⟨fun h7 => ?_, fun h7 => ?_⟩
        · have h7 := of_decide_eq_true h7
          intro x8 e8 _ _ x9 e9 _ _ x10 e10 _
          refine ⟨rfl, b.length - (j + c), by omega, rfl, hle, rfl, j + c, _, by omega, hd2, ?_, rfl⟩
          rw [hnext, hch, if_pos (by omega)]
          dsimp only
          rw [e10, e6, e9, e8, e2, e3, e4, hx1n]
        · have h7 := of_decide_eq_false h7
          refine ⟨rfl, b.length - (j + c), by omega, rfl, hle, rfl, j + c, _, by omega, hd2, ?_, rfl⟩
          rw [hnext, hch, if_neg (by omega)]
          dsimp only
          rw [e6, e2, e3, e4, hx1n]
      · have hge := of_decide_eq_false hge
        obtain rfl : j = b.length := by omega
        rw [List.take_of_length_le (Nat.le_refl _)] at hS
        have hw : wr true ⟨ws, bl, n⟩ b = S := by unfold wr; rw [if_pos ⟨rfl, by dsimp only; omega⟩, hS]
        unfold wrR
        rw [hw]
        exact ⟨trivial, eqR _ _ _ _, trivial⟩
    · show vc23g ws bl n m d _ _
      rw [vc23g_eq]
      rw [hb]
      intro x1 e1 _ _ x2 e2 _ _ x3 e3 _ x4 e4
      subst e1 e2 e3
      refine ⟨fun h4 => ?_, fun h4 => ?_⟩
      · obtain rfl : m = false := by rw [e4] at h4; simpa using h4
        have hw : wr false ⟨x1, x2, x3⟩ b = ⟨x1, x2, x3⟩ := by unfold wr; rw [if_neg (fun h => by cases h.1)]
        unfold wrR
        rw [hw]
        exact ⟨trivial, eqR _ _ _ _, trivial⟩
      · obtain rfl : m = true := by rw [e4] at h4; simpa using h4
        obtain ⟨hn0, hn1⟩ := hp rfl
        intro x5 e5 _
        rw [wrap_i64 (by omega)] at e5
        refine ⟨fun h => ?_, fun h => ?_⟩
        · have h := of_decide_eq_true h
          have hw : wr true ⟨x1, x2, x3⟩ b = ⟨x1, x2, x3⟩ := by unfold wr; rw [if_neg (fun h' => by have := h'.2; dsimp only at this; omega)]
          unfold wrR
          rw [hw]
          exact ⟨trivial, eqR _ _ _ _, trivial⟩
        · have h := of_decide_eq_false h
          exact ⟨rfl, b.length - 0, rfl, by omega, rfl, 0, d, by omega, by rw [hb]; rfl, rfl, rfl⟩
  · rename_i d
    simp only [Option.some.injEq, Prod.mk.injEq] at hs
    obtain ⟨rfl, rfl, rfl⟩ := hs
    refine ⟨[.np, .ro 490 (.ints .u8) d], [], [], _, ⟨trivial, rfl, trivial⟩, Nat.le_of_ble_eq_true (by kernel_rfl), vcG_noloops ?_⟩
    show vc23n d _ _
    rw [vc23n_eq]
    exact ⟨trivial, trivial⟩
  · cases hs

def Γ8 : Tab := ⟨tys, (61, genCtr [.m, .d (.ints .u8)] writeG) :: Γ5.ctr, [3, 4], gh⟩
theorem Γ8_ok : TabOk Tryd.prog Γ8 := Γ5_ok.cons writeG_ok
end Go.Gx

/- The hash of parts. -/
namespace Go.Sp
open Go.Gx
def st0 : HS := ⟨start8, List.replicate 128 0, 0⟩
/-- The hash of bytes. -/
def sha (b : List Int) : List Int := sumL (feed b st0).ws (feed b st0).bl (feed b st0).n true
/-- The parts of a list, one behind the other. -/
def roJ (d : RO) : List Int := ((roX d).map roL).flatten
end Go.Sp
namespace Go.Gx
open Go.Proofs Go.Sp
set_option linter.unusedVariables false
set_option maxRecDepth 100000


theorem take_succ_map (xs : List RO) (j : Nat) (h : j < xs.length) : ((xs.take (j + 1)).map roL).flatten = ((xs.take j).map roL).flatten ++ roL (xs.getD j (.r [])) := by
  rw [List.take_add_one, List.getElem?_eq_getElem h, List.map_append, List.flatten_append]
  congr 1
  simp [List.getD, h]
theorem flat_take_le (xs : List RO) (j : Nat) : (((xs.take j).map roL).flatten).length ≤ ((xs.map roL).flatten).length := by
  have h : ((xs.map roL).flatten) = (((xs.take j).map roL).flatten) ++ (((xs.drop j).map roL).flatten) := by
    rw [← List.flatten_append, ← List.map_append, List.take_append_drop]
  rw [h, List.length_append]; omega
theorem feed_st0 (b : List Int) : (feed b st0).n = (b.length : Int) := by
  rw [feed_n]; simp [st0]
def L14 : Loops := [(3, ⟨[.any, .any, .p 1000 0, .p 1001 0, .any, .any, .any, .ro 490 (.l (.ints .u8)) (.r []), .i .i64 ⟨false, 0⟩, .i .i64 ⟨false, 0⟩] ++ reps .any 9, gh ++ (490, .world) :: [(1000, .segs false [.arr .u8 64 false []]), (1001, .segs false (R23 [] [] 0 false))], 2000⟩)]
def vc14 (d : RO) (K : List RV → List (Option (List Seg)) → Prop) (Q : Nat → List Pv → Prop) : Prop := fnVcG 0 Γ8 Tryd.f43 L14 [.ro 490 (.l (.ints .u8)) d] (gh ++ (490, .world) :: []) K Q
def lc14 (d : RO) (n i : Int) (k z ws bl : List Int) (c : Int) (m : Bool) (K : List RV → List (Option (List Seg)) → Prop) (Q : Nat → List Pv → Prop) : Prop := loopVcG 0 Γ8 Tryd.f43 L14 3 [.ro d, .z n, .z i, .l k, .l z, .l ws, .l bl, .z c, .b m] K Q
theorem vc14_eq : ∀ (d : RO) (K : List RV → List (Option (List Seg)) → Prop) (Q : Nat → List Pv → Prop), vc14 d K Q = ∀ (x1 : Int), x1 = (7640891576956012808 : Int) → InR IntKind.u64 x1 → ∀ (x2 : Int), x2 = (13503953896175478587 : Int) → InR IntKind.u64 x2 → ∀ (x3 : Int), x3 = (4354685564936845355 : Int) → InR IntKind.u64 x3 → ∀ (x4 : Int), x4 = (11912009170470909681 : Int) → InR IntKind.u64 x4 → ∀ (x5 : Int), x5 = (5840696475078001361 : Int) → InR IntKind.u64 x5 → ∀ (x6 : Int), x6 = (11170449401992604703 : Int) → InR IntKind.u64 x6 → ∀ (x7 : Int), x7 = (2270897969802886507 : Int) → InR IntKind.u64 x7 → ∀ (x8 : Int), x8 = (6620516959819538809 : Int) → InR IntKind.u64 x8 → ∀ (x9 : List Int), x9 = List.replicate (128 : Nat) (0 : Int) → x9.length = (128 : Nat) → AllR IntKind.u8 x9 → Same Tryd.f43 (3 : Nat) (itemsOf Tryd.f43 (3 : Nat)) ∧ Q (3 : Nat) [Pv.ro d, Pv.z ((roX d).length : Int), Pv.z (0 : Int), Pv.l K80, Pv.l (List.replicate (64 : Nat) (0 : Int)), Pv.l [x1, x2, x3, x4, x5, x6, x7, x8], Pv.l x9, Pv.z (0 : Int), Pv.b true] := by
  intros
  kernel_rfl
theorem lc14_eq : ∀ (d : RO) (n i : Int) (k z ws bl : List Int) (c : Int) (m : Bool) (K : List RV → List (Option (List Seg)) → Prop) (Q : Nat → List Pv → Prop), lc14 d n i k z ws bl c m K Q = ((decide (i < n) = true → Need ((0 : Int) ≤ i ∧ i < ((roX d).length : Int)) ∧ Need (m = true → (0 : Int) ≤ c ∧ c ≤ (1152921504606846976 : Int)) ∧ ∀ (x1 : List Int), x1 = (wr m { ws := ws, bl := bl, n := c } (roL (roN d i.toNat))).ws → x1.length = (8 : Nat) → AllR IntKind.u64 x1 → ∀ (x2 : List Int), x2 = (wr m { ws := ws, bl := bl, n := c } (roL (roN d i.toNat))).bl → x2.length = (128 : Nat) → AllR IntKind.u8 x2 → ∀ (x3 : Int), x3 = (wr m { ws := ws, bl := bl, n := c } (roL (roN d i.toNat))).n → InR IntKind.i64 x3 → ∀ (x4 : Int), x4 = IntKind.i64.wrap (i + (1 : Int)) → InR IntKind.i64 x4 → Same Tryd.f43 (3 : Nat) (itemsOf Tryd.f43 (3 : Nat)) ∧ Q (3 : Nat) [Pv.ro d, Pv.z n, Pv.z x4, Pv.l k, Pv.l z, Pv.l x1, Pv.l x2, Pv.z x3, Pv.b m]) ∧ (decide (i < n) = false → Need ((0 : Int) ≤ c) ∧ ∀ (x5 : List Int), x5 = ws → x5.length = (8 : Nat) → AllR IntKind.u64 x5 → ∀ (x6 : List Int), x6 = bl → x6.length = (128 : Nat) → AllR IntKind.u8 x6 → ∀ (x7 : Int), x7 = c → InR IntKind.i64 x7 → ∀ (x8 : List Int), x8 = sumL ws bl c m → x8.length = (64 : Nat) → AllR IntKind.u8 x8 → K [RV.v (SV.arr IntKind.u8 (64 : Nat) false x8)] [])) := by
  intros
  kernel_rfl

def inv14 (d : RO) (key : Nat) (ps : List Pv) (mm : Nat) : Prop :=
  key = 3 ∧ ∃ j : Nat, j ≤ (roX d).length ∧ ps = [.ro d, .z ((roX d).length : Int), .z (j : Int), .l K80, .l (List.replicate 64 0), .l (feed (((roX d).take j).map roL).flatten st0).ws, .l (feed (((roX d).take j).map roL).flatten st0).bl, .z (feed (((roX d).take j).map roL).flatten st0).n, .b true] ∧ mm = (roX d).length - j
def sumG : List AV → Option (List Prop × List RV × List (Option (List Seg)))
  | [.d (.l (.ints .u8)) d] => some ([((roJ d).length : Int) ≤ 1152921504606846976], [.v (.arr .u8 64 false (sha (roJ d)))], [])
  | _ => none
theorem sumG_ok : CallOk Tryd.prog gh 43 (genCtr [.d (.l (.ints .u8))] sumG) := by
  refine call_gen (fn := Tryd.f43) Γ8_ok rfl glow rfl (by kernel_rfl) (by kernel_rfl) _ sumG fun av p rvs fin hs hp hf => ?_
  unfold sumG at hs
  split at hs
  · rename_i d
    simp only [Option.some.injEq, Prod.mk.injEq] at hs
    obtain ⟨rfl, rfl, rfl⟩ := hs
    have hp : ((roJ d).length : Int) ≤ 1152921504606846976 := hp.1
    obtain ⟨⟨_, hlen⟩, _⟩ := hf
    refine ⟨[.ro 490 (.l (.ints .u8)) d], [], L14, inv14 d, ⟨rfl, trivial⟩, Nat.le_of_ble_eq_true (by kernel_rfl), ?_, ?_, ?_⟩
    · intro k t ht g hg
      have hg : g ∈ [3, 4, 490] := hg
      simp only [List.mem_cons, List.not_mem_nil, or_false] at hg
      simp only [L14, List.mem_cons, List.not_mem_nil, or_false, Prod.mk.injEq] at ht
      obtain ⟨rfl, rfl⟩ := ht
      rcases hg with rfl | rfl | rfl <;> exact ⟨by omega, rfl⟩
    · rintro vk t ps mm ht ⟨rfl, j, hj, rfl, rfl⟩
      simp only [L14, List.mem_cons, List.not_mem_nil, or_false, Prod.mk.injEq] at ht
      obtain ⟨_, rfl⟩ := ht
      show lc14 d ((roX d).length : Int) (j : Int) K80 (List.replicate 64 0) (feed (((roX d).take j).map roL).flatten st0).ws (feed (((roX d).take j).map roL).flatten st0).bl (feed (((roX d).take j).map roL).flatten st0).n true _ _
      rw [lc14_eq]
      have hn := feed_st0 (((roX d).take j).map roL).flatten
      refine ⟨fun hlt => ?_, fun hge => ?_⟩
      · have hlt := of_decide_eq_true hlt
        have hjl : j < (roX d).length := by omega
        have e1 := take_succ_map (roX d) j hjl
        have e2 := flat_take_le (roX d) (j + 1)
        have e3 : (((roX d).take (j + 1)).map roL).flatten.length = (((roX d).take j).map roL).flatten.length + (roL (roN d j)).length := by rw [e1, List.length_append]; rfl
        have hT : (roJ d).length = ((roX d).map roL).flatten.length := rfl
        have hw : wr true (feed (((roX d).take j).map roL).flatten st0) (roL (roN d (j : Int).toNat)) = feed (((roX d).take (j + 1)).map roL).flatten st0 := by
          unfold wr
          rw [Int.toNat_natCast, if_pos ⟨rfl, by rw [hn]; omega⟩, e1, feed_append]; rfl
        refine ⟨need_of (by omega), need_of (fun _ => by rw [hn]; omega), ?_⟩
        rw [show (HS.mk (feed (((roX d).take j).map roL).flatten st0).ws (feed (((roX d).take j).map roL).flatten st0).bl (feed (((roX d).take j).map roL).flatten st0).n) = feed (((roX d).take j).map roL).flatten st0 from rfl, hw]
        rintro x1 rfl _ _ x2 rfl _ _ x3 rfl _ x4 e4 _
        rw [wrap_i64 (by omega)] at e4
        subst e4
        exact ⟨rfl, (roX d).length - (j + 1), by omega, rfl, j + 1, by omega, rfl, rfl⟩
      · have hge := of_decide_eq_false hge
        obtain rfl : j = (roX d).length := by omega
        refine ⟨need_of (by rw [hn]; omega), ?_⟩
        intro x5 e5 _ _ x6 e6 _ _ x7 e7 _ x8 e8 _ _
        refine ⟨⟨?_, trivial⟩, trivial⟩
        show x8 = sha (roJ d)
        rw [e8]
        unfold sha roJ
        rw [List.take_of_length_le (Nat.le_refl _)]
    · show vc14 d _ _
      rw [vc14_eq]
      rintro x1 rfl _ x2 rfl _ x3 rfl _ x4 rfl _ x5 rfl _ x6 rfl _ x7 rfl _ x8 rfl _ x9 rfl _ _
      refine ⟨rfl, (roX d).length - 0, rfl, 0, by omega, ?_, rfl⟩
      simp only [List.take_zero, List.map_nil, List.flatten_nil, feed, st0, start8]
      rfl
  · cases hs
def Γ9 : Tab := ⟨tys, (43, genCtr [.d (.l (.ints .u8))] sumG) :: Γ8.ctr, [3, 4], gh⟩
theorem Γ9_ok : TabOk Tryd.prog Γ9 := Γ8_ok.cons sumG_ok
end Go.Gx

/- Contracts in general: another telling of the same. -/
namespace Go.Gx
open Go.RowKit
set_option linter.unusedVariables false

def RP.bind {α β : Type} : RP α → (α → RP β) → RP β
  | .ret a, f => f a
  | .fail, _ => .fail
  | .get k h, f => .get k fun b => (h b).bind f

theorem RP.run_bind {α β : Type} {H : Nat → Option SB} (f : α → RP β) : ∀ (g : RP α) (rs : List Nat), (g.bind f).run H rs = (match g.run H rs with | some (a, rs1) => (f a).run H rs1 | none => none)
  | .ret a, rs => rfl
  | .fail, rs => rfl
  | .get k h, rs => by simp only [RP.bind, RP.run]; exact RP.run_bind f (h (H k)) (k :: rs)

/-- Does it only read, and hand on what it has read? -/
def Uni {α : Type} (F : (α → RP Delta) → RP Delta) : Prop := ∃ g : RP α, ∀ f, F f = g.bind f

theorem Uni.fail {α : Type} : Uni (α := α) fun _ => .fail := ⟨.fail, fun _ => rfl⟩
theorem Uni.ret {α : Type} (a : α) : Uni (α := α) fun f => f a := ⟨.ret a, fun _ => rfl⟩
theorem Uni.get {α : Type} (k : Nat) {F : Option SB → (α → RP Delta) → RP Delta} (h : ∀ b, Uni (F b)) : Uni fun f => .get k fun b => F b f :=
  ⟨.get k fun b => Classical.choose (h b), fun f => by
    simp only [RP.bind]
    congr 1
    funext b
    exact Classical.choose_spec (h b) f⟩
theorem Uni.bind {α β : Type} {F : (α → RP Delta) → RP Delta} (hF : Uni F) {G : α → (β → RP Delta) → RP Delta} (hG : ∀ a, Uni (G a)) : Uni fun f => F fun a => G a f := by
  obtain ⟨g, hg⟩ := hF
  have bb : ∀ {α β γ : Type} (g : RP α) (h : α → RP β) (f : β → RP γ), (g.bind h).bind f = g.bind fun a => (h a).bind f := by
    intro α β γ g h f
    induction g with
    | ret a => rfl
    | fail => rfl
    | get k r ih => simp only [RP.bind]; congr 1; funext b; exact ih b
  have hG' : ∀ a, ∃ k : RP β, ∀ f, G a f = k.bind f := hG
  refine ⟨g.bind fun a => Classical.choose (hG' a), fun f => ?_⟩
  show F (fun a => G a f) = _
  rw [hg, bb]
  congr 1
  funext a
  exact Classical.choose_spec (hG' a) f

theorem uni_withCon (x : SV) : Uni (α := List Prop × Con) fun f => withCon x fun p q => f (p, q) := by
  cases x <;> simp only [withCon] <;> try exact .fail
  case s v => exact .ret _
  case sl key c est off len =>
    refine .get _ fun b => ?_
    match b with
    | some (.segs ro l) =>
      simp only
      cases segAt l c with
      | none => exact .fail
      | some gj =>
        obtain ⟨g, j⟩ := gj
        cases j with
        | succ j => exact .fail
        | zero =>
          simp only
          cases conSeg g est off len with
          | none => exact .fail
          | some pq => exact .ret (pq.1, pq.2)
    | some .gone => exact .fail
    | some (.pool _ _) => exact .fail
    | some (.alias _ _) => exact .fail
    | some .world => exact .fail
    | none => exact .fail
  case ro key sh d =>
    refine .get _ fun b => ?_
    match b with
    | some .world => cases sh <;> first | exact .fail | exact .ret _
    | some (.segs ro l) => exact .fail
    | some .gone => exact .fail
    | some (.pool _ _) => exact .fail
    | some (.alias _ _) => exact .fail
    | none => exact .fail
  case ps key r len =>
    refine .get _ fun b => ?_
    match b with
    | some (.pool k ms) => exact .ret (_, _)
    | some .world => exact .fail
    | some (.segs ro l) => exact .fail
    | some .gone => exact .fail
    | some (.alias _ _) => exact .fail
    | none => exact .fail

theorem uni_each {g : SV → (List Prop → RO → RP Delta) → RP Delta} (hg : ∀ x, Uni (α := List Prop × RO) fun f => g x fun p d => f (p, d)) : ∀ xs : List SV, Uni (α := List Prop × List RO) fun f => eachRO g xs fun p d => f (p, d)
  | [] => .ret ([], [])
  | x :: r => by
    simp only [eachRO]
    exact Uni.bind (F := fun f => g x fun p d => f (p, d)) (hg x) (G := fun a f => eachRO g r fun p' ds => f (a.1 ++ p', a.2 :: ds)) fun a =>
      Uni.bind (F := fun f => eachRO g r fun p d => f (p, d)) (uni_each hg r) (G := fun b f => f (a.1 ++ b.1, a.2 :: b.2)) fun b => .ret _

theorem uni_hdr (k : IntKind) (off len : SI) (pk : Nat) (hs : List (Nat × Nat)) : Uni (α := List Prop × RO) fun f => hdrRO k off len pk hs fun p d => f (p, d) := by
  simp only [hdrRO]
  refine .get _ fun b => ?_
  match b with
  | some (.pool k' ms) => simp only; cases keq k' k <;> first | exact .fail | exact .ret (_, _)
  | some .world => exact .fail
  | some (.segs ro l) => exact .fail
  | some .gone => exact .fail
  | some (.alias _ _) => exact .fail
  | none => exact .fail

mutual
theorem uni_view (ban : List Nat) : ∀ (sh : Sh) (x : SV), Uni (α := List Prop × RO) fun f => viewRO ban sh x fun p d => f (p, d)
  | .ints k, x => by
    simp only [viewRO]
    cases x <;> try exact .fail
    case nsl => exact .ret _
    case ro key sh d =>
      refine .get _ fun b => ?_
      match b with
      | some .world => simp only; cases shEq sh (.ints k) <;> first | exact .fail | exact .ret _
      | some (.segs ro l) => exact .fail
      | some .gone => exact .fail
      | some (.pool _ _) => exact .fail
      | some (.alias _ _) => exact .fail
      | none => exact .fail
    case sl key c est off len =>
      simp only
      cases memN key ban with
      | true => exact .fail
      | false =>
        refine Uni.bind (F := fun f => withCon (.sl key c est off len) fun p q => f (p, q)) (uni_withCon _) (G := fun a f => match a.2 with | .ints k' l => (match keq k' k with | true => f (a.1, RO.l l) | false => .fail) | _ => .fail) fun a => ?_
        obtain ⟨p, q⟩ := a
        cases q with
        | arrs => exact .fail
        | ints k' l => simp only; cases keq k' k <;> first | exact .fail | exact .ret _
    case ps key r len =>
      refine Uni.bind (F := fun f => withCon (.ps key r len) fun p q => f (p, q)) (uni_withCon _) (G := fun a f => match a.2 with | .ints k' l => (match keq k' k with | true => f (a.1, RO.l l) | false => .fail) | _ => .fail) fun a => ?_
      obtain ⟨p, q⟩ := a
      cases q with
      | arrs => exact .fail
      | ints k' l => simp only; cases keq k' k <;> first | exact .fail | exact .ret _
  | .l e, x => by
    simp only [viewRO]
    cases x <;> try exact .fail
    case nsl => exact .ret _
    case ro key sh d =>
      refine .get _ fun b => ?_
      match b with
      | some .world => simp only; cases shEq sh (.l e) <;> first | exact .fail | exact .ret _
      | some (.segs ro l) => exact .fail
      | some .gone => exact .fail
      | some (.pool _ _) => exact .fail
      | some (.alias _ _) => exact .fail
      | none => exact .fail
    case sl key c est off len =>
      split
      · rename_i h; cases h
      · rename_i h; cases h
      · rename_i key' n h
        cases memN key' ban with
        | true => exact .fail
        | false =>
          refine .get _ fun b => ?_
          match b with
          | some .world => exact .fail
          | some .gone => exact .fail
          | some (.pool _ _) => exact .fail
          | some (.alias _ _) => exact .fail
          | none => exact .fail
          | some (.segs ro l) =>
            simp only
            cases onesOf l with
            | none => exact .fail
            | some xs =>
              simp only
              cases (Nat.beq xs.length n && Nat.blt 0 n) with
              | false => exact .fail
              | true => exact Uni.bind (F := fun f => eachRO (viewRO ban e) xs fun p d => f (p, d)) (uni_each (fun x => uni_view ban e x) xs) (G := fun a f => f (a.1, RO.r a.2)) fun a => .ret _
      · rename_i key' off' len' _ h
        cases memN key' ban with
        | true => exact .fail
        | false =>
          refine .get _ fun b => ?_
          match b with
          | some .world => exact .fail
          | some .gone => exact .fail
          | some (.pool _ _) => exact .fail
          | some (.alias _ _) => exact .fail
          | none => exact .fail
          | some (.segs ro l) =>
            match l with
            | [.rowH pk hs] => cases e <;> first | exact .fail | exact uni_hdr _ _ _ _ _
            | [] => exact .fail
            | [.one _] => exact .fail
            | [.arr ..] => exact .fail
            | [.rowI ..] => exact .fail
            | [.rowA ..] => exact .fail
            | a :: b :: c => cases a <;> exact .fail
      · exact .fail
  | .i k, x => by
    simp only [viewRO]
    cases x
    case i k' a =>
      show Uni fun f => (match keq k' k with | true => f ([], RO.i a.z) | false => .fail)
      cases keq k' k
      · exact .fail
      · exact .ret ([], RO.i a.z)
    all_goals exact .fail
  | .tb, x => by
    simp only [viewRO]
    cases x
    case b st v => exact .ret ([], RO.b v)
    all_goals exact .fail
  | .ts, x => by
    simp only [viewRO]
    cases x
    case s v => exact .ret ([], RO.s v)
    all_goals exact .fail
  | .arr n k, x => by
    simp only [viewRO]
    cases x
    case arr k' m ex l =>
      show Uni fun f => (match keq k' k && Nat.beq m n with | true => f ([], RO.l l) | false => .fail)
      cases keq k' k && Nat.beq m n
      · exact .fail
      · exact .ret ([], RO.l l)
    all_goals exact .fail
  | .r fs, x => by
    simp only [viewRO]
    cases x <;> try exact .fail
    case agg xs => exact Uni.bind (F := fun f => viewROs ban fs xs fun p d => f (p, d)) (uni_views ban fs xs) (G := fun a f => f (a.1, RO.r a.2)) fun a => .ret _
theorem uni_views (ban : List Nat) : ∀ (fs : List Sh) (xs : List SV), Uni (α := List Prop × List RO) fun f => viewROs ban fs xs fun p d => f (p, d)
  | [], [] => .ret ([], [])
  | [], _ :: _ => .fail
  | _ :: _, [] => .fail
  | s :: fs, x :: xs => by
    simp only [viewROs]
    exact Uni.bind (F := fun f => viewRO ban s x fun p d => f (p, d)) (uni_view ban s x) (G := fun a f => viewROs ban fs xs fun p' ds => f (a.1 ++ p', a.2 :: ds)) fun a =>
      Uni.bind (F := fun f => viewROs ban fs xs fun p d => f (p, d)) (uni_views ban fs xs) (G := fun b f => f (a.1 ++ b.1, a.2 :: b.2)) fun b => .ret _
end

theorem uni_getA (ban : List Nat) : ∀ (ms : List Md) (xs : List SV), Uni (α := List Prop × List AV) fun f => getA ban ms xs fun p a => f (p, a)
  | [], [] => .ret ([], [])
  | [], _ :: _ => .fail
  | .v :: _, [] => .fail
  | .d _ :: _, [] => .fail
  | .m :: _, [] => .fail
  | .o :: _, [] => .fail
  | .v :: ms, x :: xs => by
    simp only [getA]
    exact Uni.bind (F := fun f => getA ban ms xs fun p a => f (p, a)) (uni_getA ban ms xs) (G := fun b f => f (b.1, .v x :: b.2)) fun b => .ret _
  | .d sh :: ms, x :: xs => by
    simp only [getA]
    exact Uni.bind (F := fun f => viewRO ban sh x fun p d => f (p, d)) (uni_view ban sh x) (G := fun a f => getA ban ms xs fun p' b => f (a.1 ++ p', .d sh a.2 :: b)) fun a =>
      Uni.bind (F := fun f => getA ban ms xs fun p a => f (p, a)) (uni_getA ban ms xs) (G := fun b f => f (a.1 ++ b.1, .d sh a.2 :: b.2)) fun b => .ret _
  | .m :: ms, x :: xs => by
    simp only [getA]
    cases x <;> try exact .fail
    case np => exact Uni.bind (F := fun f => getA ban ms xs fun p a => f (p, a)) (uni_getA ban ms xs) (G := fun b f => f (b.1, .v .np :: b.2)) fun b => .ret _
    case p key c =>
      cases c with
      | succ c => exact .fail
      | zero =>
        refine .get _ fun b => ?_
        match b with
        | some .world => exact .fail
        | some .gone => exact .fail
        | some (.pool _ _) => exact .fail
        | some (.alias _ _) => exact .fail
        | none => exact .fail
        | some (.segs true l) => exact .fail
        | some (.segs false l) => exact Uni.bind (F := fun f => getA ban ms xs fun p a => f (p, a)) (uni_getA ban ms xs) (G := fun b f => f (b.1, .m l :: b.2)) fun b => .ret _
  | .o :: ms, x :: xs => by
    simp only [getA]
    cases x <;> try exact .fail
    case nsl => exact Uni.bind (F := fun f => getA ban ms xs fun p a => f (p, a)) (uni_getA ban ms xs) (G := fun b f => f (b.1, .v .nsl :: b.2)) fun b => .ret _
    case sl key c est off len =>
      show Uni fun f => (match (SV.sl key c est off len) with
        | .sl key 0 est ⟨true, .ofNat 0⟩ len => _
        | .nsl => _
        | _ => _)
      split
      · rename_i key' est' len' h
        refine .get _ fun b => ?_
        match b with
        | some .world => exact .fail
        | some .gone => exact .fail
        | some (.pool _ _) => exact .fail
        | some (.alias _ _) => exact .fail
        | none => exact .fail
        | some (.segs true l) => exact .fail
        | some (.segs false []) => exact .fail
        | some (.segs false (_ :: _ :: _)) => exact .fail
        | some (.segs false [g]) =>
          simp only
          cases rowCon g with
          | none => exact .fail
          | some q =>
            simp only
            cases Nat.beq est' (conSize q) with
            | false => exact .fail
            | true => exact Uni.bind (F := fun f => getA ban ms xs fun p a => f (p, a)) (uni_getA ban ms xs) (G := fun b f => f ((len'.z = ((conLen q : Nat) : Int)) :: b.1, .o q :: b.2)) fun b => .ret _
      · rename_i h; cases h
      · exact .fail

section
variable {P : Program}

/-- A contract's answers, told by other contracts of the same function. -/
theorem gen_weaken {gh : Heap} {f : FuncId} {ms : List Md} {spec : List AV → Option (List Prop × List RV × List (Option (List Seg)))}
    (h : ∀ av p rvs fin, spec av = some (p, rvs, fin) → AllP p → ∃ spec' p', CallOk P gh f (genCtr ms spec') ∧ spec' av = some (p', rvs, fin) ∧ AllP p') : CallOk P gh f (genCtr ms spec) := by
  intro stamp args H rs rs' d vs w0 M ρ w hG hc hp hD hm
  obtain ⟨g, hg⟩ := uni_getA (ownKeys ms args) ms args
  have run : ∀ spec : List AV → Option (List Prop × List RV × List (Option (List Seg))), genCtr ms spec stamp args = (match nodupN (ownKeys ms args) with
      | true => g.bind (fun x => match spec x.2 with
        | some (p', rvs, fin) => (match finW (ownKeys ms args) fin, oneFr rvs && Nat.ble fin.length 100 with
          | some ws, true => (match frOf rvs with
            | none => .ret ⟨x.1 ++ p', resOf stamp rvs, ws, true⟩
            | some l => .get stamp fun b => (match b with
              | none => .ret ⟨x.1 ++ p', resOf stamp rvs, (stamp, .segs false l) :: ws, true⟩
              | some _ => .fail))
          | _, _ => .fail)
        | none => .fail)
      | false => .fail) := fun spec => by
    unfold genCtr
    simp only
    cases nodupN (ownKeys ms args) with
    | false => rfl
    | true => exact hg fun x => match spec x.2 with
        | some (p', rvs, fin) => (match finW (ownKeys ms args) fin, oneFr rvs && Nat.ble fin.length 100 with
          | some ws, true => (match frOf rvs with
            | none => .ret ⟨x.1 ++ p', resOf stamp rvs, ws, true⟩
            | some l => .get stamp fun b => (match b with
              | none => .ret ⟨x.1 ++ p', resOf stamp rvs, (stamp, .segs false l) :: ws, true⟩
              | some _ => .fail))
          | _, _ => .fail)
        | none => .fail
  rw [run] at hc
  cases hn : nodupN (ownKeys ms args) with
  | false => rw [hn] at hc; simp [RP.run] at hc
  | true =>
    rw [hn] at hc
    simp only [RP.run_bind] at hc
    cases hr : g.run H rs with
    | none => rw [hr] at hc; cases hc
    | some pa =>
      obtain ⟨⟨p, av⟩, rs1⟩ := pa
      rw [hr] at hc
      simp only at hc
      cases hs : spec av with
      | none => rw [hs] at hc; simp [RP.run] at hc
      | some t =>
        obtain ⟨p', rvs, fin⟩ := t
        rw [hs] at hc
        simp only at hc
        have hpp : AllP p' := by
          split at hc
          · split at hc
            · have e := run_ret hc; subst e; exact (AllP.append (l := p) (r := p') hp).2
            · simp only [RP.run] at hc
              split at hc
              · have e := run_ret hc; subst e; exact (AllP.append (l := p) (r := p') hp).2
              · simp [RP.run] at hc
          · simp [RP.run] at hc
        obtain ⟨spec', p'', hok, hs', hp''⟩ := h av p' rvs fin hs hpp
        have happ : ∀ a b : List Prop, AllP a → AllP b → AllP (a ++ b) := by
          intro a b ha hb
          induction a with
          | nil => exact hb
          | cons x r ih => exact ⟨ha.1, ih ha.2⟩
        have hrun : (genCtr ms spec' stamp args).run H rs = some (⟨p ++ p'', d.v, d.ws, d.gen⟩, rs') ∧ AllP p := by
          rw [run, hn]
          simp only [RP.run_bind, hr, hs']
          split at hc
          · rename_i ws e1 e2
            split at hc
            · rename_i e3
              have e := run_ret hc
              simp only [RP.run, Option.some.injEq, Prod.mk.injEq] at hc
              subst e
              exact ⟨by simp only [RP.run, hc.2], (AllP.append (l := p) (r := p') hp).1⟩
            · rename_i l e3
              simp only [RP.run] at hc ⊢
              split at hc
              · rename_i e4
                have e := run_ret hc
                simp only [RP.run, Option.some.injEq, Prod.mk.injEq] at hc
                subst e
                exact ⟨by simp only [RP.run, hc.2], (AllP.append (l := p) (r := p') hp).1⟩
              · simp [RP.run] at hc
          · simp [RP.run] at hc
        have hfin := hok stamp args H rs rs' ⟨p ++ p'', d.v, d.ws, d.gen⟩ vs w0 M ρ w hG hrun.1 (happ _ _ hrun.2 hp'') hD hm
        exact hfin

end
end Go.Gx

/- Lemmas. -/
namespace Go.Sp
open Go.Gx
/-- A number's eight bytes. -/
def le8 (i : Int) : List Int := [IntKind.u8.wrap (shrI .i64 i 0), IntKind.u8.wrap (shrI .i64 i 8), IntKind.u8.wrap (shrI .i64 i 16), IntKind.u8.wrap (shrI .i64 i 24), IntKind.u8.wrap (shrI .i64 i 32), IntKind.u8.wrap (shrI .i64 i 40), IntKind.u8.wrap (shrI .i64 i 48), IntKind.u8.wrap (shrI .i64 i 56)]
end Go.Sp
namespace Go.Gx
open Go.Proofs Go.Sp
set_option linter.unusedVariables false
set_option maxRecDepth 100000

theorem shr_div {x : Int} (k : Nat) (hk : k ≤ 64) : shrI .u64 x (k : Int) = x / 2 ^ k := by
  unfold shrI
  rw [show (min ((k : Int)).toNat IntKind.u64.bits) = k by simp [IntKind.bits]; omega, Int.fdiv_eq_ediv_of_nonneg]
  exact Int.le_of_lt (Int.pow_pos (by omega))
theorem roJ_r (xs : List RO) : roJ (.r xs) = (xs.map roL).flatten := rfl
theorem roX_r (xs : List RO) : roX (.r xs) = xs := rfl
theorem roL_l (l : List Int) : roL (.l l) = l := rfl
theorem sha_one (d : RO) : roJ (.r [d]) = roL d := by
  simp only [roJ_r, List.map_cons, List.map_nil, List.flatten_cons, List.flatten_nil, List.append_nil]
theorem sha_pair (a b : List Int) : roJ (.r [.l a, .l b]) = a ++ b := by
  simp only [roJ_r, List.map_cons, List.map_nil, List.flatten_cons, List.flatten_nil, List.append_nil, roL_l]
theorem sumL_len (ws bl : List Int) (n : Int) (m : Bool) : (sumL ws bl n m).length = 64 := by
  unfold sumL
  split
  · simp only [outb, List.length_set, List.length_replicate]
  · simp
theorem sha_len (b : List Int) : (sha b).length = 64 := sumL_len _ _ _ _
theorem take64 (l : List Int) (h : l.length = 64) : (l.drop 0).take 64 = l := by
  rw [List.drop_zero, List.take_of_length_le (by omega)]
end Go.Gx

/- The reference's small functions; both packages' tables. -/
namespace Go.Sp
open Go.Gx
/-- The eight bytes of a word. -/
def be8 (x : Int) : List Int := [IntKind.u8.wrap (shrI .u64 x 56), IntKind.u8.wrap (shrI .u64 x 48), IntKind.u8.wrap (shrI .u64 x 40), IntKind.u8.wrap (shrI .u64 x 32), IntKind.u8.wrap (shrI .u64 x 24), IntKind.u8.wrap (shrI .u64 x 16), IntKind.u8.wrap (shrI .u64 x 8), IntKind.u8.wrap (shrI .u64 x 0)]
/-- The word of eight bytes. -/
def wordL (b : List Int) (j : Nat) : Int := partw (b.drop j) 0 8
end Go.Sp
namespace Go.Gx
open Go.Proofs Go.Sp
set_option linter.unusedVariables false
set_option maxRecDepth 100000

theorem CallOk.mono {P : Program} {gh gh' : Heap} (h : ∀ x ∈ gh, x ∈ gh') {f : FuncId} {c : Ctr} (hc : CallOk P gh f c) : CallOk P gh' f c :=
  fun stamp args H rs rs' d vs w0 M ρ w hG => hc stamp args H rs rs' d vs w0 M ρ w fun g b hb => hG g b (h _ hb)
def gh4 : Heap := [(3, .segs true [.arr .u64 8 true start8]), (0, .segs true [.arr .u64 8 true start8]), (4, .segs true [.arr .u64 80 false K80]), (2, .segs true [.arr .u64 80 false K80])]
def Δ0 : Tab := ⟨tys, Γ9.ctr, [3, 0, 4, 2], gh4⟩
def vc52 (x n : Int) (K : SV → Prop) (Q : Nat → List Pv → Prop) : Prop := fnVc Δ0 Tryd.f59 [] [.i .u64 ⟨false, x⟩, .i .i64 ⟨false, n⟩] gh4 K Q
def vc51 (d : RO) (n : Int) (K : List RV → List (Option (List Seg)) → Prop) (Q : Nat → List Pv → Prop) : Prop := fnVcG 0 Δ0 Tryd.f58 [] [.ro 490 (.ints .u8) d, .i .i64 ⟨false, n⟩] (gh4 ++ (490, .world) :: []) K Q
def vc46 (x : Int) (K : List RV → List (Option (List Seg)) → Prop) (Q : Nat → List Pv → Prop) : Prop := fnVcG 0 Δ0 Tryd.f40 [] [.i .u64 ⟨false, x⟩, .i .i64 ⟨true, 8⟩] (gh4 ++ (490, .world) :: []) K Q
def vc44 (x : Int) (K : List RV → List (Option (List Seg)) → Prop) (Q : Nat → List Pv → Prop) : Prop := fnVcG 0 Δ0 Tryd.f42 [] [.i .i64 ⟨false, x⟩] (gh4 ++ (490, .world) :: []) K Q
theorem gh_sub : ∀ x ∈ gh, x ∈ gh4 := fun x hx => by
  simp only [gh, List.mem_cons, List.not_mem_nil, or_false] at hx
  rcases hx with rfl | rfl
  · exact List.mem_cons_self
  · exact List.mem_cons_of_mem _ (List.mem_cons_of_mem _ List.mem_cons_self)
theorem Δ0_ok : TabOk Tryd.prog Δ0 := ⟨Γ9_ok.mix, Γ9_ok.ty, fun f c h => (Γ9_ok.ctr f c h).mono gh_sub⟩
theorem glow4 : ∀ g ∈ keysOf gh4, g < 490 := fun g hg => by have hg : g ∈ [3, 0, 4, 2] := hg; simp at hg; omega
theorem vc52_eq : ∀ (x n : Int) (K : SV → Prop) (Q : Nat → List Pv → Prop), vc52 x n K Q = (Need ((0 : Int) ≤ n) ∧ ∀ (x1 : Int), x1 = shrI IntKind.u64 x n → InR IntKind.u64 x1 → ∀ (x2 : Int), x2 = IntKind.i64.wrap ((64 : Int) - n) → InR IntKind.i64 x2 → Need ((0 : Int) ≤ x2) ∧ ∀ (x3 : Int), x3 = shlI IntKind.u64 x x2 → InR IntKind.u64 x3 → ∀ (x4 : Int), x4 = orI IntKind.u64 x1 x3 → InR IntKind.u64 x4 → K (SV.i IntKind.u64 { st := false, z := x4 })) := by
  intros
  kernel_rfl
theorem vc51_eq : ∀ (d : RO) (n : Int) (K : List RV → List (Option (List Seg)) → Prop) (Q : Nat → List Pv → Prop), vc51 d n K Q = ∀ (x1 : Int), x1 = IntKind.i64.wrap (n + (0 : Int)) → InR IntKind.i64 x1 → Need ((0 : Int) ≤ x1 ∧ x1 < ((roL d).length : Int)) ∧ ∀ (x2 : Int), x2 = (roL d).getD x1.toNat (0 : Int) → InR IntKind.u8 x2 → ∀ (x3 : Int), x3 = IntKind.u64.wrap x2 → InR IntKind.u64 x3 → ∀ (x4 : Int), x4 = orI IntKind.u64 (0 : Int) x3 → InR IntKind.u64 x4 → ∀ (x5 : Int), x5 = shlI IntKind.u64 x4 (8 : Int) → InR IntKind.u64 x5 → ∀ (x6 : Int), x6 = IntKind.i64.wrap (n + (1 : Int)) → InR IntKind.i64 x6 → Need ((0 : Int) ≤ x6 ∧ x6 < ((roL d).length : Int)) ∧ ∀ (x7 : Int), x7 = (roL d).getD x6.toNat (0 : Int) → InR IntKind.u8 x7 → ∀ (x8 : Int), x8 = IntKind.u64.wrap x7 → InR IntKind.u64 x8 → ∀ (x9 : Int), x9 = orI IntKind.u64 x5 x8 → InR IntKind.u64 x9 → ∀ (x10 : Int), x10 = shlI IntKind.u64 x9 (8 : Int) → InR IntKind.u64 x10 → ∀ (x11 : Int), x11 = IntKind.i64.wrap (n + (2 : Int)) → InR IntKind.i64 x11 → Need ((0 : Int) ≤ x11 ∧ x11 < ((roL d).length : Int)) ∧ ∀ (x12 : Int), x12 = (roL d).getD x11.toNat (0 : Int) → InR IntKind.u8 x12 → ∀ (x13 : Int), x13 = IntKind.u64.wrap x12 → InR IntKind.u64 x13 → ∀ (x14 : Int), x14 = orI IntKind.u64 x10 x13 → InR IntKind.u64 x14 → ∀ (x15 : Int), x15 = shlI IntKind.u64 x14 (8 : Int) → InR IntKind.u64 x15 → ∀ (x16 : Int), x16 = IntKind.i64.wrap (n + (3 : Int)) → InR IntKind.i64 x16 → Need ((0 : Int) ≤ x16 ∧ x16 < ((roL d).length : Int)) ∧ ∀ (x17 : Int), x17 = (roL d).getD x16.toNat (0 : Int) → InR IntKind.u8 x17 → ∀ (x18 : Int), x18 = IntKind.u64.wrap x17 → InR IntKind.u64 x18 → ∀ (x19 : Int), x19 = orI IntKind.u64 x15 x18 → InR IntKind.u64 x19 → ∀ (x20 : Int), x20 = shlI IntKind.u64 x19 (8 : Int) → InR IntKind.u64 x20 → ∀ (x21 : Int), x21 = IntKind.i64.wrap (n + (4 : Int)) → InR IntKind.i64 x21 → Need ((0 : Int) ≤ x21 ∧ x21 < ((roL d).length : Int)) ∧ ∀ (x22 : Int), x22 = (roL d).getD x21.toNat (0 : Int) → InR IntKind.u8 x22 → ∀ (x23 : Int), x23 = IntKind.u64.wrap x22 → InR IntKind.u64 x23 → ∀ (x24 : Int), x24 = orI IntKind.u64 x20 x23 → InR IntKind.u64 x24 → ∀ (x25 : Int), x25 = shlI IntKind.u64 x24 (8 : Int) → InR IntKind.u64 x25 → ∀ (x26 : Int), x26 = IntKind.i64.wrap (n + (5 : Int)) → InR IntKind.i64 x26 → Need ((0 : Int) ≤ x26 ∧ x26 < ((roL d).length : Int)) ∧ ∀ (x27 : Int), x27 = (roL d).getD x26.toNat (0 : Int) → InR IntKind.u8 x27 → ∀ (x28 : Int), x28 = IntKind.u64.wrap x27 → InR IntKind.u64 x28 → ∀ (x29 : Int), x29 = orI IntKind.u64 x25 x28 → InR IntKind.u64 x29 → ∀ (x30 : Int), x30 = shlI IntKind.u64 x29 (8 : Int) → InR IntKind.u64 x30 → ∀ (x31 : Int), x31 = IntKind.i64.wrap (n + (6 : Int)) → InR IntKind.i64 x31 → Need ((0 : Int) ≤ x31 ∧ x31 < ((roL d).length : Int)) ∧ ∀ (x32 : Int), x32 = (roL d).getD x31.toNat (0 : Int) → InR IntKind.u8 x32 → ∀ (x33 : Int), x33 = IntKind.u64.wrap x32 → InR IntKind.u64 x33 → ∀ (x34 : Int), x34 = orI IntKind.u64 x30 x33 → InR IntKind.u64 x34 → ∀ (x35 : Int), x35 = shlI IntKind.u64 x34 (8 : Int) → InR IntKind.u64 x35 → ∀ (x36 : Int), x36 = IntKind.i64.wrap (n + (7 : Int)) → InR IntKind.i64 x36 → Need ((0 : Int) ≤ x36 ∧ x36 < ((roL d).length : Int)) ∧ ∀ (x37 : Int), x37 = (roL d).getD x36.toNat (0 : Int) → InR IntKind.u8 x37 → ∀ (x38 : Int), x38 = IntKind.u64.wrap x37 → InR IntKind.u64 x38 → ∀ (x39 : Int), x39 = orI IntKind.u64 x35 x38 → InR IntKind.u64 x39 → K [RV.v (SV.i IntKind.u64 { st := false, z := x39 })] [] := by
  intros
  kernel_rfl
theorem vc46_eq : ∀ (x : Int) (K : List RV → List (Option (List Seg)) → Prop) (Q : Nat → List Pv → Prop), vc46 x K Q = (Need ((0 : Int) ≤ (8 : Int) ∧ (8 : Int) ≤ (8 : Int) ∧ (8 : Int) ≤ (70368744177664 : Int)) ∧ ∀ (x1 : List Int), x1 = List.replicate (8 : Nat) (0 : Int) → AllR IntKind.u8 x1 → ∀ (x2 : Int), x2 = IntKind.u8.wrap x → InR IntKind.u8 x2 → Need ((7 : Nat) < x1.length) ∧ ∀ (x3 : Int), x3 = shrI IntKind.u64 x (8 : Int) → InR IntKind.u64 x3 → ∀ (x4 : Int), x4 = IntKind.u8.wrap x3 → InR IntKind.u8 x4 → Need ((6 : Nat) < (x1.set (7 : Nat) x2).length) ∧ ∀ (x5 : Int), x5 = shrI IntKind.u64 x3 (8 : Int) → InR IntKind.u64 x5 → ∀ (x6 : Int), x6 = IntKind.u8.wrap x5 → InR IntKind.u8 x6 → Need ((5 : Nat) < ((x1.set (7 : Nat) x2).set (6 : Nat) x4).length) ∧ ∀ (x7 : Int), x7 = shrI IntKind.u64 x5 (8 : Int) → InR IntKind.u64 x7 → ∀ (x8 : Int), x8 = IntKind.u8.wrap x7 → InR IntKind.u8 x8 → Need ((4 : Nat) < (((x1.set (7 : Nat) x2).set (6 : Nat) x4).set (5 : Nat) x6).length) ∧ ∀ (x9 : Int), x9 = shrI IntKind.u64 x7 (8 : Int) → InR IntKind.u64 x9 → ∀ (x10 : Int), x10 = IntKind.u8.wrap x9 → InR IntKind.u8 x10 → Need ((3 : Nat) < ((((x1.set (7 : Nat) x2).set (6 : Nat) x4).set (5 : Nat) x6).set (4 : Nat) x8).length) ∧ ∀ (x11 : Int), x11 = shrI IntKind.u64 x9 (8 : Int) → InR IntKind.u64 x11 → ∀ (x12 : Int), x12 = IntKind.u8.wrap x11 → InR IntKind.u8 x12 → Need ((2 : Nat) < (((((x1.set (7 : Nat) x2).set (6 : Nat) x4).set (5 : Nat) x6).set (4 : Nat) x8).set (3 : Nat) x10).length) ∧ ∀ (x13 : Int), x13 = shrI IntKind.u64 x11 (8 : Int) → InR IntKind.u64 x13 → ∀ (x14 : Int), x14 = IntKind.u8.wrap x13 → InR IntKind.u8 x14 → Need ((1 : Nat) < ((((((x1.set (7 : Nat) x2).set (6 : Nat) x4).set (5 : Nat) x6).set (4 : Nat) x8).set (3 : Nat) x10).set (2 : Nat) x12).length) ∧ ∀ (x15 : Int), x15 = shrI IntKind.u64 x13 (8 : Int) → InR IntKind.u64 x15 → ∀ (x16 : Int), x16 = IntKind.u8.wrap x15 → InR IntKind.u8 x16 → Need ((0 : Nat) < (((((((x1.set (7 : Nat) x2).set (6 : Nat) x4).set (5 : Nat) x6).set (4 : Nat) x8).set (3 : Nat) x10).set (2 : Nat) x12).set (1 : Nat) x14).length) ∧ ∀ (x17 : Int), x17 = shrI IntKind.u64 x15 (8 : Int) → InR IntKind.u64 x17 → Need ((8 : Int) ≤ ↑((((((((x1.set (7 : Nat) x2).set (6 : Nat) x4).set (5 : Nat) x6).set (4 : Nat) x8).set (3 : Nat) x10).set (2 : Nat) x12).set (1 : Nat) x14).set (0 : Nat) x16).length) ∧ K [RV.row (Con.ints IntKind.u8 (List.take (8 : Nat) (List.drop (0 : Nat) ((((((((x1.set (7 : Nat) x2).set (6 : Nat) x4).set (5 : Nat) x6).set (4 : Nat) x8).set (3 : Nat) x10).set (2 : Nat) x12).set (1 : Nat) x14).set (0 : Nat) x16))))] []) := by
  intros
  kernel_rfl
theorem vc44_eq : ∀ (x : Int) (K : List RV → List (Option (List Seg)) → Prop) (Q : Nat → List Pv → Prop), vc44 x K Q = (Need ((0 : Int) ≤ (8 : Int) ∧ (8 : Int) ≤ (8 : Int) ∧ (8 : Int) ≤ (70368744177664 : Int)) ∧ ∀ (x1 : List Int), x1 = List.replicate (8 : Nat) (0 : Int) → AllR IntKind.u8 x1 → ∀ (x2 : Int), x2 = IntKind.u8.wrap x → InR IntKind.u8 x2 → Need ((0 : Nat) < x1.length) ∧ ∀ (x3 : Int), x3 = shrI IntKind.i64 x (8 : Int) → InR IntKind.i64 x3 → ∀ (x4 : Int), x4 = IntKind.u8.wrap x3 → InR IntKind.u8 x4 → Need ((1 : Nat) < (x1.set (0 : Nat) x2).length) ∧ ∀ (x5 : Int), x5 = shrI IntKind.i64 x3 (8 : Int) → InR IntKind.i64 x5 → ∀ (x6 : Int), x6 = IntKind.u8.wrap x5 → InR IntKind.u8 x6 → Need ((2 : Nat) < ((x1.set (0 : Nat) x2).set (1 : Nat) x4).length) ∧ ∀ (x7 : Int), x7 = shrI IntKind.i64 x5 (8 : Int) → InR IntKind.i64 x7 → ∀ (x8 : Int), x8 = IntKind.u8.wrap x7 → InR IntKind.u8 x8 → Need ((3 : Nat) < (((x1.set (0 : Nat) x2).set (1 : Nat) x4).set (2 : Nat) x6).length) ∧ ∀ (x9 : Int), x9 = shrI IntKind.i64 x7 (8 : Int) → InR IntKind.i64 x9 → ∀ (x10 : Int), x10 = IntKind.u8.wrap x9 → InR IntKind.u8 x10 → Need ((4 : Nat) < ((((x1.set (0 : Nat) x2).set (1 : Nat) x4).set (2 : Nat) x6).set (3 : Nat) x8).length) ∧ ∀ (x11 : Int), x11 = shrI IntKind.i64 x9 (8 : Int) → InR IntKind.i64 x11 → ∀ (x12 : Int), x12 = IntKind.u8.wrap x11 → InR IntKind.u8 x12 → Need ((5 : Nat) < (((((x1.set (0 : Nat) x2).set (1 : Nat) x4).set (2 : Nat) x6).set (3 : Nat) x8).set (4 : Nat) x10).length) ∧ ∀ (x13 : Int), x13 = shrI IntKind.i64 x11 (8 : Int) → InR IntKind.i64 x13 → ∀ (x14 : Int), x14 = IntKind.u8.wrap x13 → InR IntKind.u8 x14 → Need ((6 : Nat) < ((((((x1.set (0 : Nat) x2).set (1 : Nat) x4).set (2 : Nat) x6).set (3 : Nat) x8).set (4 : Nat) x10).set (5 : Nat) x12).length) ∧ ∀ (x15 : Int), x15 = shrI IntKind.i64 x13 (8 : Int) → InR IntKind.i64 x15 → ∀ (x16 : Int), x16 = IntKind.u8.wrap x15 → InR IntKind.u8 x16 → Need ((7 : Nat) < (((((((x1.set (0 : Nat) x2).set (1 : Nat) x4).set (2 : Nat) x6).set (3 : Nat) x8).set (4 : Nat) x10).set (5 : Nat) x12).set (6 : Nat) x14).length) ∧ ∀ (x17 : Int), x17 = shrI IntKind.i64 x15 (8 : Int) → InR IntKind.i64 x17 → Need ((8 : Int) ≤ ↑((((((((x1.set (0 : Nat) x2).set (1 : Nat) x4).set (2 : Nat) x6).set (3 : Nat) x8).set (4 : Nat) x10).set (5 : Nat) x12).set (6 : Nat) x14).set (7 : Nat) x16).length) ∧ K [RV.row (Con.ints IntKind.u8 (List.take (8 : Nat) (List.drop (0 : Nat) ((((((((x1.set (0 : Nat) x2).set (1 : Nat) x4).set (2 : Nat) x6).set (3 : Nat) x8).set (4 : Nat) x10).set (5 : Nat) x12).set (6 : Nat) x14).set (7 : Nat) x16))))] []) := by
  intros
  kernel_rfl

theorem shr8 (x : Int) (a b : Nat) (h : b = a + 8 ∧ b ≤ 64 := by omega) : shrI .u64 (shrI .u64 x (a : Int)) 8 = shrI .u64 x (b : Int) := by
  have h8 : shrI .u64 (shrI .u64 x (a : Int)) ((8 : Nat) : Int) = (shrI .u64 x (a : Int)) / 2 ^ 8 := shr_div 8 (by omega)
  rw [show (8 : Int) = ((8 : Nat) : Int) from rfl, h8, shr_div a (by omega), shr_div b (by omega), Int.ediv_ediv_of_nonneg (Int.le_of_lt (Int.pow_pos (by omega))), ← Int.pow_add, h.1]
theorem rot_of (x n : Int) (h : 1 ≤ n ∧ n ≤ 63) : orI .u64 (shrI .u64 x n) (shlI .u64 x (64 - n)) = rotL x (-n) := by
  have hn : ∀ j : Fin 64, 1 ≤ j.val → andI .u64 (IntKind.u64.wrap (-(j.val : Int))) 63 = 64 - (j.val : Int) ∧ IntKind.u64.wrap (64 - (64 - (j.val : Int))) = (j.val : Int) := by decide +kernel
  obtain ⟨h1, h2⟩ := hn ⟨n.toNat, by omega⟩ (by show 1 ≤ n.toNat; omega)
  have hv : (((⟨n.toNat, by omega⟩ : Fin 64).val : Nat) : Int) = n := by show ((n.toNat : Nat) : Int) = n; omega
  rw [hv] at h1 h2
  unfold rotL
  rw [h1, h2]
  unfold orI
  rw [BitVec.or_comm]
def rotrS : List SV → Option (List Prop × SV)
  | [.i .u64 x, .i .i64 n] => some ([1 ≤ n.z ∧ n.z ≤ 63], .i .u64 ⟨false, rotL x.z (-n.z)⟩)
  | _ => none
theorem rotr_ok : CallOk Tryd.prog gh4 59 (pureCtr rotrS) := by
  refine call_pure (fn := Tryd.f59) Δ0_ok rfl (by kernel_rfl) (by kernel_rfl) (by kernel_rfl) rotrS fun args P0 Y0 hs hp hf => ?_
  unfold rotrS at hs
  split at hs
  · rename_i x n
    simp only [Option.some.injEq, Prod.mk.injEq] at hs
    obtain ⟨rfl, rfl⟩ := hs
    have hp : 1 ≤ n.z ∧ n.z ≤ 63 := hp.1
    refine ⟨[.i .u64 ⟨false, x.z⟩, .i .i64 ⟨false, n.z⟩], [], _, ⟨rfl, rfl, trivial⟩, Nat.le_of_ble_eq_true (by kernel_rfl), vc_noloops ?_⟩
    show vc52 x.z n.z _ _
    rw [vc52_eq]
    refine ⟨need_of (by omega), ?_⟩
    intro x1 e1 _ x2 e2 _
    rw [wrap_i64 (by omega)] at e2
    refine ⟨need_of (by omega), fun x3 e3 _ x4 e4 _ => ?_⟩
    show x4 = rotL x.z (-n.z)
    rw [e4, e3, e1, e2, rot_of x.z n.z hp]
  · cases hs
def wordG : List AV → Option (List Prop × List RV × List (Option (List Seg)))
  | [.d (.ints .u8) d, .v (.i .i64 ⟨_, n⟩)] => some ([0 ≤ n, n + 8 ≤ ((roL d).length : Int)], [.v (.i .u64 ⟨false, wordL (roL d) n.toNat⟩)], [])
  | _ => none
theorem getD_drop (b : List Int) (j k : Nat) : (b.drop j).getD k 0 = b.getD (j + k) 0 := by
  rw [List.getD_eq_getElem?_getD, List.getD_eq_getElem?_getD, List.getElem?_drop]
theorem hs0 : shlI .u64 0 8 = 0 := by decide +kernel
theorem partS (b : List Int) (k : Nat) : partw b 0 (k + 1) = orI .u64 (shlI .u64 (partw b 0 k) 8) (IntKind.u64.wrap (b.getD (8 * 0 + k) 0)) := rfl
set_option maxHeartbeats 2000000 in
theorem wordG_ok : CallOk Tryd.prog gh4 58 (genCtr [.d (.ints .u8), .v] wordG) := by
  refine call_gen (fn := Tryd.f58) Δ0_ok rfl glow4 rfl (by kernel_rfl) (by kernel_rfl) _ wordG fun av p rvs fin hs hp hf => ?_
  unfold wordG at hs
  split at hs
  · rename_i d st n
    simp only [Option.some.injEq, Prod.mk.injEq] at hs
    obtain ⟨rfl, rfl, rfl⟩ := hs
    have h0 : 0 ≤ n := hp.1
    have h1 : n + 8 ≤ ((roL d).length : Int) := hp.2.1
    obtain ⟨⟨_, hlen⟩, _⟩ := hf
    refine ⟨[.ro 490 (.ints .u8) d, .i .i64 ⟨false, n⟩], [], [], _, ?_, Nat.le_of_ble_eq_true (by kernel_rfl), vcG_noloops ?_⟩
    · exact ⟨rfl, rfl, trivial⟩
    show vc51 d n _ _
    rw [vc51_eq]
    intro x1 e1 _
    rw [wrap_i64 (by omega)] at e1
    refine ⟨need_of (by omega), ?_⟩
    intro x2 e2 _ x3 e3 _ x4 e4 _
    intro x5 e5 _ x6 e6 _
    rw [wrap_i64 (by omega)] at e6
    refine ⟨need_of (by omega), ?_⟩
    intro x7 e7 _ x8 e8 _ x9 e9 _
    intro x10 e10 _ x11 e11 _
    rw [wrap_i64 (by omega)] at e11
    refine ⟨need_of (by omega), ?_⟩
    intro x12 e12 _ x13 e13 _ x14 e14 _
    intro x15 e15 _ x16 e16 _
    rw [wrap_i64 (by omega)] at e16
    refine ⟨need_of (by omega), ?_⟩
    intro x17 e17 _ x18 e18 _ x19 e19 _
    intro x20 e20 _ x21 e21 _
    rw [wrap_i64 (by omega)] at e21
    refine ⟨need_of (by omega), ?_⟩
    intro x22 e22 _ x23 e23 _ x24 e24 _
    intro x25 e25 _ x26 e26 _
    rw [wrap_i64 (by omega)] at e26
    refine ⟨need_of (by omega), ?_⟩
    intro x27 e27 _ x28 e28 _ x29 e29 _
    intro x30 e30 _ x31 e31 _
    rw [wrap_i64 (by omega)] at e31
    refine ⟨need_of (by omega), ?_⟩
    intro x32 e32 _ x33 e33 _ x34 e34 _
    intro x35 e35 _ x36 e36 _
    rw [wrap_i64 (by omega)] at e36
    refine ⟨need_of (by omega), ?_⟩
    intro x37 e37 _ x38 e38 _ x39 e39 _
    refine ⟨⟨?_, trivial⟩, trivial⟩
    show x39 = wordL (roL d) n.toNat
    have p0 : partw ((roL d).drop n.toNat) 0 0 = 0 := rfl
    have q0 : ((roL d).drop n.toNat).getD (8 * 0 + 0) 0 = x2 := by rw [getD_drop, e2]; congr 1; omega
    have p1 : partw ((roL d).drop n.toNat) 0 1 = x4 := by
      rw [partS, p0, q0, e4, e3, hs0]
    have q1 : ((roL d).drop n.toNat).getD (8 * 0 + 1) 0 = x7 := by rw [getD_drop, e7]; congr 1; omega
    have p2 : partw ((roL d).drop n.toNat) 0 2 = x9 := by
      rw [partS, p1, q1, e9, e8, e5]
    have q2 : ((roL d).drop n.toNat).getD (8 * 0 + 2) 0 = x12 := by rw [getD_drop, e12]; congr 1; omega
    have p3 : partw ((roL d).drop n.toNat) 0 3 = x14 := by
      rw [partS, p2, q2, e14, e13, e10]
    have q3 : ((roL d).drop n.toNat).getD (8 * 0 + 3) 0 = x17 := by rw [getD_drop, e17]; congr 1; omega
    have p4 : partw ((roL d).drop n.toNat) 0 4 = x19 := by
      rw [partS, p3, q3, e19, e18, e15]
    have q4 : ((roL d).drop n.toNat).getD (8 * 0 + 4) 0 = x22 := by rw [getD_drop, e22]; congr 1; omega
    have p5 : partw ((roL d).drop n.toNat) 0 5 = x24 := by
      rw [partS, p4, q4, e24, e23, e20]
    have q5 : ((roL d).drop n.toNat).getD (8 * 0 + 5) 0 = x27 := by rw [getD_drop, e27]; congr 1; omega
    have p6 : partw ((roL d).drop n.toNat) 0 6 = x29 := by
      rw [partS, p5, q5, e29, e28, e25]
    have q6 : ((roL d).drop n.toNat).getD (8 * 0 + 6) 0 = x32 := by rw [getD_drop, e32]; congr 1; omega
    have p7 : partw ((roL d).drop n.toNat) 0 7 = x34 := by
      rw [partS, p6, q6, e34, e33, e30]
    have q7 : ((roL d).drop n.toNat).getD (8 * 0 + 7) 0 = x37 := by rw [getD_drop, e37]; congr 1; omega
    have p8 : partw ((roL d).drop n.toNat) 0 8 = x39 := by
      rw [partS, p7, q7, e39, e38, e35]
    exact p8.symm
  · cases hs
theorem shr80 (x : Int) : shrI .u64 x 0 = x := by
  have := shr_div (x := x) 0 (by omega)
  rw [show (0 : Int) = ((0 : Nat) : Int) from rfl, this]; simp
theorem shri_div {x : Int} (k : Nat) (hk : k ≤ 64) : shrI .i64 x (k : Int) = x / 2 ^ k := by
  unfold shrI
  rw [show (min ((k : Int)).toNat IntKind.i64.bits) = k by simp [IntKind.bits]; omega, Int.fdiv_eq_ediv_of_nonneg]
  exact Int.le_of_lt (Int.pow_pos (by omega))
theorem shr8i (x : Int) (a b : Nat) (h : b = a + 8 ∧ b ≤ 64 := by omega) : shrI .i64 (shrI .i64 x (a : Int)) 8 = shrI .i64 x (b : Int) := by
  have h8 : shrI .i64 (shrI .i64 x (a : Int)) ((8 : Nat) : Int) = (shrI .i64 x (a : Int)) / 2 ^ 8 := shri_div 8 (by omega)
  rw [show (8 : Int) = ((8 : Nat) : Int) from rfl, h8, shri_div a (by omega), shri_div b (by omega), Int.ediv_ediv_of_nonneg (Int.le_of_lt (Int.pow_pos (by omega))), ← Int.pow_add, h.1]
theorem shr8i0 (x : Int) : shrI .i64 x 0 = x := by
  have := shri_div (x := x) 0 (by omega)
  rw [show (0 : Int) = ((0 : Nat) : Int) from rfl, this]; simp
def numG : List AV → Option (List Prop × List RV × List (Option (List Seg)))
  | [.v (.i .u64 ⟨_, x⟩), .v (.i .i64 ⟨true, .ofNat 8⟩)] => some ([], [.row (.ints .u8 (be8 x))], [])
  | _ => none
theorem numG_ok : CallOk Tryd.prog gh4 40 (genCtr [.v, .v] numG) := by
  refine call_gen (fn := Tryd.f40) Δ0_ok rfl glow4 rfl (by kernel_rfl) (by kernel_rfl) _ numG fun av p rvs fin hs hp hf => ?_
  unfold numG at hs
  split at hs
  · rename_i st x
    simp only [Option.some.injEq, Prod.mk.injEq] at hs
    obtain ⟨rfl, rfl, rfl⟩ := hs
    refine ⟨[.i .u64 ⟨false, x⟩, .i .i64 ⟨true, 8⟩], [], [], _, ?_, Nat.le_of_ble_eq_true (by kernel_rfl), vcG_noloops ?_⟩
    · exact ⟨rfl, rfl, trivial⟩
    show vc46 x _ _
    rw [vc46_eq]
    refine ⟨need_of (by omega), ?_⟩
    intro x1 e1 _
    subst e1
    intro x2 e2 _
    refine ⟨need_of (by simp), ?_⟩
    intro x3 e3 _ x4 e4 _
    refine ⟨need_of (by simp), ?_⟩
    intro x5 e5 _ x6 e6 _
    refine ⟨need_of (by simp), ?_⟩
    intro x7 e7 _ x8 e8 _
    refine ⟨need_of (by simp), ?_⟩
    intro x9 e9 _ x10 e10 _
    refine ⟨need_of (by simp), ?_⟩
    intro x11 e11 _ x12 e12 _
    refine ⟨need_of (by simp), ?_⟩
    intro x13 e13 _ x14 e14 _
    refine ⟨need_of (by simp), ?_⟩
    intro x15 e15 _ x16 e16 _
    refine ⟨need_of (by simp), ?_⟩
    intro x17 e17 _
    refine ⟨need_of (by simp), ⟨⟨rfl, ?_⟩, trivial⟩, trivial⟩
    show List.take 8 (List.drop 0 _) = be8 x
    have s0 := shr80 x
    rw [← s0] at e3 e2
    have e3 : x3 = shrI .u64 x (((8 : Nat)) : Int) := by rw [e3]; exact shr8 x 0 8
    have e5 : x5 = shrI .u64 x (((16 : Nat)) : Int) := by rw [e5, e3]; exact shr8 x 8 16
    have e7 : x7 = shrI .u64 x (((24 : Nat)) : Int) := by rw [e7, e5]; exact shr8 x 16 24
    have e9 : x9 = shrI .u64 x (((32 : Nat)) : Int) := by rw [e9, e7]; exact shr8 x 24 32
    have e11 : x11 = shrI .u64 x (((40 : Nat)) : Int) := by rw [e11, e9]; exact shr8 x 32 40
    have e13 : x13 = shrI .u64 x (((48 : Nat)) : Int) := by rw [e13, e11]; exact shr8 x 40 48
    have e15 : x15 = shrI .u64 x (((56 : Nat)) : Int) := by rw [e15, e13]; exact shr8 x 48 56
    rw [e2, e4, e6, e8, e10, e12, e14, e16, e15, e13, e11, e9, e7, e5, e3]
    rfl
  · cases hs
def lowG : List AV → Option (List Prop × List RV × List (Option (List Seg)))
  | [.v (.i .i64 ⟨_, x⟩)] => some ([], [.row (.ints .u8 (le8 x))], [])
  | _ => none
theorem lowG_ok : CallOk Tryd.prog gh4 42 (genCtr [.v] lowG) := by
  refine call_gen (fn := Tryd.f42) Δ0_ok rfl glow4 rfl (by kernel_rfl) (by kernel_rfl) _ lowG fun av p rvs fin hs hp hf => ?_
  unfold lowG at hs
  split at hs
  · rename_i st x
    simp only [Option.some.injEq, Prod.mk.injEq] at hs
    obtain ⟨rfl, rfl, rfl⟩ := hs
    refine ⟨[.i .i64 ⟨false, x⟩], [], [], _, ?_, Nat.le_of_ble_eq_true (by kernel_rfl), vcG_noloops ?_⟩
    · exact ⟨rfl, trivial⟩
    show vc44 x _ _
    rw [vc44_eq]
    refine ⟨need_of (by omega), ?_⟩
    intro x1 e1 _
    subst e1
    intro x2 e2 _
    refine ⟨need_of (by simp), ?_⟩
    intro x3 e3 _ x4 e4 _
    refine ⟨need_of (by simp), ?_⟩
    intro x5 e5 _ x6 e6 _
    refine ⟨need_of (by simp), ?_⟩
    intro x7 e7 _ x8 e8 _
    refine ⟨need_of (by simp), ?_⟩
    intro x9 e9 _ x10 e10 _
    refine ⟨need_of (by simp), ?_⟩
    intro x11 e11 _ x12 e12 _
    refine ⟨need_of (by simp), ?_⟩
    intro x13 e13 _ x14 e14 _
    refine ⟨need_of (by simp), ?_⟩
    intro x15 e15 _ x16 e16 _
    refine ⟨need_of (by simp), ?_⟩
    intro x17 e17 _
    refine ⟨need_of (by simp), ⟨⟨rfl, ?_⟩, trivial⟩, trivial⟩
    show List.take 8 (List.drop 0 _) = le8 x
    have s0 := shr8i0 x
    rw [← s0] at e3 e2
    have e3 : x3 = shrI .i64 x (((8 : Nat)) : Int) := by rw [e3]; exact shr8i x 0 8
    have e5 : x5 = shrI .i64 x (((16 : Nat)) : Int) := by rw [e5, e3]; exact shr8i x 8 16
    have e7 : x7 = shrI .i64 x (((24 : Nat)) : Int) := by rw [e7, e5]; exact shr8i x 16 24
    have e9 : x9 = shrI .i64 x (((32 : Nat)) : Int) := by rw [e9, e7]; exact shr8i x 24 32
    have e11 : x11 = shrI .i64 x (((40 : Nat)) : Int) := by rw [e11, e9]; exact shr8i x 32 40
    have e13 : x13 = shrI .i64 x (((48 : Nat)) : Int) := by rw [e13, e11]; exact shr8i x 40 48
    have e15 : x15 = shrI .i64 x (((56 : Nat)) : Int) := by rw [e15, e13]; exact shr8i x 48 56
    rw [e2, e4, e6, e8, e10, e12, e14, e16, e15, e13, e11, e9, e7, e5, e3]
    rfl
  · cases hs
def Δ1 : Tab := ⟨tys, (59, pureCtr rotrS) :: (58, genCtr [.d (.ints .u8), .v] wordG) :: (40, genCtr [.v, .v] numG) :: (42, genCtr [.v] lowG) :: Δ0.ctr, [3, 0, 4, 2], gh4⟩
theorem Δ1_ok : TabOk Tryd.prog Δ1 := (((Δ0_ok.cons lowG_ok).cons numG_ok).cons wordG_ok).cons rotr_ok
end Go.Gx

/- The reference's block. -/
namespace Go.Gx
open Go.Proofs Go.Sp
set_option linter.unusedVariables false
set_option maxRecDepth 100000

def A8 : SB := .segs false [.arr .u64 8 false []]
def A80 : SB := .segs false [.arr .u64 80 false []]
def L47 : Loops := [(3, ⟨[.any, .ro 490 (.ints .u8) (.l []), .i .i64 ⟨false, 0⟩, .p 1000 0, .any, .any, .p 1001 0, .p 1002 0, .i .i64 ⟨false, 0⟩] ++ reps .any 167, gh4 ++ [(490, .world), (1000, A8), (1001, A8), (1002, A80)], 2000⟩),
  (14, ⟨[.any, .any, .any, .p 1000 0, .any, .any, .p 1001 0, .p 1002 0] ++ reps .any 5 ++ [.p 1003 0, .i .i64 ⟨false, 0⟩] ++ reps .any 161, gh4 ++ [(490, .world), (1000, A8), (1001, A8), (1002, A80), (1003, A8)], 2000⟩)]
def vc47 (ws : List Int) (d : RO) (o : Int) (K : List RV → List (Option (List Seg)) → Prop) (Q : Nat → List Pv → Prop) : Prop := fnVcG 0 Δ1 Tryd.f41 L47 [.arr .u64 8 false ws, .ro 490 (.ints .u8) d, .i .i64 ⟨false, o⟩] (gh4 ++ (490, .world) :: []) K Q
def lc47a (d : RO) (o i : Int) (g g' ws r w : List Int) (K : List RV → List (Option (List Seg)) → Prop) (Q : Nat → List Pv → Prop) : Prop := loopVcG 0 Δ1 Tryd.f41 L47 3 [.ro d, .z o, .z i, .l g, .l g', .l ws, .l r, .l w] K Q
def lc47b (i : Int) (g g' ws r w s : List Int) (K : List RV → List (Option (List Seg)) → Prop) (Q : Nat → List Pv → Prop) : Prop := loopVcG 0 Δ1 Tryd.f41 L47 14 [.z i, .l g, .l g', .l ws, .l r, .l w, .l s] K Q
theorem vc47_eq : ∀ (ws : List Int) (d : RO) (o : Int) (K : List RV → List (Option (List Seg)) → Prop) (Q : Nat → List Pv → Prop), vc47 ws d o K Q = (Same Tryd.f41 (3 : Nat) (itemsOf Tryd.f41 (3 : Nat)) ∧ Q (3 : Nat) [Pv.ro d, Pv.z o, Pv.z (0 : Int), Pv.l K80, Pv.l K80, Pv.l ws, Pv.l [(0 : Int), (0 : Int), (0 : Int), (0 : Int), (0 : Int), (0 : Int), (0 : Int), (0 : Int)], Pv.l (List.replicate (80 : Nat) (0 : Int))]) := by
  intros
  kernel_rfl
theorem lc47a_eq : ∀ (d : RO) (o i : Int) (g g' ws r w : List Int) (K : List RV → List (Option (List Seg)) → Prop) (Q : Nat → List Pv → Prop), lc47a d o i g g' ws r w K Q = ((decide (i < (80 : Int)) = true → (decide (i < (16 : Int)) = true → ∀ (x1 : Int), x1 = IntKind.i64.wrap ((8 : Int) * i) → InR IntKind.i64 x1 → ∀ (x2 : Int), x2 = IntKind.i64.wrap (o + x1) → InR IntKind.i64 x2 → Need ((0 : Int) ≤ x2) ∧ Need (x2 + (8 : Int) ≤ ((roL d).length : Int)) ∧ ∀ (x3 : Int), x3 = wordL (roL d) x2.toNat → InR IntKind.u64 x3 → Need ((0 : Int) ≤ i ∧ i < (80 : Int)) ∧ Need ((0 : Int) ≤ i ∧ i < (80 : Int)) ∧ ∀ (x4 : List Int), x4 = w.set i.toNat x3 → x4.length = (80 : Nat) → AllR IntKind.u64 x4 → ∀ (x5 : Int), x5 = IntKind.i64.wrap (i + (1 : Int)) → InR IntKind.i64 x5 → Same Tryd.f41 (3 : Nat) (itemsOf Tryd.f41 (3 : Nat)) ∧ Q (3 : Nat) [Pv.ro d, Pv.z o, Pv.z x5, Pv.l g, Pv.l g', Pv.l ws, Pv.l r, Pv.l x4]) ∧ (decide (i < (16 : Int)) = false → ∀ (x6 : Int), x6 = IntKind.i64.wrap (i - (2 : Int)) → InR IntKind.i64 x6 → Need ((0 : Int) ≤ x6 ∧ x6 < (80 : Int)) ∧ Need ((0 : Int) ≤ x6 ∧ x6 < (80 : Int)) ∧ ∀ (x7 : Int), x7 = w.getD x6.toNat (0 : Int) → InR IntKind.u64 x7 → ∀ (x8 : Int), x8 = IntKind.i64.wrap (i - (15 : Int)) → InR IntKind.i64 x8 → Need ((0 : Int) ≤ x8 ∧ x8 < (80 : Int)) ∧ Need ((0 : Int) ≤ x8 ∧ x8 < (80 : Int)) ∧ ∀ (x9 : Int), x9 = w.getD x8.toNat (0 : Int) → InR IntKind.u64 x9 → Need ((1 : Int) ≤ (19 : Int) ∧ (19 : Int) ≤ (63 : Int)) ∧ ∀ (x10 : Int), x10 = rotL x7 (-19 : Int) → InR IntKind.u64 x10 → Need ((1 : Int) ≤ (61 : Int) ∧ (61 : Int) ≤ (63 : Int)) ∧ ∀ (x11 : Int), x11 = rotL x7 (-61 : Int) → InR IntKind.u64 x11 → ∀ (x12 : Int), x12 = xorI IntKind.u64 x10 x11 → InR IntKind.u64 x12 → ∀ (x13 : Int), x13 = shrI IntKind.u64 x7 (6 : Int) → InR IntKind.u64 x13 → ∀ (x14 : Int), x14 = xorI IntKind.u64 x12 x13 → InR IntKind.u64 x14 → Need ((1 : Int) ≤ (1 : Int) ∧ (1 : Int) ≤ (63 : Int)) ∧ ∀ (x15 : Int), x15 = rotL x9 (-1 : Int) → InR IntKind.u64 x15 → Need ((1 : Int) ≤ (8 : Int) ∧ (8 : Int) ≤ (63 : Int)) ∧ ∀ (x16 : Int), x16 = rotL x9 (-8 : Int) → InR IntKind.u64 x16 → ∀ (x17 : Int), x17 = xorI IntKind.u64 x15 x16 → InR IntKind.u64 x17 → ∀ (x18 : Int), x18 = shrI IntKind.u64 x9 (7 : Int) → InR IntKind.u64 x18 → ∀ (x19 : Int), x19 = xorI IntKind.u64 x17 x18 → InR IntKind.u64 x19 → ∀ (x20 : Int), x20 = IntKind.i64.wrap (i - (7 : Int)) → InR IntKind.i64 x20 → Need ((0 : Int) ≤ x20 ∧ x20 < (80 : Int)) ∧ Need ((0 : Int) ≤ x20 ∧ x20 < (80 : Int)) ∧ ∀ (x21 : Int), x21 = w.getD x20.toNat (0 : Int) → InR IntKind.u64 x21 → ∀ (x22 : Int), x22 = IntKind.u64.wrap (x14 + x21) → InR IntKind.u64 x22 → ∀ (x23 : Int), x23 = IntKind.u64.wrap (x22 + x19) → InR IntKind.u64 x23 → ∀ (x24 : Int), x24 = IntKind.i64.wrap (i - (16 : Int)) → InR IntKind.i64 x24 → Need ((0 : Int) ≤ x24 ∧ x24 < (80 : Int)) ∧ Need ((0 : Int) ≤ x24 ∧ x24 < (80 : Int)) ∧ ∀ (x25 : Int), x25 = w.getD x24.toNat (0 : Int) → InR IntKind.u64 x25 → ∀ (x26 : Int), x26 = IntKind.u64.wrap (x23 + x25) → InR IntKind.u64 x26 → Need ((0 : Int) ≤ i ∧ i < (80 : Int)) ∧ Need ((0 : Int) ≤ i ∧ i < (80 : Int)) ∧ ∀ (x27 : List Int), x27 = w.set i.toNat x26 → x27.length = (80 : Nat) → AllR IntKind.u64 x27 → ∀ (x28 : Int), x28 = IntKind.i64.wrap (i + (1 : Int)) → InR IntKind.i64 x28 → Same Tryd.f41 (3 : Nat) (itemsOf Tryd.f41 (3 : Nat)) ∧ Q (3 : Nat) [Pv.ro d, Pv.z o, Pv.z x28, Pv.l g, Pv.l g', Pv.l ws, Pv.l r, Pv.l x27])) ∧ (decide (i < (80 : Int)) = false → Same Tryd.f41 (14 : Nat) (itemsOf Tryd.f41 (14 : Nat)) ∧ Q (14 : Nat) [Pv.z (0 : Int), Pv.l g, Pv.l g', Pv.l ws, Pv.l r, Pv.l w, Pv.l ws])) := by
  intros
  kernel_rfl
theorem lc47b_eq : ∀ (i : Int) (g g' ws r w s : List Int) (K : List RV → List (Option (List Seg)) → Prop) (Q : Nat → List Pv → Prop), lc47b i g g' ws r w s K Q = ((decide (i < (80 : Int)) = true → ∀ (x1 : Int), x1 = andI IntKind.u64 (s.getD (4 : Nat) (0 : Int)) (s.getD (5 : Nat) (0 : Int)) → InR IntKind.u64 x1 → ∀ (x2 : Int), x2 = notI IntKind.u64 (s.getD (4 : Nat) (0 : Int)) → InR IntKind.u64 x2 → ∀ (x3 : Int), x3 = andI IntKind.u64 x2 (s.getD (6 : Nat) (0 : Int)) → InR IntKind.u64 x3 → ∀ (x4 : Int), x4 = xorI IntKind.u64 x1 x3 → InR IntKind.u64 x4 → ∀ (x5 : Int), x5 = andI IntKind.u64 (s.getD (0 : Nat) (0 : Int)) (s.getD (1 : Nat) (0 : Int)) → InR IntKind.u64 x5 → ∀ (x6 : Int), x6 = andI IntKind.u64 (s.getD (0 : Nat) (0 : Int)) (s.getD (2 : Nat) (0 : Int)) → InR IntKind.u64 x6 → ∀ (x7 : Int), x7 = xorI IntKind.u64 x5 x6 → InR IntKind.u64 x7 → ∀ (x8 : Int), x8 = andI IntKind.u64 (s.getD (1 : Nat) (0 : Int)) (s.getD (2 : Nat) (0 : Int)) → InR IntKind.u64 x8 → ∀ (x9 : Int), x9 = xorI IntKind.u64 x7 x8 → InR IntKind.u64 x9 → Need ((1 : Int) ≤ (14 : Int) ∧ (14 : Int) ≤ (63 : Int)) ∧ ∀ (x10 : Int), x10 = rotL (s.getD (4 : Nat) (0 : Int)) (-14 : Int) → InR IntKind.u64 x10 → Need ((1 : Int) ≤ (18 : Int) ∧ (18 : Int) ≤ (63 : Int)) ∧ ∀ (x11 : Int), x11 = rotL (s.getD (4 : Nat) (0 : Int)) (-18 : Int) → InR IntKind.u64 x11 → ∀ (x12 : Int), x12 = xorI IntKind.u64 x10 x11 → InR IntKind.u64 x12 → Need ((1 : Int) ≤ (41 : Int) ∧ (41 : Int) ≤ (63 : Int)) ∧ ∀ (x13 : Int), x13 = rotL (s.getD (4 : Nat) (0 : Int)) (-41 : Int) → InR IntKind.u64 x13 → ∀ (x14 : Int), x14 = xorI IntKind.u64 x12 x13 → InR IntKind.u64 x14 → Need ((1 : Int) ≤ (28 : Int) ∧ (28 : Int) ≤ (63 : Int)) ∧ ∀ (x15 : Int), x15 = rotL (s.getD (0 : Nat) (0 : Int)) (-28 : Int) → InR IntKind.u64 x15 → Need ((1 : Int) ≤ (34 : Int) ∧ (34 : Int) ≤ (63 : Int)) ∧ ∀ (x16 : Int), x16 = rotL (s.getD (0 : Nat) (0 : Int)) (-34 : Int) → InR IntKind.u64 x16 → ∀ (x17 : Int), x17 = xorI IntKind.u64 x15 x16 → InR IntKind.u64 x17 → Need ((1 : Int) ≤ (39 : Int) ∧ (39 : Int) ≤ (63 : Int)) ∧ ∀ (x18 : Int), x18 = rotL (s.getD (0 : Nat) (0 : Int)) (-39 : Int) → InR IntKind.u64 x18 → ∀ (x19 : Int), x19 = xorI IntKind.u64 x17 x18 → InR IntKind.u64 x19 → ∀ (x20 : Int), x20 = IntKind.u64.wrap (s.getD (7 : Nat) (0 : Int) + x14) → InR IntKind.u64 x20 → ∀ (x21 : Int), x21 = IntKind.u64.wrap (x20 + x4) → InR IntKind.u64 x21 → Need ((0 : Int) ≤ i ∧ i < (80 : Int)) ∧ Need ((0 : Int) ≤ i ∧ i < (80 : Int)) ∧ ∀ (x22 : Int), x22 = g'.getD i.toNat (0 : Int) → InR IntKind.u64 x22 → ∀ (x23 : Int), x23 = IntKind.u64.wrap (x21 + x22) → InR IntKind.u64 x23 → Need ((0 : Int) ≤ i ∧ i < (80 : Int)) ∧ Need ((0 : Int) ≤ i ∧ i < (80 : Int)) ∧ ∀ (x24 : Int), x24 = w.getD i.toNat (0 : Int) → InR IntKind.u64 x24 → ∀ (x25 : Int), x25 = IntKind.u64.wrap (x23 + x24) → InR IntKind.u64 x25 → ∀ (x26 : Int), x26 = IntKind.u64.wrap (x25 + x19) → InR IntKind.u64 x26 → ∀ (x27 : Int), x27 = IntKind.u64.wrap (x26 + x9) → InR IntKind.u64 x27 → ∀ (x28 : Int), x28 = IntKind.u64.wrap (s.getD (3 : Nat) (0 : Int) + x25) → InR IntKind.u64 x28 → ∀ (x29 : Int), x29 = IntKind.i64.wrap (i + (1 : Int)) → InR IntKind.i64 x29 → Same Tryd.f41 (14 : Nat) (itemsOf Tryd.f41 (14 : Nat)) ∧ Q (14 : Nat) [Pv.z x29, Pv.l g, Pv.l g', Pv.l ws, Pv.l r, Pv.l w, Pv.l [x27, s.getD (0 : Nat) (0 : Int), s.getD (1 : Nat) (0 : Int), s.getD (2 : Nat) (0 : Int), x28, s.getD (4 : Nat) (0 : Int), s.getD (5 : Nat) (0 : Int), s.getD (6 : Nat) (0 : Int)]]) ∧ (decide (i < (80 : Int)) = false → ∀ (x30 : Int), x30 = IntKind.u64.wrap (ws.getD (0 : Nat) (0 : Int) + s.getD (0 : Nat) (0 : Int)) → InR IntKind.u64 x30 → ∀ (x31 : Int), x31 = IntKind.u64.wrap ((ws.set (0 : Nat) x30).getD (1 : Nat) (0 : Int) + s.getD (1 : Nat) (0 : Int)) → InR IntKind.u64 x31 → ∀ (x32 : Int), x32 = IntKind.u64.wrap (((ws.set (0 : Nat) x30).set (1 : Nat) x31).getD (2 : Nat) (0 : Int) + s.getD (2 : Nat) (0 : Int)) → InR IntKind.u64 x32 → ∀ (x33 : Int), x33 = IntKind.u64.wrap ((((ws.set (0 : Nat) x30).set (1 : Nat) x31).set (2 : Nat) x32).getD (3 : Nat) (0 : Int) + s.getD (3 : Nat) (0 : Int)) → InR IntKind.u64 x33 → ∀ (x34 : Int), x34 = IntKind.u64.wrap (((((ws.set (0 : Nat) x30).set (1 : Nat) x31).set (2 : Nat) x32).set (3 : Nat) x33).getD (4 : Nat) (0 : Int) + s.getD (4 : Nat) (0 : Int)) → InR IntKind.u64 x34 → ∀ (x35 : Int), x35 = IntKind.u64.wrap ((((((ws.set (0 : Nat) x30).set (1 : Nat) x31).set (2 : Nat) x32).set (3 : Nat) x33).set (4 : Nat) x34).getD (5 : Nat) (0 : Int) + s.getD (5 : Nat) (0 : Int)) → InR IntKind.u64 x35 → ∀ (x36 : Int), x36 = IntKind.u64.wrap (((((((ws.set (0 : Nat) x30).set (1 : Nat) x31).set (2 : Nat) x32).set (3 : Nat) x33).set (4 : Nat) x34).set (5 : Nat) x35).getD (6 : Nat) (0 : Int) + s.getD (6 : Nat) (0 : Int)) → InR IntKind.u64 x36 → ∀ (x37 : Int), x37 = IntKind.u64.wrap ((((((((ws.set (0 : Nat) x30).set (1 : Nat) x31).set (2 : Nat) x32).set (3 : Nat) x33).set (4 : Nat) x34).set (5 : Nat) x35).set (6 : Nat) x36).getD (7 : Nat) (0 : Int) + s.getD (7 : Nat) (0 : Int)) → InR IntKind.u64 x37 → K [RV.v (SV.arr IntKind.u64 (8 : Nat) false ((((((((ws.set (0 : Nat) x30).set (1 : Nat) x31).set (2 : Nat) x32).set (3 : Nat) x33).set (4 : Nat) x34).set (5 : Nat) x35).set (6 : Nat) x36).set (7 : Nat) x37))] [])) := by
  intros
  kernel_rfl

theorem word_part (b : List Int) (o t : Nat) (ht : t < 16) : wordL b (o + 8 * t) = partw ((b.drop o).take 128) t 8 := by
  have h : ∀ k, k ≤ 8 → partw (b.drop (o + 8 * t)) 0 k = partw ((b.drop o).take 128) t k := by
    intro k
    induction k with
    | zero => intro _; rfl
    | succ k ih =>
      intro hk
      have e1 : (b.drop (o + 8 * t)).getD (8 * 0 + k) 0 = ((b.drop o).take 128).getD (8 * t + k) 0 := by
        rw [List.getD_eq_getElem?_getD, List.getD_eq_getElem?_getD, List.getElem?_drop, List.getElem?_take, if_pos (by omega), List.getElem?_drop]
        congr 2
        omega
      rw [partw, partw, ih (by omega), e1]
  exact h 8 (by omega)
def zero8 : List Int := [0, 0, 0, 0, 0, 0, 0, 0]
def inv47 (ws bl : List Int) (d : RO) (o : Int) (key : Nat) (ps : List Pv) (mm : Nat) : Prop :=
  (key = 3 ∧ ∃ t : Nat, t < 16 ∧ ps = [.ro d, .z o, .z (t : Int), .l K80, .l K80, .l ws, .l zero8, .l (prew bl t)] ∧ mm = 200 - t) ∨
  (key = 3 ∧ ∃ i : Nat, i ≤ 64 ∧ ps = [.ro d, .z o, .z ((16 + i : Nat) : Int), .l K80, .l K80, .l ws, .l zero8, .l (schs bl i)] ∧ mm = 184 - i) ∨
  (key = 14 ∧ ∃ t : Nat, t ≤ 80 ∧ ps = [.z (t : Int), .l K80, .l K80, .l ws, .l zero8, .l (schs bl 64), .l (rnds (schs bl 64) ws t)] ∧ mm = 80 - t)
def takeG : List AV → Option (List Prop × List RV × List (Option (List Seg)))
  | [.v (.arr .u64 8 _ ws), .d (.ints .u8) d, .v (.i .i64 ⟨_, o⟩)] => some ([0 ≤ o, o + 128 ≤ ((roL d).length : Int)], [.v (.arr .u64 8 false (compr ws (((roL d).drop o.toNat).take 128)))], [])
  | _ => none
set_option maxHeartbeats 2000000 in
theorem takeG_ok : CallOk Tryd.prog gh4 41 (genCtr [.v, .d (.ints .u8), .v] takeG) := by
  refine call_gen (fn := Tryd.f41) Δ1_ok rfl glow4 rfl (by kernel_rfl) (by kernel_rfl) _ takeG fun av p rvs fin hs hp hf => ?_
  unfold takeG at hs
  split at hs
  · rename_i e ws d st o
    simp only [Option.some.injEq, Prod.mk.injEq] at hs
    obtain ⟨rfl, rfl, rfl⟩ := hs
    have h0 : 0 ≤ o := hp.1
    have h1 : o + 128 ≤ ((roL d).length : Int) := hp.2.1
    obtain ⟨⟨hws, _⟩, ⟨_, hlen⟩, _⟩ := hf
    obtain ⟨bl, hbl⟩ : ∃ bl, ((roL d).drop o.toNat).take 128 = bl := ⟨_, rfl⟩
    rw [hbl]
    refine ⟨[.arr .u64 8 false ws, .ro 490 (.ints .u8) d, .i .i64 ⟨false, o⟩], [], L47, inv47 ws bl d o, ?okA, Nat.le_of_ble_eq_true (by kernel_rfl), ?_, ?_, ?_⟩
    case okA => exact ⟨rfl, rfl, rfl, trivial⟩
    · intro kk t ht g hg
      have hg : g ∈ [3, 0, 4, 2, 490] := hg
      simp only [List.mem_cons, List.not_mem_nil, or_false] at hg
      simp only [L47, List.mem_cons, List.not_mem_nil, or_false, Prod.mk.injEq] at ht
      obtain ⟨rfl, rfl⟩ | ⟨rfl, rfl⟩ := ht <;> rcases hg with rfl | rfl | rfl | rfl | rfl <;> exact ⟨by omega, rfl⟩
    · rintro vk t ps mm ht (⟨rfl, t', ht', rfl, rfl⟩ | ⟨rfl, i, hi, rfl, rfl⟩ | ⟨rfl, t', ht', rfl, rfl⟩)
      all_goals simp only [L47, List.mem_cons, List.not_mem_nil, or_false, Prod.mk.injEq, Nat.reduceEqDiff, false_and, true_and, false_or, or_false] at ht
      · subst ht
        show lc47a d o (t' : Int) K80 K80 ws zero8 (prew bl t') _ _
        rw [lc47a_eq]
        refine ⟨fun _ => ⟨fun _ => ?_, fun h => absurd (of_decide_eq_false h) (by omega)⟩, fun h => absurd (of_decide_eq_false h) (by omega)⟩
        intro x1 e1 _ x2 e2 _
        rw [wrap_i64 (by omega)] at e1
        rw [e1, wrap_i64 (by omega)] at e2
        refine ⟨need_of (by omega), need_of (by omega), ?_⟩
        intro x3 e3 _
        refine ⟨need_of (by omega), need_of (by omega), ?_⟩
        intro x4 e4 _ _ x5 e5 _
        rw [wrap_i64 (by omega)] at e5
        rw [show x2.toNat = o.toNat + 8 * t' by omega, word_part _ _ _ ht', hbl] at e3
        have e4 : x4 = prew bl (t' + 1) := by rw [e4, e3, Int.toNat_natCast]; rfl
        rw [e4, e5]
        by_cases hl : t' + 1 < 16
        · exact ⟨rfl, 200 - (t' + 1), by omega, Or.inl ⟨rfl, t' + 1, hl, rfl, rfl⟩⟩
        · obtain rfl : t' = 15 := by omega
          exact ⟨rfl, 184 - 0, by omega, Or.inr (Or.inl ⟨rfl, 0, by omega, rfl, rfl⟩)⟩
      · subst ht
        show lc47a d o ((16 + i : Nat) : Int) K80 K80 ws zero8 (schs bl i) _ _
        rw [lc47a_eq]
        refine ⟨fun hlt => ⟨fun h => absurd (of_decide_eq_true h) (by omega), fun _ => ?_⟩, fun hge => ?_⟩
        · have hlt := of_decide_eq_true hlt
          generalize hw : schs bl i = w
          intro x6 e6 _
          rw [wrap_i64 (by omega)] at e6
          refine ⟨need_of (by omega), need_of (by omega), ?_⟩
          intro x7 e7 _ x8 e8 _
          rw [wrap_i64 (by omega)] at e8
          refine ⟨need_of (by omega), need_of (by omega), ?_⟩
          intro x9 e9 _
          refine ⟨need_of (by omega), ?_⟩
          intro x10 e10 _
          refine ⟨need_of (by omega), ?_⟩
          intro x11 e11 _ x12 e12 _ x13 e13 _ x14 e14 _
          refine ⟨need_of (by omega), ?_⟩
          intro x15 e15 _
          refine ⟨need_of (by omega), ?_⟩
          intro x16 e16 _ x17 e17 _ x18 e18 _ x19 e19 _ x20 e20 _
          rw [wrap_i64 (by omega)] at e20
          refine ⟨need_of (by omega), need_of (by omega), ?_⟩
          intro x21 e21 _ x22 e22 _ x23 e23 _ x24 e24 _
          rw [wrap_i64 (by omega)] at e24
          refine ⟨need_of (by omega), need_of (by omega), ?_⟩
          intro x25 e25 _ x26 e26 _
          refine ⟨need_of (by omega), need_of (by omega), ?_⟩
          intro x27 e27 _ _ x28 e28 _
          rw [wrap_i64 (by omega)] at e28
          have i6 : x6.toNat = 16 + i - 2 := by omega
          have i8 : x8.toNat = 16 + i - 15 := by omega
          have i20 : x20.toNat = 16 + i - 7 := by omega
          have i24 : x24.toNat = 16 + i - 16 := by omega
          rw [i6] at e7
          rw [i8] at e9
          rw [i20] at e21
          rw [i24] at e25
          have hx : x26 = schw w (16 + i) := by
            rw [e26, e23, e22, e14, e12, e10, e11, e13, e19, e17, e15, e16, e18, e7, e9, e21, e25]; rfl
          have e27 : x27 = schs bl (i + 1) := by
            rw [e27, hx, Int.toNat_natCast, ← hw]; rfl
          rw [e27]
          refine ⟨rfl, 184 - (i + 1), by omega, Or.inr (Or.inl ⟨rfl, i + 1, by omega, ?_, rfl⟩)⟩
          rw [show x28 = ((16 + (i + 1) : Nat) : Int) by omega]
        · have hge := of_decide_eq_false hge
          obtain rfl : i = 64 := by omega
          exact ⟨rfl, 80 - 0, by omega, Or.inr (Or.inr ⟨rfl, 0, by omega, rfl, rfl⟩)⟩
      · subst ht
        show lc47b (t' : Int) K80 K80 ws zero8 (schs bl 64) (rnds (schs bl 64) ws t') _ _
        rw [lc47b_eq]
        obtain ⟨a, b, c, d', e, f, g, h, hst⟩ := len8 (rnds_len (schs bl 64) ws hws t')
        refine ⟨fun hlt => ?_, fun hge => ?_⟩
        · have hlt := of_decide_eq_true hlt
          rw [hst]
          generalize hw : schs bl 64 = w at *
          intro x1 e1 _ x2 e2 _ x3 e3 _ x4 e4 _ x5 e5 _ x6 e6 _ x7 e7 _ x8 e8 _ x9 e9 _
          refine ⟨need_of (by omega), ?_⟩
          intro x10 e10 _
          refine ⟨need_of (by omega), ?_⟩
          intro x11 e11 _ x12 e12 _
          refine ⟨need_of (by omega), ?_⟩
          intro x13 e13 _ x14 e14 _
          refine ⟨need_of (by omega), ?_⟩
          intro x15 e15 _
          refine ⟨need_of (by omega), ?_⟩
          intro x16 e16 _ x17 e17 _
          refine ⟨need_of (by omega), ?_⟩
          intro x18 e18 _ x19 e19 _ x20 e20 _ x21 e21 _
          refine ⟨need_of (by omega), need_of (by omega), ?_⟩
          intro x22 e22 _ x23 e23 _
          refine ⟨need_of (by omega), need_of (by omega), ?_⟩
          intro x24 e24 _ x25 e25 _ x26 e26 _ x27 e27 _ x28 e28 _ x29 e29 _
          rw [wrap_i64 (by omega)] at e29
          rw [Int.toNat_natCast] at e22 e24
          have hu : x25 = rndu (K80.getD t' 0) (w.getD t' 0) e f g h := by
            rw [e25, e23, e21, e20, e14, e12, e10, e11, e13, e4, e1, e3, e2, e22, e24]; rfl
          have ha : x27 = rnda (rndu (K80.getD t' 0) (w.getD t' 0) e f g h) a b c := by
            rw [e27, e26, e19, e17, e15, e16, e18, e9, e7, e5, e6, e8, hu]; rfl
          have hd : x28 = IntKind.u64.wrap (d' + rndu (K80.getD t' 0) (w.getD t' 0) e f g h) := by
            rw [e28, hu]; rfl
          refine ⟨rfl, 80 - (t' + 1), by omega, Or.inr (Or.inr ⟨rfl, t' + 1, by omega, ?_, rfl⟩)⟩
          rw [hw, rnds, hst, ha, hd, e29]
          rfl
        · have hge := of_decide_eq_false hge
          obtain rfl : t' = 80 := by omega
          rw [hst]
          obtain ⟨w0, w1, w2, w3, w4, w5, w6, w7, rfl⟩ := len8 hws
          intro x30 e30 _ x31 e31 _ x32 e32 _ x33 e33 _ x34 e34 _ x35 e35 _ x36 e36 _ x37 e37 _
          refine ⟨⟨?_, trivial⟩, trivial⟩
          show _ = compr _ _
          have e30 : x30 = IntKind.u64.wrap (w0 + a) := e30
          have e31 : x31 = IntKind.u64.wrap (w1 + b) := e31
          have e32 : x32 = IntKind.u64.wrap (w2 + c) := e32
          have e33 : x33 = IntKind.u64.wrap (w3 + d') := e33
          have e34 : x34 = IntKind.u64.wrap (w4 + e) := e34
          have e35 : x35 = IntKind.u64.wrap (w5 + f) := e35
          have e36 : x36 = IntKind.u64.wrap (w6 + g) := e36
          have e37 : x37 = IntKind.u64.wrap (w7 + h) := e37
          rw [compr, hst, e30, e31, e32, e33, e34, e35, e36, e37]
          rfl
    · show vc47 ws d o _ _
      rw [vc47_eq]
      exact ⟨rfl, 200 - 0, Or.inl ⟨rfl, 0, by omega, rfl, rfl⟩⟩
  · cases hs
def Δ2 : Tab := ⟨tys, (41, genCtr [.v, .d (.ints .u8), .v] takeG) :: Δ1.ctr, [3, 0, 4, 2], gh4⟩
theorem Δ2_ok : TabOk Tryd.prog Δ2 := Δ1_ok.cons takeG_ok
end Go.Gx

/- The hash of bytes, by blocks of the padded message. -/
namespace Go.Sp
open Go.Gx
def padK0 (n : Nat) : Nat := (239 - n % 128) % 128
/-- What is put behind n bytes. -/
def padT (n : Nat) : List Int := 128 :: (List.replicate (padK0 n) 0 ++ (be8 0 ++ be8 (8 * (n : Int))))
end Go.Sp
namespace Go.Gx
open Go.Proofs Go.Sp
set_option linter.unusedVariables false
set_option maxRecDepth 100000

theorem be8_len (x : Int) : (be8 x).length = 8 := rfl
theorem padT_len (n : Nat) : (padT n).length = padK0 n + 17 := by
  unfold padT
  simp only [List.length_cons, List.length_append, List.length_replicate, be8_len]
theorem pad_mult (n : Nat) : (n + (padT n).length) % 128 = 0 := by
  rw [padT_len]
  unfold padK0
  omega
theorem splice_full (l t : List Int) (j : Nat) (h : l.length ≤ j + t.length) : splice l j t = l.take j ++ t := by
  unfold splice
  rw [List.drop_of_length_le (by omega), List.append_nil]
theorem set_right (A B : List Int) (j : Nat) (v : Int) (i : Nat) (hi : i = A.length + j) : (A ++ B).set i v = A ++ B.set j v := by
  subst hi
  rw [List.set_append_right _ _ (by omega), Nat.add_sub_cancel_left]
theorem setlen_app (A : List Int) (hA : A.length = 112) (n : Int) : setlen (A ++ List.replicate 16 0) n = A ++ (be8 (hin n) ++ be8 (lon n)) := by
  unfold setlen
  rw [set_right A _ 7 _ 119 (by omega), set_right A _ 15 _ 127 (by omega), set_right A _ 6 _ 118 (by omega), set_right A _ 14 _ 126 (by omega),
    set_right A _ 5 _ 117 (by omega), set_right A _ 13 _ 125 (by omega), set_right A _ 4 _ 116 (by omega), set_right A _ 12 _ 124 (by omega),
    set_right A _ 3 _ 115 (by omega), set_right A _ 11 _ 123 (by omega), set_right A _ 2 _ 114 (by omega), set_right A _ 10 _ 122 (by omega),
    set_right A _ 1 _ 113 (by omega), set_right A _ 9 _ 121 (by omega), set_right A _ 0 _ 112 (by omega), set_right A _ 8 _ 120 (by omega)]
  rfl
theorem hin_of (n : Nat) (h : n ≤ 1152921504606846976) : hin (n : Int) = 0 ∧ lon (n : Int) = 8 * (n : Int) := by
  have hw : IntKind.u64.wrap (n : Int) = (n : Int) := wrap_of_InR (show 0 ≤ (n : Int) ∧ (n : Int) < 18446744073709551616 by omega)
  unfold hin lon
  rw [hw]
  omega
theorem endb_of (bl : List Int) (hbl : bl.length = 128) (n r : Nat) (hr : r = n % 128) : endb bl (n : Int) = bl.take r ++ (128 :: List.replicate (127 - r) 0) := by
  have h1 : ((n : Int).tmod 128).toNat = r := by
    rw [Int.tmod_eq_emod_of_nonneg (by omega)]; omega
  have h2 : (128 - (n : Int).tmod 128).toNat = 127 - r + 1 := by
    rw [Int.tmod_eq_emod_of_nonneg (by omega)]; omega
  have h3 : (bl.take r).length = r := by rw [List.length_take]; omega
  unfold endb
  rw [h1, h2, splice_full _ _ _ (by rw [List.length_replicate]; omega), set_right _ _ 0 _ r (by omega), List.replicate_succ, List.set_cons_zero]
theorem rep_add (a b : Nat) : List.replicate (a + b) (0 : Int) = List.replicate a 0 ++ List.replicate b 0 := List.replicate_append_replicate.symm
/-- The last blocks. -/
theorem finw_feed (s : HS) (n : Nat) (hn : s.n = (n : Int)) (hbl : s.bl.length = 128) (h : n ≤ 1152921504606846976) : finw s.ws s.bl (n : Int) = (feed (padT n) s).ws := by
  obtain ⟨hh, hl⟩ := hin_of n h
  have hm : (s.n % 128).toNat = n % 128 := by rw [hn]; omega
  have hE := endb_of s.bl hbl n (n % 128) rfl
  have h3 : (s.bl.take (n % 128)).length = n % 128 := by rw [List.length_take]; omega
  have hlt : n % 128 < 128 := Nat.mod_lt _ (by omega)
  have htm : (n : Int).tmod 128 = ((n % 128 : Nat) : Int) := by rw [Int.tmod_eq_emod_of_nonneg (by omega)]; omega
  generalize hr : n % 128 = r at *
  unfold finw
  rw [htm, hE]
  by_cases hc : r < 112
  · rw [if_neg (by omega)]
    have hk : padK0 n = 111 - r := by unfold padK0; rw [hr]; omega
    have hpl : (padT n).length = 128 - r := by rw [padT_len, hk]; omega
    rw [feed_chunk (padT n) s (by omega) hbl (by omega) (by unfold padT; simp), hm, if_pos (by omega), splice_full _ _ _ (by omega)]
    rw [show 127 - r = (111 - r) + 16 by omega, rep_add, ← List.cons_append, ← List.append_assoc, setlen_app _ (by simp; omega), hh, hl]
    unfold padT
    rw [hk]
    simp only [List.append_assoc, List.cons_append]
  · rw [if_pos (by omega)]
    have hk : padK0 n = (127 - r) + 112 := by unfold padK0; rw [hr]; omega
    have hsplit : padT n = (128 :: List.replicate (127 - r) 0) ++ (List.replicate 112 0 ++ (be8 0 ++ be8 (8 * (n : Int)))) := by
      unfold padT
      rw [hk, rep_add]
      simp only [List.append_assoc, List.cons_append]
    have hl1 : (128 :: List.replicate (127 - r) (0 : Int)).length = 128 - r := by simp; omega
    have hl2 : (List.replicate 112 (0 : Int) ++ (be8 0 ++ be8 (8 * (n : Int)))).length = 128 := by
      simp only [List.length_append, List.length_replicate, be8_len]
    have hs1 : splice s.bl r (128 :: List.replicate (127 - r) (0 : Int)) = s.bl.take r ++ 128 :: List.replicate (127 - r) 0 := splice_full _ _ _ (by omega)
    have hs2 : (s.bl.take r ++ 128 :: List.replicate (127 - r) (0 : Int)).length = 128 := by rw [List.length_append]; omega
    rw [hsplit, feed_append, feed_chunk (128 :: List.replicate (127 - r) 0) s (by omega) hbl (by omega) (by simp), hm, if_pos (by omega), hs1]
    rw [feed_chunk _ _ (by dsimp only; omega) hs2 (by dsimp only; omega) (by simp)]
    dsimp only
    have h0 : ((s.n + ((128 :: List.replicate (127 - r) (0 : Int)).length : Int)) % 128).toNat = 0 := by rw [hn, hl1]; omega
    rw [h0, if_pos (by omega), splice_full _ (List.replicate 112 (0 : Int) ++ (be8 0 ++ be8 (8 * (n : Int)))) 0 (by omega), List.take_zero, List.nil_append]
    have h9 : splice (s.bl.take r ++ 128 :: List.replicate (127 - r) (0 : Int)) 0 (List.replicate 128 0) = List.replicate 112 0 ++ List.replicate 16 0 := by
      rw [splice_full _ _ _ (by rw [hs2]; simp), ← rep_add]; rfl
    rw [h9, setlen_app _ (by simp), hh, hl]
theorem feed_bl0 (b : List Int) : (feed b st0).bl.length = 128 := by rw [feed_bl]; simp [st0]
theorem sha_pad (b : List Int) (h : b.length ≤ 1152921504606846976) : sha b = outb (feed (b ++ padT b.length) st0).ws := by
  have hn := feed_st0 b
  unfold sha sumL
  rw [if_pos rfl, feed_append, hn, finw_feed (feed b st0) b.length hn (feed_bl0 b) h]
/-- One block more. -/
theorem feed_block (p : List Int) (j : Nat) (h : 128 * j + 128 ≤ p.length) : (feed (p.take (128 * (j + 1))) st0).ws = compr (feed (p.take (128 * j)) st0).ws ((p.drop (128 * j)).take 128) := by
  have hs : p.take (128 * (j + 1)) = p.take (128 * j) ++ (p.drop (128 * j)).take 128 := by
    rw [show 128 * (j + 1) = 128 * j + 128 by omega, List.take_add]
  have hl : ((p.drop (128 * j)).take 128).length = 128 := by rw [List.length_take, List.length_drop]; omega
  have hl1 : (p.take (128 * j)).length = 128 * j := by rw [List.length_take]; omega
  have hn := feed_st0 (p.take (128 * j))
  have hb := feed_bl0 (p.take (128 * j))
  rw [hl1] at hn
  have hm : ((feed (p.take (128 * j)) st0).n % 128).toNat = 0 := by rw [hn]; omega
  rw [hs, feed_append, feed_chunk _ _ (by omega) hb (by omega) (by intro e; rw [e] at hl; simp at hl), hm, if_pos (by omega), splice_full _ _ _ (by omega), List.take_zero, List.nil_append]
end Go.Gx

/- The reference's hash. -/
namespace Go.Gx
open Go.Proofs Go.Sp
set_option linter.unusedVariables false
set_option maxRecDepth 100000

def L37 : Loops := [(3, ⟨[.ro 490 (.ints .u8) (.l []), .any, .p 1000 0, .sl 1001 0 1 ⟨true, 0⟩ ⟨false, 0⟩] ++ reps .any 61, gh4 ++ [(490, .world), (1000, .segs false [.arr .u8 64 false []]), (1001, .segs false [.rowI .u8 []])], 2000⟩),
  (9, ⟨[.any, .any, .p 1000 0, .sl 1001 0 1 ⟨true, 0⟩ ⟨false, 0⟩, .p 1002 0, .i .i64 ⟨false, 0⟩] ++ reps .any 59, gh4 ++ [(490, .world), (1000, .segs false [.arr .u8 64 false []]), (1001, .segs false [.rowI .u8 []]), (1002, .segs false [.arr .u64 8 false []])], 2000⟩)]
def vc37 (d : RO) (K : List RV → List (Option (List Seg)) → Prop) (Q : Nat → List Pv → Prop) : Prop := fnVcG 0 Δ2 Tryd.f21 L37 [.ro 490 (.ints .u8) d] (gh4 ++ (490, .world) :: []) K Q
def lc37a (d : RO) (z : Int) (g g' r l : List Int) (K : List RV → List (Option (List Seg)) → Prop) (Q : Nat → List Pv → Prop) : Prop := loopVcG 0 Δ2 Tryd.f21 L37 3 [.ro d, .z z, .l g, .l g', .l r, .l l] K Q
def lc37b (z i : Int) (g g' r l s : List Int) (K : List RV → List (Option (List Seg)) → Prop) (Q : Nat → List Pv → Prop) : Prop := loopVcG 0 Δ2 Tryd.f21 L37 9 [.z z, .z i, .l g, .l g', .l r, .l l, .l s] K Q
theorem vc37_eq : ∀ (d : RO) (K : List RV → List (Option (List Seg)) → Prop) (Q : Nat → List Pv → Prop), vc37 d K Q = (Need ((([] ++ roL d).length : Int) * (1 : Int) ≤ (70368744177664 : Int)) ∧ ∀ (x1 : List Int), x1 = [] ++ roL d → AllR IntKind.u8 x1 → ∀ (x2 : Int), x2 = (([] ++ roL d).length : Int) → (0 : Int) ≤ x2 → InR IntKind.i64 x2 → Need (↑(x1 ++ List.take (1 : Nat) (List.drop (0 : Nat) [(128 : Int)])).length * (1 : Int) ≤ (70368744177664 : Int)) ∧ Need (x2 = ↑x1.length) ∧ Need ((1 : Int) ≤ (1 : Int)) ∧ ∀ (x3 : List Int), x3 = x1 ++ List.take (1 : Nat) (List.drop (0 : Nat) [(128 : Int)]) → AllR IntKind.u8 x3 → ∀ (x4 : Int), x4 = ↑(x1 ++ List.take (1 : Nat) (List.drop (0 : Nat) [(128 : Int)])).length → (0 : Int) ≤ x4 → InR IntKind.i64 x4 → Same Tryd.f21 (3 : Nat) (itemsOf Tryd.f21 (3 : Nat)) ∧ Q (3 : Nat) [Pv.ro d, Pv.z x4, Pv.l K80, Pv.l K80, Pv.l (List.replicate (64 : Nat) (0 : Int)), Pv.l x3]) := by
  intros
  kernel_rfl
theorem lc37a_eq : ∀ (d : RO) (z : Int) (g g' r l : List Int) (K : List RV → List (Option (List Seg)) → Prop) (Q : Nat → List Pv → Prop), lc37a d z g g' r l K Q = ∀ (x1 : Int), x1 = z.tmod (128 : Int) → InR IntKind.i64 x1 → ((x1 != (112 : Int)) = true → Need (↑(l ++ List.take (1 : Nat) (List.drop (0 : Nat) [(0 : Int)])).length * (1 : Int) ≤ (70368744177664 : Int)) ∧ Need (z = ↑l.length) ∧ Need ((1 : Int) ≤ (1 : Int)) ∧ ∀ (x2 : List Int), x2 = l ++ List.take (1 : Nat) (List.drop (0 : Nat) [(0 : Int)]) → AllR IntKind.u8 x2 → ∀ (x3 : Int), x3 = ↑(l ++ List.take (1 : Nat) (List.drop (0 : Nat) [(0 : Int)])).length → (0 : Int) ≤ x3 → InR IntKind.i64 x3 → Same Tryd.f21 (3 : Nat) (itemsOf Tryd.f21 (3 : Nat)) ∧ Q (3 : Nat) [Pv.ro d, Pv.z x3, Pv.l g, Pv.l g', Pv.l r, Pv.l x2]) ∧ ((x1 != (112 : Int)) = false → ∀ (x4 : List Int), x4 = be8 (0 : Int) → AllR IntKind.u8 x4 → ∀ (x5 : Int), x5 = (8 : Int) → (0 : Int) ≤ x5 → InR IntKind.i64 x5 → Need (↑(l ++ List.take x5.toNat (List.drop (0 : Nat) x4)).length * (1 : Int) ≤ (70368744177664 : Int)) ∧ Need (z = ↑l.length) ∧ Need ((0 : Int) + x5 ≤ ↑x4.length) ∧ ∀ (x6 : List Int), x6 = l ++ List.take x5.toNat (List.drop (0 : Nat) x4) → AllR IntKind.u8 x6 → ∀ (x7 : Int), x7 = ↑(l ++ List.take x5.toNat (List.drop (0 : Nat) x4)).length → (0 : Int) ≤ x7 → InR IntKind.i64 x7 → ∀ (x8 : Int), x8 = IntKind.u64.wrap ((roL d).length : Int) → InR IntKind.u64 x8 → ∀ (x9 : Int), x9 = IntKind.u64.wrap ((8 : Int) * x8) → InR IntKind.u64 x9 → ∀ (x10 : List Int), x10 = be8 x9 → AllR IntKind.u8 x10 → ∀ (x11 : Int), x11 = ((be8 x9).length : Int) → (0 : Int) ≤ x11 → InR IntKind.i64 x11 → Need (↑(x6 ++ List.take x11.toNat (List.drop (0 : Nat) x10)).length * (1 : Int) ≤ (70368744177664 : Int)) ∧ Need (x7 = ↑x6.length) ∧ Need ((0 : Int) + x11 ≤ ↑x10.length) ∧ ∀ (x12 : List Int), x12 = x6 ++ List.take x11.toNat (List.drop (0 : Nat) x10) → AllR IntKind.u8 x12 → ∀ (x13 : Int), x13 = ↑(x6 ++ List.take x11.toNat (List.drop (0 : Nat) x10)).length → (0 : Int) ≤ x13 → InR IntKind.i64 x13 → Same Tryd.f21 (9 : Nat) (itemsOf Tryd.f21 (9 : Nat)) ∧ Q (9 : Nat) [Pv.z x13, Pv.z (0 : Int), Pv.l g, Pv.l g', Pv.l r, Pv.l x12, Pv.l [(7640891576956012808 : Int), (13503953896175478587 : Int), (4354685564936845355 : Int), (11912009170470909681 : Int), (5840696475078001361 : Int), (11170449401992604703 : Int), (2270897969802886507 : Int), (6620516959819538809 : Int)]]) := by
  intros
  kernel_rfl
theorem lc37b_eq : ∀ (z i : Int) (g g' r l s : List Int) (K : List RV → List (Option (List Seg)) → Prop) (Q : Nat → List Pv → Prop), lc37b z i g g' r l s K Q = ((decide (i < z) = true → Need ((0 : Int) + z ≤ ↑l.length) ∧ Need ((0 : Int) ≤ i) ∧ Need (i + (128 : Int) ≤ ↑(roL (RO.l (List.take z.toNat (List.drop (0 : Nat) l)))).length) ∧ ∀ (x1 : List Int), x1 = compr s (List.take (128 : Nat) (List.drop i.toNat (roL (RO.l (List.take z.toNat (List.drop (0 : Nat) l)))))) → x1.length = (8 : Nat) → AllR IntKind.u64 x1 → ∀ (x2 : Int), x2 = IntKind.i64.wrap (i + (128 : Int)) → InR IntKind.i64 x2 → Same Tryd.f21 (9 : Nat) (itemsOf Tryd.f21 (9 : Nat)) ∧ Q (9 : Nat) [Pv.z z, Pv.z x2, Pv.l g, Pv.l g', Pv.l r, Pv.l l, Pv.l x1]) ∧ (decide (i < z) = false → ∀ (x3 : List Int), x3 = be8 (s.getD (0 : Nat) (0 : Int)) → AllR IntKind.u8 x3 → ∀ (x4 : Int), x4 = ↑(be8 (s.getD (0 : Nat) (0 : Int))).length → (0 : Int) ≤ x4 → InR IntKind.i64 x4 → Need ((0 : Int) ≤ (0 : Int) ∧ (0 : Int) < x4) ∧ Need ((0 : Nat) + (1 : Nat) * (0 : Nat) < x3.length) ∧ Need ((0 : Int) ≤ (1 : Int) ∧ (1 : Int) < x4) ∧ Need ((0 : Nat) + (1 : Nat) * (1 : Nat) < x3.length) ∧ Need ((0 : Int) ≤ (2 : Int) ∧ (2 : Int) < x4) ∧ Need ((0 : Nat) + (1 : Nat) * (2 : Nat) < x3.length) ∧ Need ((0 : Int) ≤ (3 : Int) ∧ (3 : Int) < x4) ∧ Need ((0 : Nat) + (1 : Nat) * (3 : Nat) < x3.length) ∧ Need ((0 : Int) ≤ (4 : Int) ∧ (4 : Int) < x4) ∧ Need ((0 : Nat) + (1 : Nat) * (4 : Nat) < x3.length) ∧ Need ((0 : Int) ≤ (5 : Int) ∧ (5 : Int) < x4) ∧ Need ((0 : Nat) + (1 : Nat) * (5 : Nat) < x3.length) ∧ Need ((0 : Int) ≤ (6 : Int) ∧ (6 : Int) < x4) ∧ Need ((0 : Nat) + (1 : Nat) * (6 : Nat) < x3.length) ∧ Need ((0 : Int) ≤ (7 : Int) ∧ (7 : Int) < x4) ∧ Need ((0 : Nat) + (1 : Nat) * (7 : Nat) < x3.length) ∧ ∀ (x5 : List Int), x5 = be8 (s.getD (1 : Nat) (0 : Int)) → AllR IntKind.u8 x5 → ∀ (x6 : Int), x6 = ↑(be8 (s.getD (1 : Nat) (0 : Int))).length → (0 : Int) ≤ x6 → InR IntKind.i64 x6 → Need ((0 : Int) ≤ (0 : Int) ∧ (0 : Int) < x6) ∧ Need ((0 : Nat) + (1 : Nat) * (0 : Nat) < x5.length) ∧ Need ((0 : Int) ≤ (1 : Int) ∧ (1 : Int) < x6) ∧ Need ((0 : Nat) + (1 : Nat) * (1 : Nat) < x5.length) ∧ Need ((0 : Int) ≤ (2 : Int) ∧ (2 : Int) < x6) ∧ Need ((0 : Nat) + (1 : Nat) * (2 : Nat) < x5.length) ∧ Need ((0 : Int) ≤ (3 : Int) ∧ (3 : Int) < x6) ∧ Need ((0 : Nat) + (1 : Nat) * (3 : Nat) < x5.length) ∧ Need ((0 : Int) ≤ (4 : Int) ∧ (4 : Int) < x6) ∧ Need ((0 : Nat) + (1 : Nat) * (4 : Nat) < x5.length) ∧ Need ((0 : Int) ≤ (5 : Int) ∧ (5 : Int) < x6) ∧ Need ((0 : Nat) + (1 : Nat) * (5 : Nat) < x5.length) ∧ Need ((0 : Int) ≤ (6 : Int) ∧ (6 : Int) < x6) ∧ Need ((0 : Nat) + (1 : Nat) * (6 : Nat) < x5.length) ∧ Need ((0 : Int) ≤ (7 : Int) ∧ (7 : Int) < x6) ∧ Need ((0 : Nat) + (1 : Nat) * (7 : Nat) < x5.length) ∧ ∀ (x7 : List Int), x7 = be8 (s.getD (2 : Nat) (0 : Int)) → AllR IntKind.u8 x7 → ∀ (x8 : Int), x8 = ↑(be8 (s.getD (2 : Nat) (0 : Int))).length → (0 : Int) ≤ x8 → InR IntKind.i64 x8 → Need ((0 : Int) ≤ (0 : Int) ∧ (0 : Int) < x8) ∧ Need ((0 : Nat) + (1 : Nat) * (0 : Nat) < x7.length) ∧ Need ((0 : Int) ≤ (1 : Int) ∧ (1 : Int) < x8) ∧ Need ((0 : Nat) + (1 : Nat) * (1 : Nat) < x7.length) ∧ Need ((0 : Int) ≤ (2 : Int) ∧ (2 : Int) < x8) ∧ Need ((0 : Nat) + (1 : Nat) * (2 : Nat) < x7.length) ∧ Need ((0 : Int) ≤ (3 : Int) ∧ (3 : Int) < x8) ∧ Need ((0 : Nat) + (1 : Nat) * (3 : Nat) < x7.length) ∧ Need ((0 : Int) ≤ (4 : Int) ∧ (4 : Int) < x8) ∧ Need ((0 : Nat) + (1 : Nat) * (4 : Nat) < x7.length) ∧ Need ((0 : Int) ≤ (5 : Int) ∧ (5 : Int) < x8) ∧ Need ((0 : Nat) + (1 : Nat) * (5 : Nat) < x7.length) ∧ Need ((0 : Int) ≤ (6 : Int) ∧ (6 : Int) < x8) ∧ Need ((0 : Nat) + (1 : Nat) * (6 : Nat) < x7.length) ∧ Need ((0 : Int) ≤ (7 : Int) ∧ (7 : Int) < x8) ∧ Need ((0 : Nat) + (1 : Nat) * (7 : Nat) < x7.length) ∧ ∀ (x9 : List Int), x9 = be8 (s.getD (3 : Nat) (0 : Int)) → AllR IntKind.u8 x9 → ∀ (x10 : Int), x10 = ↑(be8 (s.getD (3 : Nat) (0 : Int))).length → (0 : Int) ≤ x10 → InR IntKind.i64 x10 → Need ((0 : Int) ≤ (0 : Int) ∧ (0 : Int) < x10) ∧ Need ((0 : Nat) + (1 : Nat) * (0 : Nat) < x9.length) ∧ Need ((0 : Int) ≤ (1 : Int) ∧ (1 : Int) < x10) ∧ Need ((0 : Nat) + (1 : Nat) * (1 : Nat) < x9.length) ∧ Need ((0 : Int) ≤ (2 : Int) ∧ (2 : Int) < x10) ∧ Need ((0 : Nat) + (1 : Nat) * (2 : Nat) < x9.length) ∧ Need ((0 : Int) ≤ (3 : Int) ∧ (3 : Int) < x10) ∧ Need ((0 : Nat) + (1 : Nat) * (3 : Nat) < x9.length) ∧ Need ((0 : Int) ≤ (4 : Int) ∧ (4 : Int) < x10) ∧ Need ((0 : Nat) + (1 : Nat) * (4 : Nat) < x9.length) ∧ Need ((0 : Int) ≤ (5 : Int) ∧ (5 : Int) < x10) ∧ Need ((0 : Nat) + (1 : Nat) * (5 : Nat) < x9.length) ∧ Need ((0 : Int) ≤ (6 : Int) ∧ (6 : Int) < x10) ∧ Need ((0 : Nat) + (1 : Nat) * (6 : Nat) < x9.length) ∧ Need ((0 : Int) ≤ (7 : Int) ∧ (7 : Int) < x10) ∧ Need ((0 : Nat) + (1 : Nat) * (7 : Nat) < x9.length) ∧ ∀ (x11 : List Int), x11 = be8 (s.getD (4 : Nat) (0 : Int)) → AllR IntKind.u8 x11 → ∀ (x12 : Int), x12 = ↑(be8 (s.getD (4 : Nat) (0 : Int))).length → (0 : Int) ≤ x12 → InR IntKind.i64 x12 → Need ((0 : Int) ≤ (0 : Int) ∧ (0 : Int) < x12) ∧ Need ((0 : Nat) + (1 : Nat) * (0 : Nat) < x11.length) ∧ Need ((0 : Int) ≤ (1 : Int) ∧ (1 : Int) < x12) ∧ Need ((0 : Nat) + (1 : Nat) * (1 : Nat) < x11.length) ∧ Need ((0 : Int) ≤ (2 : Int) ∧ (2 : Int) < x12) ∧ Need ((0 : Nat) + (1 : Nat) * (2 : Nat) < x11.length) ∧ Need ((0 : Int) ≤ (3 : Int) ∧ (3 : Int) < x12) ∧ Need ((0 : Nat) + (1 : Nat) * (3 : Nat) < x11.length) ∧ Need ((0 : Int) ≤ (4 : Int) ∧ (4 : Int) < x12) ∧ Need ((0 : Nat) + (1 : Nat) * (4 : Nat) < x11.length) ∧ Need ((0 : Int) ≤ (5 : Int) ∧ (5 : Int) < x12) ∧ Need ((0 : Nat) + (1 : Nat) * (5 : Nat) < x11.length) ∧ Need ((0 : Int) ≤ (6 : Int) ∧ (6 : Int) < x12) ∧ Need ((0 : Nat) + (1 : Nat) * (6 : Nat) < x11.length) ∧ Need ((0 : Int) ≤ (7 : Int) ∧ (7 : Int) < x12) ∧ Need ((0 : Nat) + (1 : Nat) * (7 : Nat) < x11.length) ∧ ∀ (x13 : List Int), x13 = be8 (s.getD (5 : Nat) (0 : Int)) → AllR IntKind.u8 x13 → ∀ (x14 : Int), x14 = ↑(be8 (s.getD (5 : Nat) (0 : Int))).length → (0 : Int) ≤ x14 → InR IntKind.i64 x14 → Need ((0 : Int) ≤ (0 : Int) ∧ (0 : Int) < x14) ∧ Need ((0 : Nat) + (1 : Nat) * (0 : Nat) < x13.length) ∧ Need ((0 : Int) ≤ (1 : Int) ∧ (1 : Int) < x14) ∧ Need ((0 : Nat) + (1 : Nat) * (1 : Nat) < x13.length) ∧ Need ((0 : Int) ≤ (2 : Int) ∧ (2 : Int) < x14) ∧ Need ((0 : Nat) + (1 : Nat) * (2 : Nat) < x13.length) ∧ Need ((0 : Int) ≤ (3 : Int) ∧ (3 : Int) < x14) ∧ Need ((0 : Nat) + (1 : Nat) * (3 : Nat) < x13.length) ∧ Need ((0 : Int) ≤ (4 : Int) ∧ (4 : Int) < x14) ∧ Need ((0 : Nat) + (1 : Nat) * (4 : Nat) < x13.length) ∧ Need ((0 : Int) ≤ (5 : Int) ∧ (5 : Int) < x14) ∧ Need ((0 : Nat) + (1 : Nat) * (5 : Nat) < x13.length) ∧ Need ((0 : Int) ≤ (6 : Int) ∧ (6 : Int) < x14) ∧ Need ((0 : Nat) + (1 : Nat) * (6 : Nat) < x13.length) ∧ Need ((0 : Int) ≤ (7 : Int) ∧ (7 : Int) < x14) ∧ Need ((0 : Nat) + (1 : Nat) * (7 : Nat) < x13.length) ∧ ∀ (x15 : List Int), x15 = be8 (s.getD (6 : Nat) (0 : Int)) → AllR IntKind.u8 x15 → ∀ (x16 : Int), x16 = ↑(be8 (s.getD (6 : Nat) (0 : Int))).length → (0 : Int) ≤ x16 → InR IntKind.i64 x16 → Need ((0 : Int) ≤ (0 : Int) ∧ (0 : Int) < x16) ∧ Need ((0 : Nat) + (1 : Nat) * (0 : Nat) < x15.length) ∧ Need ((0 : Int) ≤ (1 : Int) ∧ (1 : Int) < x16) ∧ Need ((0 : Nat) + (1 : Nat) * (1 : Nat) < x15.length) ∧ Need ((0 : Int) ≤ (2 : Int) ∧ (2 : Int) < x16) ∧ Need ((0 : Nat) + (1 : Nat) * (2 : Nat) < x15.length) ∧ Need ((0 : Int) ≤ (3 : Int) ∧ (3 : Int) < x16) ∧ Need ((0 : Nat) + (1 : Nat) * (3 : Nat) < x15.length) ∧ Need ((0 : Int) ≤ (4 : Int) ∧ (4 : Int) < x16) ∧ Need ((0 : Nat) + (1 : Nat) * (4 : Nat) < x15.length) ∧ Need ((0 : Int) ≤ (5 : Int) ∧ (5 : Int) < x16) ∧ Need ((0 : Nat) + (1 : Nat) * (5 : Nat) < x15.length) ∧ Need ((0 : Int) ≤ (6 : Int) ∧ (6 : Int) < x16) ∧ Need ((0 : Nat) + (1 : Nat) * (6 : Nat) < x15.length) ∧ Need ((0 : Int) ≤ (7 : Int) ∧ (7 : Int) < x16) ∧ Need ((0 : Nat) + (1 : Nat) * (7 : Nat) < x15.length) ∧ ∀ (x17 : List Int), x17 = be8 (s.getD (7 : Nat) (0 : Int)) → AllR IntKind.u8 x17 → ∀ (x18 : Int), x18 = ↑(be8 (s.getD (7 : Nat) (0 : Int))).length → (0 : Int) ≤ x18 → InR IntKind.i64 x18 → Need ((0 : Int) ≤ (0 : Int) ∧ (0 : Int) < x18) ∧ Need ((0 : Nat) + (1 : Nat) * (0 : Nat) < x17.length) ∧ Need ((0 : Int) ≤ (1 : Int) ∧ (1 : Int) < x18) ∧ Need ((0 : Nat) + (1 : Nat) * (1 : Nat) < x17.length) ∧ Need ((0 : Int) ≤ (2 : Int) ∧ (2 : Int) < x18) ∧ Need ((0 : Nat) + (1 : Nat) * (2 : Nat) < x17.length) ∧ Need ((0 : Int) ≤ (3 : Int) ∧ (3 : Int) < x18) ∧ Need ((0 : Nat) + (1 : Nat) * (3 : Nat) < x17.length) ∧ Need ((0 : Int) ≤ (4 : Int) ∧ (4 : Int) < x18) ∧ Need ((0 : Nat) + (1 : Nat) * (4 : Nat) < x17.length) ∧ Need ((0 : Int) ≤ (5 : Int) ∧ (5 : Int) < x18) ∧ Need ((0 : Nat) + (1 : Nat) * (5 : Nat) < x17.length) ∧ Need ((0 : Int) ≤ (6 : Int) ∧ (6 : Int) < x18) ∧ Need ((0 : Nat) + (1 : Nat) * (6 : Nat) < x17.length) ∧ Need ((0 : Int) ≤ (7 : Int) ∧ (7 : Int) < x18) ∧ Need ((0 : Nat) + (1 : Nat) * (7 : Nat) < x17.length) ∧ K [RV.v (SV.arr IntKind.u8 (64 : Nat) false (((((((((((((((((((((((((((((((((((((((((((((((((((((((((((((((((List.replicate (64 : Nat) (0 : Int)).set (0 : Nat) (x3.getD ((0 : Nat) + (1 : Nat) * (0 : Nat)) (0 : Int))).set (1 : Nat) (x3.getD ((0 : Nat) + (1 : Nat) * (1 : Nat)) (0 : Int))).set (2 : Nat) (x3.getD ((0 : Nat) + (1 : Nat) * (2 : Nat)) (0 : Int))).set (3 : Nat) (x3.getD ((0 : Nat) + (1 : Nat) * (3 : Nat)) (0 : Int))).set (4 : Nat) (x3.getD ((0 : Nat) + (1 : Nat) * (4 : Nat)) (0 : Int))).set (5 : Nat) (x3.getD ((0 : Nat) + (1 : Nat) * (5 : Nat)) (0 : Int))).set (6 : Nat) (x3.getD ((0 : Nat) + (1 : Nat) * (6 : Nat)) (0 : Int))).set (7 : Nat) (x3.getD ((0 : Nat) + (1 : Nat) * (7 : Nat)) (0 : Int))).set (8 : Nat) (x5.getD ((0 : Nat) + (1 : Nat) * (0 : Nat)) (0 : Int))).set (9 : Nat) (x5.getD ((0 : Nat) + (1 : Nat) * (1 : Nat)) (0 : Int))).set (10 : Nat) (x5.getD ((0 : Nat) + (1 : Nat) * (2 : Nat)) (0 : Int))).set (11 : Nat) (x5.getD ((0 : Nat) + (1 : Nat) * (3 : Nat)) (0 : Int))).set (12 : Nat) (x5.getD ((0 : Nat) + (1 : Nat) * (4 : Nat)) (0 : Int))).set (13 : Nat) (x5.getD ((0 : Nat) + (1 : Nat) * (5 : Nat)) (0 : Int))).set (14 : Nat) (x5.getD ((0 : Nat) + (1 : Nat) * (6 : Nat)) (0 : Int))).set (15 : Nat) (x5.getD ((0 : Nat) + (1 : Nat) * (7 : Nat)) (0 : Int))).set (16 : Nat) (x7.getD ((0 : Nat) + (1 : Nat) * (0 : Nat)) (0 : Int))).set (17 : Nat) (x7.getD ((0 : Nat) + (1 : Nat) * (1 : Nat)) (0 : Int))).set (18 : Nat) (x7.getD ((0 : Nat) + (1 : Nat) * (2 : Nat)) (0 : Int))).set (19 : Nat) (x7.getD ((0 : Nat) + (1 : Nat) * (3 : Nat)) (0 : Int))).set (20 : Nat) (x7.getD ((0 : Nat) + (1 : Nat) * (4 : Nat)) (0 : Int))).set (21 : Nat) (x7.getD ((0 : Nat) + (1 : Nat) * (5 : Nat)) (0 : Int))).set (22 : Nat) (x7.getD ((0 : Nat) + (1 : Nat) * (6 : Nat)) (0 : Int))).set (23 : Nat) (x7.getD ((0 : Nat) + (1 : Nat) * (7 : Nat)) (0 : Int))).set (24 : Nat) (x9.getD ((0 : Nat) + (1 : Nat) * (0 : Nat)) (0 : Int))).set (25 : Nat) (x9.getD ((0 : Nat) + (1 : Nat) * (1 : Nat)) (0 : Int))).set (26 : Nat) (x9.getD ((0 : Nat) + (1 : Nat) * (2 : Nat)) (0 : Int))).set (27 : Nat) (x9.getD ((0 : Nat) + (1 : Nat) * (3 : Nat)) (0 : Int))).set (28 : Nat) (x9.getD ((0 : Nat) + (1 : Nat) * (4 : Nat)) (0 : Int))).set (29 : Nat) (x9.getD ((0 : Nat) + (1 : Nat) * (5 : Nat)) (0 : Int))).set (30 : Nat) (x9.getD ((0 : Nat) + (1 : Nat) * (6 : Nat)) (0 : Int))).set (31 : Nat) (x9.getD ((0 : Nat) + (1 : Nat) * (7 : Nat)) (0 : Int))).set (32 : Nat) (x11.getD ((0 : Nat) + (1 : Nat) * (0 : Nat)) (0 : Int))).set (33 : Nat) (x11.getD ((0 : Nat) + (1 : Nat) * (1 : Nat)) (0 : Int))).set (34 : Nat) (x11.getD ((0 : Nat) + (1 : Nat) * (2 : Nat)) (0 : Int))).set (35 : Nat) (x11.getD ((0 : Nat) + (1 : Nat) * (3 : Nat)) (0 : Int))).set (36 : Nat) (x11.getD ((0 : Nat) + (1 : Nat) * (4 : Nat)) (0 : Int))).set (37 : Nat) (x11.getD ((0 : Nat) + (1 : Nat) * (5 : Nat)) (0 : Int))).set (38 : Nat) (x11.getD ((0 : Nat) + (1 : Nat) * (6 : Nat)) (0 : Int))).set (39 : Nat) (x11.getD ((0 : Nat) + (1 : Nat) * (7 : Nat)) (0 : Int))).set (40 : Nat) (x13.getD ((0 : Nat) + (1 : Nat) * (0 : Nat)) (0 : Int))).set (41 : Nat) (x13.getD ((0 : Nat) + (1 : Nat) * (1 : Nat)) (0 : Int))).set (42 : Nat) (x13.getD ((0 : Nat) + (1 : Nat) * (2 : Nat)) (0 : Int))).set (43 : Nat) (x13.getD ((0 : Nat) + (1 : Nat) * (3 : Nat)) (0 : Int))).set (44 : Nat) (x13.getD ((0 : Nat) + (1 : Nat) * (4 : Nat)) (0 : Int))).set (45 : Nat) (x13.getD ((0 : Nat) + (1 : Nat) * (5 : Nat)) (0 : Int))).set (46 : Nat) (x13.getD ((0 : Nat) + (1 : Nat) * (6 : Nat)) (0 : Int))).set (47 : Nat) (x13.getD ((0 : Nat) + (1 : Nat) * (7 : Nat)) (0 : Int))).set (48 : Nat) (x15.getD ((0 : Nat) + (1 : Nat) * (0 : Nat)) (0 : Int))).set (49 : Nat) (x15.getD ((0 : Nat) + (1 : Nat) * (1 : Nat)) (0 : Int))).set (50 : Nat) (x15.getD ((0 : Nat) + (1 : Nat) * (2 : Nat)) (0 : Int))).set (51 : Nat) (x15.getD ((0 : Nat) + (1 : Nat) * (3 : Nat)) (0 : Int))).set (52 : Nat) (x15.getD ((0 : Nat) + (1 : Nat) * (4 : Nat)) (0 : Int))).set (53 : Nat) (x15.getD ((0 : Nat) + (1 : Nat) * (5 : Nat)) (0 : Int))).set (54 : Nat) (x15.getD ((0 : Nat) + (1 : Nat) * (6 : Nat)) (0 : Int))).set (55 : Nat) (x15.getD ((0 : Nat) + (1 : Nat) * (7 : Nat)) (0 : Int))).set (56 : Nat) (x17.getD ((0 : Nat) + (1 : Nat) * (0 : Nat)) (0 : Int))).set (57 : Nat) (x17.getD ((0 : Nat) + (1 : Nat) * (1 : Nat)) (0 : Int))).set (58 : Nat) (x17.getD ((0 : Nat) + (1 : Nat) * (2 : Nat)) (0 : Int))).set (59 : Nat) (x17.getD ((0 : Nat) + (1 : Nat) * (3 : Nat)) (0 : Int))).set (60 : Nat) (x17.getD ((0 : Nat) + (1 : Nat) * (4 : Nat)) (0 : Int))).set (61 : Nat) (x17.getD ((0 : Nat) + (1 : Nat) * (5 : Nat)) (0 : Int))).set (62 : Nat) (x17.getD ((0 : Nat) + (1 : Nat) * (6 : Nat)) (0 : Int))).set (63 : Nat) (x17.getD ((0 : Nat) + (1 : Nat) * (7 : Nat)) (0 : Int))))] [])) := by
  intros
  kernel_rfl

theorem copy_set (a z : List Int) (i : Nat) (h : i < a.length) (hz : i < z.length) : (a.take i ++ z.drop i).set i (a.getD i 0) = a.take (i + 1) ++ z.drop (i + 1) := by
  have h1 : (a.take i).length = i := by rw [List.length_take]; omega
  rw [set_right _ _ 0 _ i (by omega), List.drop_eq_getElem_cons hz, List.set_cons_zero, List.take_add_one, List.getElem?_eq_getElem h, List.append_assoc]
  simp [List.getD, h]
def padP (b : List Int) (k : Nat) : List Int := b ++ 128 :: List.replicate k 0
theorem padP_len (b : List Int) (k : Nat) : (padP b k).length = b.length + 1 + k := by
  unfold padP
  rw [List.length_append, List.length_cons, List.length_replicate]; omega
theorem padP_succ (b : List Int) (k : Nat) : padP b k ++ [0] = padP b (k + 1) := by
  unfold padP
  rw [List.append_assoc, List.cons_append, show [(0 : Int)] = List.replicate 1 0 from rfl, List.replicate_append_replicate]
theorem padP_full (b : List Int) : padP b (padK0 b.length) ++ be8 0 ++ be8 (8 * (b.length : Int)) = b ++ padT b.length := by
  unfold padP padT
  simp only [List.append_assoc, List.cons_append]
def inv37 (d : RO) (p : List Int) (key : Nat) (ps : List Pv) (mm : Nat) : Prop :=
  (key = 3 ∧ ∃ k : Nat, k ≤ padK0 (roL d).length ∧ ps = [.ro d, .z ((padP (roL d) k).length : Int), .l K80, .l K80, .l (List.replicate 64 0), .l (padP (roL d) k)] ∧ mm = p.length + 1 + (padK0 (roL d).length - k)) ∨
  (key = 9 ∧ ∃ j : Nat, 128 * j ≤ p.length ∧ ps = [.z (p.length : Int), .z ((128 * j : Nat) : Int), .l K80, .l K80, .l (List.replicate 64 0), .l p, .l (feed (p.take (128 * j)) st0).ws] ∧ mm = p.length - 128 * j)
def hashG : List AV → Option (List Prop × List RV × List (Option (List Seg)))
  | [.d (.ints .u8) d] => some ([((roL d).length : Int) ≤ 70368744177000], [.v (.arr .u8 64 false (sha (roL d)))], [])
  | _ => none
set_option maxHeartbeats 2000000 in
theorem hashG_ok : CallOk Tryd.prog gh4 21 (genCtr [.d (.ints .u8)] hashG) := by
  refine call_gen (fn := Tryd.f21) Δ2_ok rfl glow4 rfl (by kernel_rfl) (by kernel_rfl) _ hashG fun av p rvs fin hs hp hf => ?_
  unfold hashG at hs
  split at hs
  · rename_i d
    simp only [Option.some.injEq, Prod.mk.injEq] at hs
    obtain ⟨rfl, rfl, rfl⟩ := hs
    have hd : ((roL d).length : Int) ≤ 70368744177000 := hp.1
    obtain ⟨p, hpp⟩ : ∃ p, roL d ++ padT (roL d).length = p := ⟨_, rfl⟩
    have hk128 : padK0 (roL d).length < 128 := Nat.mod_lt _ (by omega)
    have hk112 : ((roL d).length + 1 + padK0 (roL d).length) % 128 = 112 := by unfold padK0; omega
    have hpl : p.length = (roL d).length + (padK0 (roL d).length + 17) := by rw [← hpp, List.length_append, padT_len]
    have hp128 : p.length % 128 = 0 := by omega
    refine ⟨[.ro 490 (.ints .u8) d], [], L37, inv37 d p, ⟨rfl, trivial⟩, Nat.le_of_ble_eq_true (by kernel_rfl), ?_, ?_, ?_⟩
    · intro kk t ht g hg
      have hg : g ∈ [3, 0, 4, 2, 490] := hg
      simp only [List.mem_cons, List.not_mem_nil, or_false] at hg
      simp only [L37, List.mem_cons, List.not_mem_nil, or_false, Prod.mk.injEq] at ht
      obtain ⟨rfl, rfl⟩ | ⟨rfl, rfl⟩ := ht <;> rcases hg with rfl | rfl | rfl | rfl | rfl <;> exact ⟨by omega, rfl⟩
    · rintro vk t ps mm ht (⟨rfl, k, hk, rfl, rfl⟩ | ⟨rfl, j, hj, rfl, rfl⟩)
      all_goals simp only [L37, List.mem_cons, List.not_mem_nil, or_false, Prod.mk.injEq, Nat.reduceEqDiff, false_and, true_and, false_or, or_false] at ht
      · subst ht
        have hl := padP_len (roL d) k
        have hl2 := padP_len (roL d) (k + 1)
        show lc37a d ((padP (roL d) k).length : Int) K80 K80 (List.replicate 64 0) (padP (roL d) k) _ _
        rw [lc37a_eq]
        intro x1 e1 _
        rw [Int.tmod_eq_emod_of_nonneg (by omega)] at e1
        rw [show List.take 1 (List.drop 0 [(0 : Int)]) = [0] from rfl, padP_succ]
        refine ⟨fun h => ?_, fun h => ?_⟩
        · have h : x1 ≠ 112 := by simpa using h
          have hk' : k < padK0 (roL d).length := by
            rcases Nat.lt_or_ge k (padK0 (roL d).length) with h9 | h9
            · exact h9
            · exfalso
              obtain rfl : k = padK0 (roL d).length := by omega
              omega
          refine ⟨need_of (by omega), need_of rfl, need_of (by omega), ?_⟩
          intro x2 e2 _ x3 e3 _ _
          subst e2; subst e3
          exact ⟨rfl, p.length + 1 + (padK0 (roL d).length - (k + 1)), by omega, Or.inl ⟨rfl, k + 1, by omega, rfl, rfl⟩⟩
        · have h : x1 = 112 := by simpa using h
          have hk' : k = padK0 (roL d).length := by omega
          intro x4 e4 _ x5 e5 _ _
          subst e4; subst e5
          rw [show List.take (8 : Int).toNat (List.drop 0 (be8 0)) = be8 0 from rfl]
          have hl6 : (padP (roL d) k ++ be8 0).length = (padP (roL d) k).length + 8 := by rw [List.length_append, be8_len]
          refine ⟨need_of (by omega), need_of rfl, need_of (by rw [be8_len]; omega), ?_⟩
          intro x6 e6 _ x7 e7 _ _ x8 e8 _ x9 e9 _ x10 e10 _ x11 e11 _ _
          subst e6; subst e7
          have hw : IntKind.u64.wrap (((roL d).length : Nat) : Int) = ((roL d).length : Int) := wrap_of_InR (show 0 ≤ (((roL d).length : Nat) : Int) ∧ (((roL d).length : Nat) : Int) < 18446744073709551616 by omega)
          rw [hw] at e8
          have hw2 : IntKind.u64.wrap (8 * x8) = 8 * x8 := wrap_of_InR (show 0 ≤ 8 * x8 ∧ 8 * x8 < 18446744073709551616 by omega)
          rw [hw2, e8] at e9
          rw [e9] at e10
          rw [be8_len] at e11
          subst e11; subst e10
          rw [show List.take (((8 : Nat) : Int)).toNat (List.drop 0 (be8 (8 * ((roL d).length : Int)))) = be8 (8 * ((roL d).length : Int)) from rfl]
          have hfull : padP (roL d) k ++ be8 0 ++ be8 (8 * ((roL d).length : Int)) = p := by rw [hk', padP_full, hpp]
          rw [hfull]
          refine ⟨need_of (by omega), need_of rfl, need_of (by rw [be8_len]; omega), ?_⟩
          intro x12 e12 _ x13 e13 _ _
          rw [e13, e12]
          exact ⟨rfl, p.length - 128 * 0, by omega, Or.inr ⟨rfl, 0, by omega, rfl, rfl⟩⟩
      · subst ht
        show lc37b (p.length : Int) ((128 * j : Nat) : Int) K80 K80 (List.replicate 64 0) p (feed (p.take (128 * j)) st0).ws _ _
        rw [lc37b_eq]
        refine ⟨fun hlt => ?_, fun hge => ?_⟩
        · have hlt := of_decide_eq_true hlt
          have hj1 : 128 * j + 128 ≤ p.length := by omega
          have hb := feed_block p j hj1
          rw [roL_l, List.drop_zero, Int.toNat_natCast, Int.toNat_natCast, List.take_of_length_le (Nat.le_refl p.length), ← hb]
          refine ⟨need_of (by omega), need_of (by omega), need_of (by omega), ?_⟩
          intro x1 e1 _ _ x2 e2 _
          rw [wrap_i64 (by omega)] at e2
          refine ⟨rfl, p.length - 128 * (j + 1), by omega, Or.inr ⟨rfl, j + 1, by omega, ?_, rfl⟩⟩
          rw [e1, show x2 = ((128 * (j + 1) : Nat) : Int) by omega]
        · have hge := of_decide_eq_false hge
          have hj2 : 128 * j = p.length := by omega
          have hfin : outb (feed (p.take (128 * j)) st0).ws = sha (roL d) := by
            rw [hj2, List.take_of_length_le (Nat.le_refl _), sha_pad (roL d) (by omega), hpp]
          generalize (feed (p.take (128 * j)) st0).ws = s at *
          intro x3 e3 _ x4 e4 _ _
          rw [be8_len] at e4
          subst e3
          subst e4
          refine ⟨need_of (by omega), need_of (by rw [be8_len]; omega), need_of (by omega), need_of (by rw [be8_len]; omega), need_of (by omega), need_of (by rw [be8_len]; omega), need_of (by omega), need_of (by rw [be8_len]; omega), need_of (by omega), need_of (by rw [be8_len]; omega), need_of (by omega), need_of (by rw [be8_len]; omega), need_of (by omega), need_of (by rw [be8_len]; omega), need_of (by omega), need_of (by rw [be8_len]; omega), ?_⟩
          intro x5 e5 _ x6 e6 _ _
          rw [be8_len] at e6
          subst e5
          subst e6
          refine ⟨need_of (by omega), need_of (by rw [be8_len]; omega), need_of (by omega), need_of (by rw [be8_len]; omega), need_of (by omega), need_of (by rw [be8_len]; omega), need_of (by omega), need_of (by rw [be8_len]; omega), need_of (by omega), need_of (by rw [be8_len]; omega), need_of (by omega), need_of (by rw [be8_len]; omega), need_of (by omega), need_of (by rw [be8_len]; omega), need_of (by omega), need_of (by rw [be8_len]; omega), ?_⟩
          intro x7 e7 _ x8 e8 _ _
          rw [be8_len] at e8
          subst e7
          subst e8
          refine ⟨need_of (by omega), need_of (by rw [be8_len]; omega), need_of (by omega), need_of (by rw [be8_len]; omega), need_of (by omega), need_of (by rw [be8_len]; omega), need_of (by omega), need_of (by rw [be8_len]; omega), need_of (by omega), need_of (by rw [be8_len]; omega), need_of (by omega), need_of (by rw [be8_len]; omega), need_of (by omega), need_of (by rw [be8_len]; omega), need_of (by omega), need_of (by rw [be8_len]; omega), ?_⟩
          intro x9 e9 _ x10 e10 _ _
          rw [be8_len] at e10
          subst e9
          subst e10
          refine ⟨need_of (by omega), need_of (by rw [be8_len]; omega), need_of (by omega), need_of (by rw [be8_len]; omega), need_of (by omega), need_of (by rw [be8_len]; omega), need_of (by omega), need_of (by rw [be8_len]; omega), need_of (by omega), need_of (by rw [be8_len]; omega), need_of (by omega), need_of (by rw [be8_len]; omega), need_of (by omega), need_of (by rw [be8_len]; omega), need_of (by omega), need_of (by rw [be8_len]; omega), ?_⟩
          intro x11 e11 _ x12 e12 _ _
          rw [be8_len] at e12
          subst e11
          subst e12
          refine ⟨need_of (by omega), need_of (by rw [be8_len]; omega), need_of (by omega), need_of (by rw [be8_len]; omega), need_of (by omega), need_of (by rw [be8_len]; omega), need_of (by omega), need_of (by rw [be8_len]; omega), need_of (by omega), need_of (by rw [be8_len]; omega), need_of (by omega), need_of (by rw [be8_len]; omega), need_of (by omega), need_of (by rw [be8_len]; omega), need_of (by omega), need_of (by rw [be8_len]; omega), ?_⟩
          intro x13 e13 _ x14 e14 _ _
          rw [be8_len] at e14
          subst e13
          subst e14
          refine ⟨need_of (by omega), need_of (by rw [be8_len]; omega), need_of (by omega), need_of (by rw [be8_len]; omega), need_of (by omega), need_of (by rw [be8_len]; omega), need_of (by omega), need_of (by rw [be8_len]; omega), need_of (by omega), need_of (by rw [be8_len]; omega), need_of (by omega), need_of (by rw [be8_len]; omega), need_of (by omega), need_of (by rw [be8_len]; omega), need_of (by omega), need_of (by rw [be8_len]; omega), ?_⟩
          intro x15 e15 _ x16 e16 _ _
          rw [be8_len] at e16
          subst e15
          subst e16
          refine ⟨need_of (by omega), need_of (by rw [be8_len]; omega), need_of (by omega), need_of (by rw [be8_len]; omega), need_of (by omega), need_of (by rw [be8_len]; omega), need_of (by omega), need_of (by rw [be8_len]; omega), need_of (by omega), need_of (by rw [be8_len]; omega), need_of (by omega), need_of (by rw [be8_len]; omega), need_of (by omega), need_of (by rw [be8_len]; omega), need_of (by omega), need_of (by rw [be8_len]; omega), ?_⟩
          intro x17 e17 _ x18 e18 _ _
          rw [be8_len] at e18
          subst e17
          subst e18
          refine ⟨need_of (by omega), need_of (by rw [be8_len]; omega), need_of (by omega), need_of (by rw [be8_len]; omega), need_of (by omega), need_of (by rw [be8_len]; omega), need_of (by omega), need_of (by rw [be8_len]; omega), need_of (by omega), need_of (by rw [be8_len]; omega), need_of (by omega), need_of (by rw [be8_len]; omega), need_of (by omega), need_of (by rw [be8_len]; omega), need_of (by omega), need_of (by rw [be8_len]; omega), ?_⟩
          refine ⟨⟨?_, trivial⟩, trivial⟩
          show _ = sha (roL d)
          rw [← hfin]
          rfl
    · show vc37 d _ _
      rw [vc37_eq, List.nil_append, show List.take 1 (List.drop 0 [(128 : Int)]) = [128] from rfl]
      have hl := padP_len (roL d) 0
      have hp0 : roL d ++ [128] = padP (roL d) 0 := rfl
      refine ⟨need_of (by omega), ?_⟩
      intro x1 e1 _ x2 e2 _ _
      subst e1; subst e2
      rw [hp0]
      refine ⟨need_of (by omega), need_of rfl, need_of (by omega), ?_⟩
      intro x3 e3 _ x4 e4 _ _
      subst e3; subst e4
      exact ⟨rfl, p.length + 1 + (padK0 (roL d).length - 0), Or.inl ⟨rfl, 0, by omega, rfl, rfl⟩⟩
  · cases hs
def Δ3 : Tab := ⟨tys, (21, genCtr [.d (.ints .u8)] hashG) :: Δ2.ctr, [3, 0, 4, 2], gh4⟩
theorem Δ3_ok : TabOk Tryd.prog Δ3 := Δ2_ok.cons hashG_ok
end Go.Gx

/- No tables. -/
namespace Go.Gx
open Go.Proofs Go.Sp
set_option linter.unusedVariables false

def ghE : Heap := []
def Φ0 : Tab := ⟨tys, [], [], ghE⟩
theorem Φ0_ok : TabOk Tryd.prog Φ0 := .nil mixed tys_ok
theorem glowE : ∀ g ∈ keysOf ghE, g < 490 := fun g hg => by cases hg
end Go.Gx

/- Eight bytes put behind a list. -/
namespace Go.Gx
open Go.Proofs Go.Sp
set_option linter.unusedVariables false
set_option maxRecDepth 100000

def vc13o (l : List Int) (n : Int) (K : List RV → List (Option (List Seg)) → Prop) (Q : Nat → List Pv → Prop) : Prop := fnVcG 1 Φ0 Tryd.f39 [] [.sl 600 0 1 ⟨true, 0⟩ ⟨false, (l.length : Int)⟩, .i .i64 ⟨false, n⟩] (ghE ++ (490, .world) :: [(600, .segs false [.rowI .u8 l])]) K Q
def vc13n (n : Int) (K : List RV → List (Option (List Seg)) → Prop) (Q : Nat → List Pv → Prop) : Prop := fnVcG 0 Φ0 Tryd.f39 [] [.nsl, .i .i64 ⟨false, n⟩] (ghE ++ (490, .world) :: []) K Q
theorem vc13o_eq : ∀ (l : List Int) (n : Int) (K : List RV → List (Option (List Seg)) → Prop) (Q : Nat → List Pv → Prop), vc13o l n K Q = ∀ (x1 : Int), x1 = shrI IntKind.i64 n (0 : Int) → InR IntKind.i64 x1 → ∀ (x2 : Int), x2 = IntKind.u8.wrap x1 → InR IntKind.u8 x2 → Need ((((l ++ List.take (1 : Nat) (List.drop (0 : Nat) [x2])).length : Nat) : Int) * (1 : Int) ≤ (70368744177664 : Int)) ∧ Need (((l.length : Nat) : Int) = ((l.length : Nat) : Int)) ∧ Need ((1 : Int) ≤ (([x2].length : Nat) : Int)) ∧ ∀ (x3 : List Int), x3 = l ++ List.take (1 : Nat) (List.drop (0 : Nat) [x2]) → AllR IntKind.u8 x3 → ∀ (x4 : Int), x4 = (((l ++ List.take (1 : Nat) (List.drop (0 : Nat) [x2])).length : Nat) : Int) → (0 : Int) ≤ x4 → InR IntKind.i64 x4 → ∀ (x5 : Int), x5 = shrI IntKind.i64 n (8 : Int) → InR IntKind.i64 x5 → ∀ (x6 : Int), x6 = IntKind.u8.wrap x5 → InR IntKind.u8 x6 → Need ((((x3 ++ List.take (1 : Nat) (List.drop (0 : Nat) [x6])).length : Nat) : Int) * (1 : Int) ≤ (70368744177664 : Int)) ∧ Need (x4 = ((x3.length : Nat) : Int)) ∧ Need ((1 : Int) ≤ (([x6].length : Nat) : Int)) ∧ ∀ (x7 : List Int), x7 = x3 ++ List.take (1 : Nat) (List.drop (0 : Nat) [x6]) → AllR IntKind.u8 x7 → ∀ (x8 : Int), x8 = (((x3 ++ List.take (1 : Nat) (List.drop (0 : Nat) [x6])).length : Nat) : Int) → (0 : Int) ≤ x8 → InR IntKind.i64 x8 → ∀ (x9 : Int), x9 = shrI IntKind.i64 n (16 : Int) → InR IntKind.i64 x9 → ∀ (x10 : Int), x10 = IntKind.u8.wrap x9 → InR IntKind.u8 x10 → Need ((((x7 ++ List.take (1 : Nat) (List.drop (0 : Nat) [x10])).length : Nat) : Int) * (1 : Int) ≤ (70368744177664 : Int)) ∧ Need (x8 = ((x7.length : Nat) : Int)) ∧ Need ((1 : Int) ≤ (([x10].length : Nat) : Int)) ∧ ∀ (x11 : List Int), x11 = x7 ++ List.take (1 : Nat) (List.drop (0 : Nat) [x10]) → AllR IntKind.u8 x11 → ∀ (x12 : Int), x12 = (((x7 ++ List.take (1 : Nat) (List.drop (0 : Nat) [x10])).length : Nat) : Int) → (0 : Int) ≤ x12 → InR IntKind.i64 x12 → ∀ (x13 : Int), x13 = shrI IntKind.i64 n (24 : Int) → InR IntKind.i64 x13 → ∀ (x14 : Int), x14 = IntKind.u8.wrap x13 → InR IntKind.u8 x14 → Need ((((x11 ++ List.take (1 : Nat) (List.drop (0 : Nat) [x14])).length : Nat) : Int) * (1 : Int) ≤ (70368744177664 : Int)) ∧ Need (x12 = ((x11.length : Nat) : Int)) ∧ Need ((1 : Int) ≤ (([x14].length : Nat) : Int)) ∧ ∀ (x15 : List Int), x15 = x11 ++ List.take (1 : Nat) (List.drop (0 : Nat) [x14]) → AllR IntKind.u8 x15 → ∀ (x16 : Int), x16 = (((x11 ++ List.take (1 : Nat) (List.drop (0 : Nat) [x14])).length : Nat) : Int) → (0 : Int) ≤ x16 → InR IntKind.i64 x16 → ∀ (x17 : Int), x17 = shrI IntKind.i64 n (32 : Int) → InR IntKind.i64 x17 → ∀ (x18 : Int), x18 = IntKind.u8.wrap x17 → InR IntKind.u8 x18 → Need ((((x15 ++ List.take (1 : Nat) (List.drop (0 : Nat) [x18])).length : Nat) : Int) * (1 : Int) ≤ (70368744177664 : Int)) ∧ Need (x16 = ((x15.length : Nat) : Int)) ∧ Need ((1 : Int) ≤ (([x18].length : Nat) : Int)) ∧ ∀ (x19 : List Int), x19 = x15 ++ List.take (1 : Nat) (List.drop (0 : Nat) [x18]) → AllR IntKind.u8 x19 → ∀ (x20 : Int), x20 = (((x15 ++ List.take (1 : Nat) (List.drop (0 : Nat) [x18])).length : Nat) : Int) → (0 : Int) ≤ x20 → InR IntKind.i64 x20 → ∀ (x21 : Int), x21 = shrI IntKind.i64 n (40 : Int) → InR IntKind.i64 x21 → ∀ (x22 : Int), x22 = IntKind.u8.wrap x21 → InR IntKind.u8 x22 → Need ((((x19 ++ List.take (1 : Nat) (List.drop (0 : Nat) [x22])).length : Nat) : Int) * (1 : Int) ≤ (70368744177664 : Int)) ∧ Need (x20 = ((x19.length : Nat) : Int)) ∧ Need ((1 : Int) ≤ (([x22].length : Nat) : Int)) ∧ ∀ (x23 : List Int), x23 = x19 ++ List.take (1 : Nat) (List.drop (0 : Nat) [x22]) → AllR IntKind.u8 x23 → ∀ (x24 : Int), x24 = (((x19 ++ List.take (1 : Nat) (List.drop (0 : Nat) [x22])).length : Nat) : Int) → (0 : Int) ≤ x24 → InR IntKind.i64 x24 → ∀ (x25 : Int), x25 = shrI IntKind.i64 n (48 : Int) → InR IntKind.i64 x25 → ∀ (x26 : Int), x26 = IntKind.u8.wrap x25 → InR IntKind.u8 x26 → Need ((((x23 ++ List.take (1 : Nat) (List.drop (0 : Nat) [x26])).length : Nat) : Int) * (1 : Int) ≤ (70368744177664 : Int)) ∧ Need (x24 = ((x23.length : Nat) : Int)) ∧ Need ((1 : Int) ≤ (([x26].length : Nat) : Int)) ∧ ∀ (x27 : List Int), x27 = x23 ++ List.take (1 : Nat) (List.drop (0 : Nat) [x26]) → AllR IntKind.u8 x27 → ∀ (x28 : Int), x28 = (((x23 ++ List.take (1 : Nat) (List.drop (0 : Nat) [x26])).length : Nat) : Int) → (0 : Int) ≤ x28 → InR IntKind.i64 x28 → ∀ (x29 : Int), x29 = shrI IntKind.i64 n (56 : Int) → InR IntKind.i64 x29 → ∀ (x30 : Int), x30 = IntKind.u8.wrap x29 → InR IntKind.u8 x30 → Need ((((x27 ++ List.take (1 : Nat) (List.drop (0 : Nat) [x30])).length : Nat) : Int) * (1 : Int) ≤ (70368744177664 : Int)) ∧ Need (x28 = ((x27.length : Nat) : Int)) ∧ Need ((1 : Int) ≤ (([x30].length : Nat) : Int)) ∧ ∀ (x31 : List Int), x31 = x27 ++ List.take (1 : Nat) (List.drop (0 : Nat) [x30]) → AllR IntKind.u8 x31 → ∀ (x32 : Int), x32 = (((x27 ++ List.take (1 : Nat) (List.drop (0 : Nat) [x30])).length : Nat) : Int) → (0 : Int) ≤ x32 → InR IntKind.i64 x32 → Need ((0 : Int) + x32 ≤ ((x31.length : Nat) : Int)) ∧ K [RV.row (Con.ints IntKind.u8 (List.take x32.toNat (List.drop (0 : Nat) x31)))] [none] := by
  intros
  kernel_rfl
theorem vc13n_eq : ∀ (n : Int) (K : List RV → List (Option (List Seg)) → Prop) (Q : Nat → List Pv → Prop), vc13n n K Q = ∀ (x1 : Int), x1 = shrI IntKind.i64 n (0 : Int) → InR IntKind.i64 x1 → ∀ (x2 : Int), x2 = IntKind.u8.wrap x1 → InR IntKind.u8 x2 → Need (((([] ++ List.take (1 : Nat) (List.drop (0 : Nat) [x2])).length : Nat) : Int) * (1 : Int) ≤ (70368744177664 : Int)) ∧ Need ((1 : Int) ≤ (([x2].length : Nat) : Int)) ∧ ∀ (x3 : List Int), x3 = [] ++ List.take (1 : Nat) (List.drop (0 : Nat) [x2]) → AllR IntKind.u8 x3 → ∀ (x4 : Int), x4 = ((([] ++ List.take (1 : Nat) (List.drop (0 : Nat) [x2])).length : Nat) : Int) → (0 : Int) ≤ x4 → InR IntKind.i64 x4 → ∀ (x5 : Int), x5 = shrI IntKind.i64 n (8 : Int) → InR IntKind.i64 x5 → ∀ (x6 : Int), x6 = IntKind.u8.wrap x5 → InR IntKind.u8 x6 → Need ((((x3 ++ List.take (1 : Nat) (List.drop (0 : Nat) [x6])).length : Nat) : Int) * (1 : Int) ≤ (70368744177664 : Int)) ∧ Need (x4 = ((x3.length : Nat) : Int)) ∧ Need ((1 : Int) ≤ (([x6].length : Nat) : Int)) ∧ ∀ (x7 : List Int), x7 = x3 ++ List.take (1 : Nat) (List.drop (0 : Nat) [x6]) → AllR IntKind.u8 x7 → ∀ (x8 : Int), x8 = (((x3 ++ List.take (1 : Nat) (List.drop (0 : Nat) [x6])).length : Nat) : Int) → (0 : Int) ≤ x8 → InR IntKind.i64 x8 → ∀ (x9 : Int), x9 = shrI IntKind.i64 n (16 : Int) → InR IntKind.i64 x9 → ∀ (x10 : Int), x10 = IntKind.u8.wrap x9 → InR IntKind.u8 x10 → Need ((((x7 ++ List.take (1 : Nat) (List.drop (0 : Nat) [x10])).length : Nat) : Int) * (1 : Int) ≤ (70368744177664 : Int)) ∧ Need (x8 = ((x7.length : Nat) : Int)) ∧ Need ((1 : Int) ≤ (([x10].length : Nat) : Int)) ∧ ∀ (x11 : List Int), x11 = x7 ++ List.take (1 : Nat) (List.drop (0 : Nat) [x10]) → AllR IntKind.u8 x11 → ∀ (x12 : Int), x12 = (((x7 ++ List.take (1 : Nat) (List.drop (0 : Nat) [x10])).length : Nat) : Int) → (0 : Int) ≤ x12 → InR IntKind.i64 x12 → ∀ (x13 : Int), x13 = shrI IntKind.i64 n (24 : Int) → InR IntKind.i64 x13 → ∀ (x14 : Int), x14 = IntKind.u8.wrap x13 → InR IntKind.u8 x14 → Need ((((x11 ++ List.take (1 : Nat) (List.drop (0 : Nat) [x14])).length : Nat) : Int) * (1 : Int) ≤ (70368744177664 : Int)) ∧ Need (x12 = ((x11.length : Nat) : Int)) ∧ Need ((1 : Int) ≤ (([x14].length : Nat) : Int)) ∧ ∀ (x15 : List Int), x15 = x11 ++ List.take (1 : Nat) (List.drop (0 : Nat) [x14]) → AllR IntKind.u8 x15 → ∀ (x16 : Int), x16 = (((x11 ++ List.take (1 : Nat) (List.drop (0 : Nat) [x14])).length : Nat) : Int) → (0 : Int) ≤ x16 → InR IntKind.i64 x16 → ∀ (x17 : Int), x17 = shrI IntKind.i64 n (32 : Int) → InR IntKind.i64 x17 → ∀ (x18 : Int), x18 = IntKind.u8.wrap x17 → InR IntKind.u8 x18 → Need ((((x15 ++ List.take (1 : Nat) (List.drop (0 : Nat) [x18])).length : Nat) : Int) * (1 : Int) ≤ (70368744177664 : Int)) ∧ Need (x16 = ((x15.length : Nat) : Int)) ∧ Need ((1 : Int) ≤ (([x18].length : Nat) : Int)) ∧ ∀ (x19 : List Int), x19 = x15 ++ List.take (1 : Nat) (List.drop (0 : Nat) [x18]) → AllR IntKind.u8 x19 → ∀ (x20 : Int), x20 = (((x15 ++ List.take (1 : Nat) (List.drop (0 : Nat) [x18])).length : Nat) : Int) → (0 : Int) ≤ x20 → InR IntKind.i64 x20 → ∀ (x21 : Int), x21 = shrI IntKind.i64 n (40 : Int) → InR IntKind.i64 x21 → ∀ (x22 : Int), x22 = IntKind.u8.wrap x21 → InR IntKind.u8 x22 → Need ((((x19 ++ List.take (1 : Nat) (List.drop (0 : Nat) [x22])).length : Nat) : Int) * (1 : Int) ≤ (70368744177664 : Int)) ∧ Need (x20 = ((x19.length : Nat) : Int)) ∧ Need ((1 : Int) ≤ (([x22].length : Nat) : Int)) ∧ ∀ (x23 : List Int), x23 = x19 ++ List.take (1 : Nat) (List.drop (0 : Nat) [x22]) → AllR IntKind.u8 x23 → ∀ (x24 : Int), x24 = (((x19 ++ List.take (1 : Nat) (List.drop (0 : Nat) [x22])).length : Nat) : Int) → (0 : Int) ≤ x24 → InR IntKind.i64 x24 → ∀ (x25 : Int), x25 = shrI IntKind.i64 n (48 : Int) → InR IntKind.i64 x25 → ∀ (x26 : Int), x26 = IntKind.u8.wrap x25 → InR IntKind.u8 x26 → Need ((((x23 ++ List.take (1 : Nat) (List.drop (0 : Nat) [x26])).length : Nat) : Int) * (1 : Int) ≤ (70368744177664 : Int)) ∧ Need (x24 = ((x23.length : Nat) : Int)) ∧ Need ((1 : Int) ≤ (([x26].length : Nat) : Int)) ∧ ∀ (x27 : List Int), x27 = x23 ++ List.take (1 : Nat) (List.drop (0 : Nat) [x26]) → AllR IntKind.u8 x27 → ∀ (x28 : Int), x28 = (((x23 ++ List.take (1 : Nat) (List.drop (0 : Nat) [x26])).length : Nat) : Int) → (0 : Int) ≤ x28 → InR IntKind.i64 x28 → ∀ (x29 : Int), x29 = shrI IntKind.i64 n (56 : Int) → InR IntKind.i64 x29 → ∀ (x30 : Int), x30 = IntKind.u8.wrap x29 → InR IntKind.u8 x30 → Need ((((x27 ++ List.take (1 : Nat) (List.drop (0 : Nat) [x30])).length : Nat) : Int) * (1 : Int) ≤ (70368744177664 : Int)) ∧ Need (x28 = ((x27.length : Nat) : Int)) ∧ Need ((1 : Int) ≤ (([x30].length : Nat) : Int)) ∧ ∀ (x31 : List Int), x31 = x27 ++ List.take (1 : Nat) (List.drop (0 : Nat) [x30]) → AllR IntKind.u8 x31 → ∀ (x32 : Int), x32 = (((x27 ++ List.take (1 : Nat) (List.drop (0 : Nat) [x30])).length : Nat) : Int) → (0 : Int) ≤ x32 → InR IntKind.i64 x32 → Need ((0 : Int) + x32 ≤ ((x31.length : Nat) : Int)) ∧ K [RV.row (Con.ints IntKind.u8 (List.take x32.toNat (List.drop (0 : Nat) x31)))] [] := by
  intros
  kernel_rfl

theorem one_of (x : Int) : List.take 1 (List.drop 0 [x]) = [x] := rfl
def leG : List AV → Option (List Prop × List RV × List (Option (List Seg)))
  | [.o (.ints .u8 l), .v (.i .i64 ⟨_, n⟩)] => some ([(l.length : Int) + 8 ≤ 70368744177664], [.row (.ints .u8 (l ++ le8 n))], [none])
  | [.v .nsl, .v (.i .i64 ⟨_, n⟩)] => some ([], [.row (.ints .u8 (le8 n))], [])
  | _ => none
set_option maxHeartbeats 2000000 in
theorem leG_ok : CallOk Tryd.prog ghE 39 (genCtr [.o, .v] leG) := by
  refine call_gen (fn := Tryd.f39) Φ0_ok rfl glowE rfl (by kernel_rfl) (by kernel_rfl) _ leG fun av p rvs fin hs hp hf => ?_
  unfold leG at hs
  split at hs
  · rename_i l st n
    simp only [Option.some.injEq, Prod.mk.injEq] at hs
    obtain ⟨rfl, rfl, rfl⟩ := hs
    have hl : (l.length : Int) + 8 ≤ 70368744177664 := hp.1
    refine ⟨[.sl 600 0 1 ⟨true, 0⟩ ⟨false, (l.length : Int)⟩, .i .i64 ⟨false, n⟩], [(600, .segs false [.rowI .u8 l])], [], _, ?_, Nat.le_of_ble_eq_true (by kernel_rfl), vcG_noloops ?_⟩
    · exact ⟨rfl, rfl, rfl, rfl, trivial⟩
    · show vc13o l n _ _
      rw [vc13o_eq]
      intro x1 e1 _ x2 e2 _
      rw [one_of]
      have l0 : (l ++ [x2]).length = l.length + 1 := by simp
      refine ⟨need_of (by omega), need_of (by omega), need_of (by simp), ?_⟩
      intro x3 e3 _ x4 e4 _ _
      rw [← e3] at l0 e4
      intro x5 e5 _ x6 e6 _
      rw [one_of]
      have l1 : (x3 ++ [x6]).length = l.length + 2 := by rw [List.length_append, l0]; rfl
      refine ⟨need_of (by omega), need_of (by omega), need_of (by simp), ?_⟩
      intro x7 e7 _ x8 e8 _ _
      rw [← e7] at l1 e8
      intro x9 e9 _ x10 e10 _
      rw [one_of]
      have l2 : (x7 ++ [x10]).length = l.length + 3 := by rw [List.length_append, l1]; rfl
      refine ⟨need_of (by omega), need_of (by omega), need_of (by simp), ?_⟩
      intro x11 e11 _ x12 e12 _ _
      rw [← e11] at l2 e12
      intro x13 e13 _ x14 e14 _
      rw [one_of]
      have l3 : (x11 ++ [x14]).length = l.length + 4 := by rw [List.length_append, l2]; rfl
      refine ⟨need_of (by omega), need_of (by omega), need_of (by simp), ?_⟩
      intro x15 e15 _ x16 e16 _ _
      rw [← e15] at l3 e16
      intro x17 e17 _ x18 e18 _
      rw [one_of]
      have l4 : (x15 ++ [x18]).length = l.length + 5 := by rw [List.length_append, l3]; rfl
      refine ⟨need_of (by omega), need_of (by omega), need_of (by simp), ?_⟩
      intro x19 e19 _ x20 e20 _ _
      rw [← e19] at l4 e20
      intro x21 e21 _ x22 e22 _
      rw [one_of]
      have l5 : (x19 ++ [x22]).length = l.length + 6 := by rw [List.length_append, l4]; rfl
      refine ⟨need_of (by omega), need_of (by omega), need_of (by simp), ?_⟩
      intro x23 e23 _ x24 e24 _ _
      rw [← e23] at l5 e24
      intro x25 e25 _ x26 e26 _
      rw [one_of]
      have l6 : (x23 ++ [x26]).length = l.length + 7 := by rw [List.length_append, l5]; rfl
      refine ⟨need_of (by omega), need_of (by omega), need_of (by simp), ?_⟩
      intro x27 e27 _ x28 e28 _ _
      rw [← e27] at l6 e28
      intro x29 e29 _ x30 e30 _
      rw [one_of]
      have l7 : (x27 ++ [x30]).length = l.length + 8 := by rw [List.length_append, l6]; rfl
      refine ⟨need_of (by omega), need_of (by omega), need_of (by simp), ?_⟩
      intro x31 e31 _ x32 e32 _ _
      rw [← e31] at l7 e32
      refine ⟨need_of (by omega), ?_⟩
      refine ⟨⟨?_, trivial⟩, ⟨trivial, trivial⟩⟩
      refine ⟨rfl, ?_⟩
      show List.take x32.toNat (List.drop 0 x31) = l ++ le8 n
      rw [List.drop_zero, List.take_of_length_le (by omega)]
      rw [e31, e27, e23, e19, e15, e11, e7, e3, e2, e1, e6, e5, e10, e9, e14, e13, e18, e17, e22, e21, e26, e25, e30, e29]
      simp only [List.append_assoc, List.cons_append, List.nil_append]
      rfl
  · rename_i st n
    simp only [Option.some.injEq, Prod.mk.injEq] at hs
    obtain ⟨rfl, rfl, rfl⟩ := hs
    refine ⟨[.nsl, .i .i64 ⟨false, n⟩], [], [], _, ?_, Nat.le_of_ble_eq_true (by kernel_rfl), vcG_noloops ?_⟩
    · exact ⟨trivial, rfl, trivial⟩
    · show vc13n n _ _
      rw [vc13n_eq]
      intro x1 e1 _ x2 e2 _
      rw [one_of]
      have l0 : ([] ++ [x2]).length = 0 + 1 := by simp
      refine ⟨need_of (by omega), need_of (by simp), ?_⟩
      intro x3 e3 _ x4 e4 _ _
      rw [← e3] at l0 e4
      intro x5 e5 _ x6 e6 _
      rw [one_of]
      have l1 : (x3 ++ [x6]).length = 0 + 2 := by rw [List.length_append, l0]; rfl
      refine ⟨need_of (by omega), need_of (by omega), need_of (by simp), ?_⟩
      intro x7 e7 _ x8 e8 _ _
      rw [← e7] at l1 e8
      intro x9 e9 _ x10 e10 _
      rw [one_of]
      have l2 : (x7 ++ [x10]).length = 0 + 3 := by rw [List.length_append, l1]; rfl
      refine ⟨need_of (by omega), need_of (by omega), need_of (by simp), ?_⟩
      intro x11 e11 _ x12 e12 _ _
      rw [← e11] at l2 e12
      intro x13 e13 _ x14 e14 _
      rw [one_of]
      have l3 : (x11 ++ [x14]).length = 0 + 4 := by rw [List.length_append, l2]; rfl
      refine ⟨need_of (by omega), need_of (by omega), need_of (by simp), ?_⟩
      intro x15 e15 _ x16 e16 _ _
      rw [← e15] at l3 e16
      intro x17 e17 _ x18 e18 _
      rw [one_of]
      have l4 : (x15 ++ [x18]).length = 0 + 5 := by rw [List.length_append, l3]; rfl
      refine ⟨need_of (by omega), need_of (by omega), need_of (by simp), ?_⟩
      intro x19 e19 _ x20 e20 _ _
      rw [← e19] at l4 e20
      intro x21 e21 _ x22 e22 _
      rw [one_of]
      have l5 : (x19 ++ [x22]).length = 0 + 6 := by rw [List.length_append, l4]; rfl
      refine ⟨need_of (by omega), need_of (by omega), need_of (by simp), ?_⟩
      intro x23 e23 _ x24 e24 _ _
      rw [← e23] at l5 e24
      intro x25 e25 _ x26 e26 _
      rw [one_of]
      have l6 : (x23 ++ [x26]).length = 0 + 7 := by rw [List.length_append, l5]; rfl
      refine ⟨need_of (by omega), need_of (by omega), need_of (by simp), ?_⟩
      intro x27 e27 _ x28 e28 _ _
      rw [← e27] at l6 e28
      intro x29 e29 _ x30 e30 _
      rw [one_of]
      have l7 : (x27 ++ [x30]).length = 0 + 8 := by rw [List.length_append, l6]; rfl
      refine ⟨need_of (by omega), need_of (by omega), need_of (by simp), ?_⟩
      intro x31 e31 _ x32 e32 _ _
      rw [← e31] at l7 e32
      refine ⟨need_of (by omega), ?_⟩
      refine ⟨⟨?_, trivial⟩, trivial⟩
      refine ⟨rfl, ?_⟩
      show List.take x32.toNat (List.drop 0 x31) = [] ++ le8 n
      rw [List.drop_zero, List.take_of_length_le (by omega)]
      rw [e31, e27, e23, e19, e15, e11, e7, e3, e2, e1, e6, e5, e10, e9, e14, e13, e18, e17, e22, e21, e26, e25, e30, e29]
      simp only [List.cons_append, List.nil_append]
      rfl
  · cases hs
def Φ1 : Tab := ⟨tys, [(39, genCtr [.o, .v] leG)], [], ghE⟩
theorem Φ1_ok : TabOk Tryd.prog Φ1 := Φ0_ok.cons leG_ok
end Go.Gx

/- A frame, and when two of them are the same. -/
namespace Go.Sp
open Go.Gx
/-- The parts, each behind its length. -/
def partsL (ls : List (List Int)) : List Int := (ls.map fun l => le8 (l.length : Int) ++ l).flatten
/-- A frame: a label and parts. -/
def frL (b : List Int) (ls : List (List Int)) : List Int := le8 (b.length : Int) ++ b ++ le8 (ls.length : Int) ++ partsL ls
def sameB (x : ByteArray) (ls : List (List Int)) (x' : ByteArray) (ls' : List (List Int)) : Bool := decide (bytesI x = bytesI x' ∧ ls = ls')
end Go.Sp
namespace Go.Gx
open Go.Proofs Go.Sp
set_option linter.unusedVariables false
set_option maxRecDepth 100000

def L7 : Loops := [(5, ⟨[.any, .any, .any, .any, .nsl, .sl 1001 0 1 ⟨true, 0⟩ ⟨false, 0⟩] ++ reps .any 12 ++ [.ro 490 (.l (.ints .u8)) (.r []), .i .i64 ⟨false, 0⟩, .i .i64 ⟨false, 0⟩] ++ reps .any 12, ghE ++ [(490, .world), (1001, .segs false [.rowI .u8 []])], 2000⟩)]
def vc7 (s : ByteArray) (d : RO) (K : List RV → List (Option (List Seg)) → Prop) (Q : Nat → List Pv → Prop) : Prop := fnVcG 0 Φ1 Tryd.f20 L7 [.s s, .ro 490 (.l (.ints .u8)) d] (ghE ++ (490, .world) :: []) K Q
def lc7 (d : RO) (n i z : Int) (l : List Int) (K : List RV → List (Option (List Seg)) → Prop) (Q : Nat → List Pv → Prop) : Prop := loopVcG 0 Φ1 Tryd.f20 L7 5 [.z z, .ro d, .z n, .z i, .l l] K Q
def L11 : Loops := [(4, ⟨[.any, .ro 490 (.l (.ints .u8)) (.r []), .any, .ro 490 (.l (.ints .u8)) (.r []), .any, .any, .any, .any, .any, .i .i64 ⟨false, 0⟩] ++ reps .any 27, ghE ++ [(490, .world)], 2000⟩)]
def vc11 (s : ByteArray) (d : RO) (s' : ByteArray) (d' : RO) (K : List RV → List (Option (List Seg)) → Prop) (Q : Nat → List Pv → Prop) : Prop := fnVcG 0 Φ1 Tryd.f38 L11 [.s s, .ro 490 (.l (.ints .u8)) d, .s s', .ro 490 (.l (.ints .u8)) d'] (ghE ++ (490, .world) :: []) K Q
def lc11 (d d' : RO) (i : Int) (K : List RV → List (Option (List Seg)) → Prop) (Q : Nat → List Pv → Prop) : Prop := loopVcG 0 Φ1 Tryd.f38 L11 4 [.ro d, .ro d', .z i] K Q
theorem vc7_eq : ∀ (s : ByteArray) (d : RO) (K : List RV → List (Option (List Seg)) → Prop) (Q : Nat → List Pv → Prop), vc7 s d K Q = ∀ (x1 : List Int), x1 = le8 ((s.size : Nat) : Int) → AllR IntKind.u8 x1 → ∀ (x2 : Int), x2 = ((le8 ((s.size : Nat) : Int)).length : Int) → (0 : Int) ≤ x2 → InR IntKind.i64 x2 → Need (((x1 ++ bytesI s).length : Int) * (1 : Int) ≤ (70368744177664 : Int)) ∧ Need (x2 = ((x1.length : Nat) : Int)) ∧ ∀ (x3 : List Int), x3 = x1 ++ bytesI s → AllR IntKind.u8 x3 → ∀ (x4 : Int), x4 = ((x1 ++ bytesI s).length : Int) → (0 : Int) ≤ x4 → InR IntKind.i64 x4 → Need (x4 = ((x3.length : Nat) : Int)) ∧ Need (((x3.length : Nat) : Int) + (8 : Int) ≤ (70368744177664 : Int)) ∧ ∀ (x5 : List Int), x5 = x3 ++ le8 ((roX d).length : Int) → AllR IntKind.u8 x5 → ∀ (x6 : Int), x6 = ((x3 ++ le8 ↑(roX d).length).length : Int) → (0 : Int) ≤ x6 → InR IntKind.i64 x6 → Same Tryd.f20 (5 : Nat) (itemsOf Tryd.f20 (5 : Nat)) ∧ Q (5 : Nat) [Pv.z x6, Pv.ro d, Pv.z ((roX d).length : Int), Pv.z (0 : Int), Pv.l x5] := by
  intros
  kernel_rfl
theorem lc7_eq : ∀ (d : RO) (n i z : Int) (l : List Int) (K : List RV → List (Option (List Seg)) → Prop) (Q : Nat → List Pv → Prop), lc7 d n i z l K Q = ((decide (i < n) = true → Need ((0 : Int) ≤ i ∧ i < ((roX d).length : Int)) ∧ Need (z = ((l.length : Nat) : Int)) ∧ Need (((l.length : Nat) : Int) + (8 : Int) ≤ (70368744177664 : Int)) ∧ ∀ (x1 : List Int), x1 = l ++ le8 ((roL (roN d i.toNat)).length : Int) → AllR IntKind.u8 x1 → ∀ (x2 : Int), x2 = ↑(l ++ le8 ((roL (roN d i.toNat)).length : Int)).length → (0 : Int) ≤ x2 → InR IntKind.i64 x2 → Need (((x1 ++ roL (roN d i.toNat)).length : Int) * (1 : Int) ≤ (70368744177664 : Int)) ∧ Need (x2 = ((x1.length : Nat) : Int)) ∧ ∀ (x3 : List Int), x3 = x1 ++ roL (roN d i.toNat) → AllR IntKind.u8 x3 → ∀ (x4 : Int), x4 = ((x1 ++ roL (roN d i.toNat)).length : Int) → (0 : Int) ≤ x4 → InR IntKind.i64 x4 → ∀ (x5 : Int), x5 = IntKind.i64.wrap (i + (1 : Int)) → InR IntKind.i64 x5 → Same Tryd.f20 (5 : Nat) (itemsOf Tryd.f20 (5 : Nat)) ∧ Q (5 : Nat) [Pv.z x4, Pv.ro d, Pv.z n, Pv.z x5, Pv.l x3]) ∧ (decide (i < n) = false → Need ((0 : Int) + z ≤ ((l.length : Nat) : Int)) ∧ K [RV.row (Con.ints IntKind.u8 (List.take z.toNat (List.drop (0 : Nat) l)))] [])) := by
  intros
  kernel_rfl
theorem vc11_eq : ∀ (s : ByteArray) (d : RO) (s' : ByteArray) (d' : RO) (K : List RV → List (Option (List Seg)) → Prop) (Q : Nat → List Pv → Prop), vc11 s d s' d' K Q = (((!s.toList == s'.toList) = true → K [RV.v (SV.b true false)] []) ∧ ((!s.toList == s'.toList) = false → ((((roX d).length : Int) != ((roX d').length : Int)) = true → K [RV.v (SV.b true false)] []) ∧ ((((roX d).length : Int) != ((roX d').length : Int)) = false → Same Tryd.f38 (4 : Nat) (itemsOf Tryd.f38 (4 : Nat)) ∧ Q (4 : Nat) [Pv.ro d, Pv.ro d', Pv.z (0 : Int)]))) := by
  intros
  kernel_rfl
theorem lc11_eq : ∀ (d d' : RO) (i : Int) (K : List RV → List (Option (List Seg)) → Prop) (Q : Nat → List Pv → Prop), lc11 d d' i K Q = ((decide (i < ((roX d).length : Int)) = true → Need ((0 : Int) ≤ i ∧ i < ((roX d).length : Int)) ∧ Need ((0 : Int) ≤ i ∧ i < ((roX d').length : Int)) ∧ ((!(ofBytesI (roL (roN d i.toNat))).toList == (ofBytesI (roL (roN d' i.toNat))).toList) = true → K [RV.v (SV.b true false)] []) ∧ ((!(ofBytesI (roL (roN d i.toNat))).toList == (ofBytesI (roL (roN d' i.toNat))).toList) = false → ∀ (x1 : Int), x1 = IntKind.i64.wrap (i + (1 : Int)) → InR IntKind.i64 x1 → Same Tryd.f38 (4 : Nat) (itemsOf Tryd.f38 (4 : Nat)) ∧ Q (4 : Nat) [Pv.ro d, Pv.ro d', Pv.z x1])) ∧ (decide (i < ((roX d).length : Int)) = false → K [RV.v (SV.b true true)] [])) := by
  intros
  kernel_rfl

theorem bytesI_len (s : ByteArray) : (bytesI s).length = s.size := by
  unfold bytesI
  rw [List.length_map, Array.length_toList]; rfl
theorem bytesI_u8 (s : ByteArray) : AllR .u8 (bytesI s) := fun z hz => by
  unfold bytesI at hz
  obtain ⟨b, _, rfl⟩ := List.mem_map.1 hz
  have h : b.toNat < 256 := b.toNat_lt
  show 0 ≤ ((b.toNat : Nat) : Int) ∧ ((b.toNat : Nat) : Int) < 256
  omega
theorem bytesI_of {l : List Int} (h : AllR .u8 l) : bytesI (ofBytesI l) = l := by
  unfold bytesI ofBytesI
  simp only [List.map_map]
  conv => rhs; rw [← List.map_id l]
  apply List.map_congr_left
  intro z hz
  have hz : 0 ≤ z ∧ z < 256 := h z hz
  show (((UInt8.ofNat z.toNat).toNat : Nat) : Int) = z
  rw [UInt8.toNat_ofNat']
  omega
theorem bytesI_inj {a b : ByteArray} (h : bytesI a = bytesI b) : a = b := by
  apply ByteArray.ext
  apply Array.toList_inj.1
  unfold bytesI at h
  refine List.map_inj_right (f := fun b : UInt8 => (b.toNat : Int)) (fun x y hxy => ?_) |>.1 h
  exact UInt8.toNat_inj.1 (by have hxy : ((x.toNat : Nat) : Int) = ((y.toNat : Nat) : Int) := hxy; omega)
theorem toList_bytes (a b : ByteArray) : (a.toList == b.toList) = decide (bytesI a = bytesI b) := by
  rw [ByteArray.toList_eq, ByteArray.toList_eq]
  by_cases h : a = b
  · subst h; simp
  · have h1 : ¬ bytesI a = bytesI b := fun e => h (bytesI_inj e)
    have h2 : ¬ a.data.toList = b.data.toList := fun e => h (ByteArray.ext (Array.toList_inj.1 e))
    rw [decide_eq_false h1]
    exact beq_eq_false_iff_ne.2 h2
theorem ofBytes_eq {l l' : List Int} (h : AllR .u8 l) (h' : AllR .u8 l') : ((ofBytesI l).toList == (ofBytesI l').toList) = decide (l = l') := by
  rw [toList_bytes, bytesI_of h, bytesI_of h']
theorem partsL_take (xs : List (List Int)) (j : Nat) (h : j < xs.length) : partsL (xs.take (j + 1)) = partsL (xs.take j) ++ le8 ((xs.getD j []).length : Int) ++ xs.getD j [] := by
  unfold partsL
  rw [List.take_add_one, List.getElem?_eq_getElem h, List.map_append, List.flatten_append]
  simp [List.getD, h]
theorem partsL_le (xs : List (List Int)) (j : Nat) : (partsL (xs.take j)).length ≤ (partsL xs).length := by
  have h : partsL xs = partsL (xs.take j) ++ partsL (xs.drop j) := by
    unfold partsL
    rw [← List.flatten_append, ← List.map_append, List.take_append_drop]
  rw [h, List.length_append]; omega
theorem le8_len (n : Int) : (le8 n).length = 8 := rfl
theorem map_getD (xs : List RO) (j : Nat) (h : j < xs.length) : (xs.map roL).getD j [] = roL (xs.getD j (.r [])) := by
  simp [List.getD, h]
/-- A frame's beginning: j of its parts. -/
def frJ (s : ByteArray) (d : RO) (j : Nat) : List Int := le8 (s.size : Int) ++ bytesI s ++ le8 ((roX d).length : Int) ++ partsL (((roX d).map roL).take j)
def inv7 (s : ByteArray) (d : RO) (key : Nat) (ps : List Pv) (mm : Nat) : Prop :=
  key = 5 ∧ ∃ j : Nat, j ≤ (roX d).length ∧ ps = [.z ((frJ s d j).length : Int), .ro d, .z ((roX d).length : Int), .z (j : Int), .l (frJ s d j)] ∧ mm = (roX d).length - j
def frG : List AV → Option (List Prop × List RV × List (Option (List Seg)))
  | [.v (.s x), .d (.l (.ints .u8)) d] => some ([((frL (bytesI x) ((roX d).map roL)).length : Int) ≤ 70368744177664], [.row (.ints .u8 (frL (bytesI x) ((roX d).map roL)))], [])
  | _ => none
theorem frJ_all (s : ByteArray) (d : RO) : frJ s d (roX d).length = frL (bytesI s) ((roX d).map roL) := by
  unfold frJ frL
  rw [bytesI_len, List.length_map, List.take_of_length_le (by rw [List.length_map]; exact Nat.le_refl _)]
theorem frJ_le (s : ByteArray) (d : RO) (j : Nat) : (frJ s d j).length ≤ (frL (bytesI s) ((roX d).map roL)).length := by
  have h1 : (frJ s d j).length = 8 + (bytesI s).length + 8 + (partsL (((roX d).map roL).take j)).length := by
    unfold frJ
    rw [List.length_append, List.length_append, List.length_append, le8_len, le8_len]
  have h2 : (frL (bytesI s) ((roX d).map roL)).length = 8 + (bytesI s).length + 8 + (partsL ((roX d).map roL)).length := by
    unfold frL
    rw [List.length_append, List.length_append, List.length_append, le8_len, le8_len]
  have := partsL_le ((roX d).map roL) j
  omega
theorem frJ_succ (s : ByteArray) (d : RO) (j : Nat) (h : j < (roX d).length) : frJ s d (j + 1) = frJ s d j ++ le8 ((roL (roN d j)).length : Int) ++ roL (roN d j) := by
  unfold frJ
  rw [partsL_take _ _ (by rw [List.length_map]; exact h), map_getD _ _ h]
  simp only [List.append_assoc]
  rfl
theorem frG_ok : CallOk Tryd.prog ghE 20 (genCtr [.v, .d (.l (.ints .u8))] frG) := by
  refine call_gen (fn := Tryd.f20) Φ1_ok rfl glowE rfl (by kernel_rfl) (by kernel_rfl) _ frG fun av p rvs fin hs hp hf => ?_
  unfold frG at hs
  split at hs
  · rename_i s d
    simp only [Option.some.injEq, Prod.mk.injEq] at hs
    obtain ⟨rfl, rfl, rfl⟩ := hs
    have hd : ((frL (bytesI s) ((roX d).map roL)).length : Int) ≤ 70368744177664 := hp.1
    obtain ⟨_, ⟨_, hlen⟩, _⟩ := hf
    refine ⟨[.s s, .ro 490 (.l (.ints .u8)) d], [], L7, inv7 s d, ⟨rfl, rfl, trivial⟩, Nat.le_of_ble_eq_true (by kernel_rfl), ?_, ?_, ?_⟩
    · intro kk t ht g hg
      have hg : g ∈ [490] := hg
      simp only [List.mem_cons, List.not_mem_nil, or_false] at hg
      simp only [L7, List.mem_cons, List.not_mem_nil, or_false, Prod.mk.injEq] at ht
      obtain ⟨rfl, rfl⟩ := ht
      subst hg
      exact ⟨by omega, rfl⟩
    · rintro vk t ps mm ht ⟨rfl, j, hj, rfl, rfl⟩
      simp only [L7, List.mem_cons, List.not_mem_nil, or_false, Prod.mk.injEq] at ht
      obtain ⟨_, rfl⟩ := ht
      show lc7 d ((roX d).length : Int) (j : Int) ((frJ s d j).length : Int) (frJ s d j) _ _
      rw [lc7_eq]
      refine ⟨fun hlt => ?_, fun hge => ?_⟩
      · have hlt := of_decide_eq_true hlt
        have hjl : j < (roX d).length := by omega
        have hs := frJ_succ s d j hjl
        have hle := frJ_le s d (j + 1)
        have hln : (frJ s d (j + 1)).length = (frJ s d j).length + 8 + (roL (roN d j)).length := by rw [hs, List.length_append, List.length_append, le8_len]
        rw [Int.toNat_natCast]
        refine ⟨need_of (by omega), need_of rfl, need_of (by omega), ?_⟩
        intro x1 e1 _ x2 e2 _ _
        rw [← e1] at e2
        rw [← e1] at hs
        rw [← hs]
        refine ⟨need_of (by omega), need_of e2, ?_⟩
        intro x3 e3 _ x4 e4 _ _ x5 e5 _
        rw [wrap_i64 (by omega)] at e5
        rw [e3, e4, e5]
        exact ⟨rfl, (roX d).length - (j + 1), by omega, rfl, j + 1, by omega, rfl, rfl⟩
      · have hge := of_decide_eq_false hge
        obtain rfl : j = (roX d).length := by omega
        refine ⟨need_of (by omega), ⟨⟨rfl, ?_⟩, trivial⟩, trivial⟩
        show List.take _ (List.drop 0 (frJ s d (roX d).length)) = frL (bytesI s) ((roX d).map roL)
        rw [List.drop_zero, Int.toNat_natCast, List.take_of_length_le (Nat.le_refl _), frJ_all]
    · show vc7 s d _ _
      rw [vc7_eq]
      have h0 : le8 (s.size : Int) ++ bytesI s ++ le8 ((roX d).length : Int) = frJ s d 0 := by
        unfold frJ
        simp [partsL]
      have hle := frJ_le s d 0
      have hl0 : (frJ s d 0).length = 8 + (bytesI s).length + 8 := by rw [← h0, List.length_append, List.length_append, le8_len, le8_len]
      intro x1 e1 _ x2 e2 _ _
      subst e1
      have hl1 : (le8 (s.size : Int) ++ bytesI s).length = 8 + (bytesI s).length := by rw [List.length_append, le8_len]
      refine ⟨need_of (by omega), need_of e2, ?_⟩
      intro x3 e3 _ x4 e4 _ _
      rw [← e3] at e4 hl1 h0
      rw [h0]
      refine ⟨need_of e4, need_of (by omega), ?_⟩
      intro x5 e5 _ x6 e6 _ _
      rw [e5, e6]
      exact ⟨rfl, (roX d).length - 0, rfl, 0, by omega, rfl, rfl⟩
  · cases hs
def inv11 (d d' : RO) (key : Nat) (ps : List Pv) (mm : Nat) : Prop :=
  key = 4 ∧ ∃ j : Nat, j ≤ (roX d).length ∧ ((roX d).map roL).take j = ((roX d').map roL).take j ∧ ps = [.ro d, .ro d', .z (j : Int)] ∧ mm = (roX d).length - j
def sameG : List AV → Option (List Prop × List RV × List (Option (List Seg)))
  | [.v (.s x), .d (.l (.ints .u8)) d, .v (.s x'), .d (.l (.ints .u8)) d'] => some ([], [.v (.b false (sameB x ((roX d).map roL) x' ((roX d').map roL)))], [])
  | _ => none
theorem sameG_ok : CallOk Tryd.prog ghE 38 (genCtr [.v, .d (.l (.ints .u8)), .v, .d (.l (.ints .u8))] sameG) := by
  refine call_gen (fn := Tryd.f38) Φ1_ok rfl glowE rfl (by kernel_rfl) (by kernel_rfl) _ sameG fun av p rvs fin hs hp hf => ?_
  unfold sameG at hs
  split at hs
  · rename_i s d s' d'
    simp only [Option.some.injEq, Prod.mk.injEq] at hs
    obtain ⟨rfl, rfl, rfl⟩ := hs
    obtain ⟨_, ⟨hu, hlen⟩, _, ⟨hu', hlen'⟩, _⟩ := hf
    by_cases hss : bytesI s = bytesI s' ∧ (roX d).length = (roX d').length
    · obtain ⟨hs1, hll⟩ := hss
      refine ⟨[.s s, .ro 490 (.l (.ints .u8)) d, .s s', .ro 490 (.l (.ints .u8)) d'], [], L11, inv11 d d', ⟨rfl, rfl, rfl, rfl, trivial⟩, Nat.le_of_ble_eq_true (by kernel_rfl), ?_, ?_, ?_⟩
      · intro kk t ht g hg
        have hg : g ∈ [490] := hg
        simp only [List.mem_cons, List.not_mem_nil, or_false] at hg
        simp only [L11, List.mem_cons, List.not_mem_nil, or_false, Prod.mk.injEq] at ht
        obtain ⟨rfl, rfl⟩ := ht
        subst hg
        exact ⟨by omega, rfl⟩
      · rintro vk t ps mm ht ⟨rfl, j, hj, htk, rfl, rfl⟩
        simp only [L11, List.mem_cons, List.not_mem_nil, or_false, Prod.mk.injEq] at ht
        obtain ⟨_, rfl⟩ := ht
        show lc11 d d' (j : Int) _ _
        rw [lc11_eq]
        refine ⟨fun hlt => ?_, fun hge => ?_⟩
        · have hlt := of_decide_eq_true hlt
          have hjl : j < (roX d).length := by omega
          have hm : roN d j ∈ roX d := by unfold roN; simp [List.getD, hjl]
          have hm' : roN d' j ∈ roX d' := by
            have : j < (roX d').length := by omega
            unfold roN; simp [List.getD, this]
          rw [Int.toNat_natCast, ofBytes_eq (hu _ hm).1 (hu' _ hm').1]
          have hg : ((roX d).map roL)[j]? = some (roL (roN d j)) := by
            rw [List.getElem?_map]; unfold roN; simp [List.getD, hjl]
          have hg' : ((roX d').map roL)[j]? = some (roL (roN d' j)) := by
            have : j < (roX d').length := by omega
            rw [List.getElem?_map]; unfold roN; simp [List.getD, this]
          refine ⟨need_of (by omega), need_of (by omega), fun h => ?_, fun h => ?_⟩
          · have hne : ¬ roL (roN d j) = roL (roN d' j) := by simpa using h
            refine ⟨⟨?_, trivial⟩, trivial⟩
            show false = sameB _ _ _ _
            refine (decide_eq_false fun hh => hne ?_).symm
            have := hh.2
            rw [this, hg'] at hg
            exact (Option.some.inj hg).symm
          · have he : roL (roN d j) = roL (roN d' j) := by simpa using h
            intro x1 e1 _
            rw [wrap_i64 (by omega)] at e1
            rw [e1]
            refine ⟨rfl, (roX d).length - (j + 1), by omega, rfl, j + 1, by omega, ?_, rfl, rfl⟩
            rw [List.take_add_one, List.take_add_one, htk, hg, hg', he]
        · have hge := of_decide_eq_false hge
          obtain rfl : j = (roX d).length := by omega
          refine ⟨⟨?_, trivial⟩, trivial⟩
          show true = sameB _ _ _ _
          rw [List.take_of_length_le (by simp), List.take_of_length_le (by simp; omega)] at htk
          exact (decide_eq_true ⟨hs1, htk⟩).symm
      · show vc11 s d s' d' _ _
        rw [vc11_eq, toList_bytes]
        refine ⟨fun h => ?_, fun _ => ⟨fun h => ?_, fun _ => ⟨rfl, (roX d).length - 0, rfl, 0, by omega, by simp, rfl, rfl⟩⟩⟩
        · simp [hs1] at h
        · rw [hll] at h; simp at h
    · have hno : sameB s ((roX d).map roL) s' ((roX d').map roL) = false := decide_eq_false fun hh => hss ⟨hh.1, by have := congrArg List.length hh.2; simpa using this⟩
      rw [hno]
      refine ⟨[.s s, .ro 490 (.l (.ints .u8)) d, .s s', .ro 490 (.l (.ints .u8)) d'], [], L11, fun _ _ _ => False, ⟨rfl, rfl, rfl, rfl, trivial⟩, Nat.le_of_ble_eq_true (by kernel_rfl), ?_, fun _ _ _ _ _ h => h.elim, ?_⟩
      · intro kk t ht g hg
        have hg : g ∈ [490] := hg
        simp only [List.mem_cons, List.not_mem_nil, or_false] at hg
        simp only [L11, List.mem_cons, List.not_mem_nil, or_false, Prod.mk.injEq] at ht
        obtain ⟨rfl, rfl⟩ := ht
        subst hg
        exact ⟨by omega, rfl⟩
      · show vc11 s d s' d' _ _
        rw [vc11_eq, toList_bytes]
        refine ⟨fun _ => ⟨⟨rfl, trivial⟩, trivial⟩, fun h => ⟨fun _ => ⟨⟨rfl, trivial⟩, trivial⟩, fun h2 => (hss ⟨by simpa using h, ?_⟩).elim⟩⟩
        have : ((roX d).length : Int) = ((roX d').length : Int) := by simpa using h2
        omega
  · cases hs
def Φ2 : Tab := ⟨tys, (38, genCtr [.v, .d (.l (.ints .u8)), .v, .d (.l (.ints .u8))] sameG) :: (20, genCtr [.v, .d (.l (.ints .u8))] frG) :: Φ1.ctr, [], ghE⟩
theorem Φ2_ok : TabOk Tryd.prog Φ2 := (Φ1_ok.cons frG_ok).cons sameG_ok
end Go.Gx

/- One table of all that is known so far. -/
namespace Go.Gx
open Go.Proofs Go.Sp
set_option linter.unusedVariables false

theorem none_sub : ∀ x ∈ ghE, x ∈ gh4 := fun x hx => by cases hx
def Λ0 : Tab := ⟨tys, (20, genCtr [.v, .d (.l (.ints .u8))] frG) :: (39, genCtr [.o, .v] leG) :: (38, genCtr [.v, .d (.l (.ints .u8)), .v, .d (.l (.ints .u8))] sameG) :: Δ3.ctr, [3, 0, 4, 2], gh4⟩
theorem Λ0_ok : TabOk Tryd.prog Λ0 := ((Δ3_ok.cons (sameG_ok.mono none_sub)).cons (leG_ok.mono none_sub)).cons (frG_ok.mono none_sub)
end Go.Gx

/- The reference's frame; a transcript's first state. -/
namespace Go.Sp
open Go.Gx
/-- The words "veil transcript". -/
def tagT : List Int := [118, 101, 105, 108, 32, 116, 114, 97, 110, 115, 99, 114, 105, 112, 116]
/-- A new transcript's state. -/
def seedL (b : List Int) : List Int := sha (frL tagT [b])
end Go.Sp
namespace Go.Gx
open Go.Proofs Go.Sp
set_option linter.unusedVariables false
set_option maxRecDepth 100000

def LRf : Loops := [(4, ⟨[.any, .ro 490 (.l (.ints .u8)) (.r []), .any, .any, .nsl, .sl 1001 0 1 ⟨true, 0⟩ ⟨false, 0⟩, .i .i64 ⟨false, 0⟩] ++ reps .any 31, gh4 ++ [(490, .world), (1001, .segs false [.rowI .u8 []])], 2000⟩)]
def vcRf (s : ByteArray) (d : RO) (K : List RV → List (Option (List Seg)) → Prop) (Q : Nat → List Pv → Prop) : Prop := fnVcG 0 Λ0 Tryd.f22 LRf [.s s, .ro 490 (.l (.ints .u8)) d] (gh4 ++ (490, .world) :: []) K Q
def lcRf (d : RO) (i z : Int) (g g' l : List Int) (K : List RV → List (Option (List Seg)) → Prop) (Q : Nat → List Pv → Prop) : Prop := loopVcG 0 Λ0 Tryd.f22 LRf 4 [.ro d, .z z, .z i, .l g, .l g', .l l] K Q
def vcNew (s : ByteArray) (K : List RV → List (Option (List Seg)) → Prop) (Q : Nat → List Pv → Prop) : Prop := fnVcG 0 Λ0 Tryd.f23 [] [.s s] (gh4 ++ (490, .world) :: []) K Q
def vcLives (st : List Int) (b : Bool) (K : List RV → List (Option (List Seg)) → Prop) (Q : Nat → List Pv → Prop) : Prop := fnVcG 1 Λ0 Tryd.f44 [] [.p 600 0] (gh4 ++ (490, .world) :: [(600, .segs false [.arr .u8 64 false st, .one (.b false b)])]) K Q
theorem vcRf_eq : ∀ (s : ByteArray) (d : RO) (K : List RV → List (Option (List Seg)) → Prop) (Q : Nat → List Pv → Prop), vcRf s d K Q = ∀ (x1 : List Int), x1 = le8 ((s.size : Nat) : Int) → AllR IntKind.u8 x1 → ∀ (x2 : Int), x2 = (((le8 ((s.size : Nat) : Int)).length : Nat) : Int) → (0 : Int) ≤ x2 → InR IntKind.i64 x2 → Need ((((x1 ++ bytesI s).length : Nat) : Int) * (1 : Int) ≤ (70368744177664 : Int)) ∧ Need (x2 = ((x1.length : Nat) : Int)) ∧ ∀ (x3 : List Int), x3 = x1 ++ bytesI s → AllR IntKind.u8 x3 → ∀ (x4 : Int), x4 = (((x1 ++ bytesI s).length : Nat) : Int) → (0 : Int) ≤ x4 → InR IntKind.i64 x4 → ∀ (x5 : List Int), x5 = le8 (((roX d).length : Nat) : Int) → AllR IntKind.u8 x5 → ∀ (x6 : Int), x6 = (((le8 (((roX d).length : Nat) : Int)).length : Nat) : Int) → (0 : Int) ≤ x6 → InR IntKind.i64 x6 → Need ((((x3 ++ List.take x6.toNat (List.drop (0 : Nat) x5)).length : Nat) : Int) * (1 : Int) ≤ (70368744177664 : Int)) ∧ Need (x4 = ((x3.length : Nat) : Int)) ∧ Need ((0 : Int) + x6 ≤ ((x5.length : Nat) : Int)) ∧ ∀ (x7 : List Int), x7 = x3 ++ List.take x6.toNat (List.drop (0 : Nat) x5) → AllR IntKind.u8 x7 → ∀ (x8 : Int), x8 = (((x3 ++ List.take x6.toNat (List.drop (0 : Nat) x5)).length : Nat) : Int) → (0 : Int) ≤ x8 → InR IntKind.i64 x8 → Same Tryd.f22 (4 : Nat) (itemsOf Tryd.f22 (4 : Nat)) ∧ Q (4 : Nat) [Pv.ro d, Pv.z x8, Pv.z (0 : Int), Pv.l K80, Pv.l K80, Pv.l x7] := by
  intros
  kernel_rfl
theorem lcRf_eq : ∀ (d : RO) (i z : Int) (g g' l : List Int) (K : List RV → List (Option (List Seg)) → Prop) (Q : Nat → List Pv → Prop), lcRf d i z g g' l K Q = ((decide (i < (((roX d).length : Nat) : Int)) = true → Need ((0 : Int) ≤ i ∧ i < (((roX d).length : Nat) : Int)) ∧ ∀ (x1 : List Int), x1 = le8 (((roL (roN d i.toNat)).length : Nat) : Int) → AllR IntKind.u8 x1 → ∀ (x2 : Int), x2 = (((le8 (((roL (roN d i.toNat)).length : Nat) : Int)).length : Nat) : Int) → (0 : Int) ≤ x2 → InR IntKind.i64 x2 → Need ((((l ++ List.take x2.toNat (List.drop (0 : Nat) x1)).length : Nat) : Int) * (1 : Int) ≤ (70368744177664 : Int)) ∧ Need (z = ((l.length : Nat) : Int)) ∧ Need ((0 : Int) + x2 ≤ ((x1.length : Nat) : Int)) ∧ ∀ (x3 : List Int), x3 = l ++ List.take x2.toNat (List.drop (0 : Nat) x1) → AllR IntKind.u8 x3 → ∀ (x4 : Int), x4 = (((l ++ List.take x2.toNat (List.drop (0 : Nat) x1)).length : Nat) : Int) → (0 : Int) ≤ x4 → InR IntKind.i64 x4 → Need ((0 : Int) ≤ i ∧ i < (((roX d).length : Nat) : Int)) ∧ Need ((((x3 ++ roL (roN d i.toNat)).length : Nat) : Int) * (1 : Int) ≤ (70368744177664 : Int)) ∧ Need (x4 = ((x3.length : Nat) : Int)) ∧ ∀ (x5 : List Int), x5 = x3 ++ roL (roN d i.toNat) → AllR IntKind.u8 x5 → ∀ (x6 : Int), x6 = (((x3 ++ roL (roN d i.toNat)).length : Nat) : Int) → (0 : Int) ≤ x6 → InR IntKind.i64 x6 → ∀ (x7 : Int), x7 = IntKind.i64.wrap (i + (1 : Int)) → InR IntKind.i64 x7 → Same Tryd.f22 (4 : Nat) (itemsOf Tryd.f22 (4 : Nat)) ∧ Q (4 : Nat) [Pv.ro d, Pv.z x6, Pv.z x7, Pv.l g, Pv.l g', Pv.l x5]) ∧ (decide (i < (((roX d).length : Nat) : Int)) = false → Need ((0 : Int) + z ≤ ((l.length : Nat) : Int)) ∧ K [RV.row (Con.ints IntKind.u8 (List.take z.toNat (List.drop (0 : Nat) l)))] [])) := by
  intros
  kernel_rfl
theorem vcNew_eq : ∀ (s : ByteArray) (K : List RV → List (Option (List Seg)) → Prop) (Q : Nat → List Pv → Prop), vcNew s K Q = ∀ (x1 : List Int), x1 = bytesI s → AllR IntKind.u8 x1 → ∀ (x2 : Int), x2 = ((s.size : Nat) : Int) → (0 : Int) ≤ x2 → InR IntKind.i64 x2 → Need ((0 : Int) + x2 ≤ ((x1.length : Nat) : Int)) ∧ Need ((((frL (bytesI { data := #[(118 : UInt8), (101 : UInt8), (105 : UInt8), (108 : UInt8), (32 : UInt8), (116 : UInt8), (114 : UInt8), (97 : UInt8), (110 : UInt8), (115 : UInt8), (99 : UInt8), (114 : UInt8), (105 : UInt8), (112 : UInt8), (116 : UInt8)] }) (List.map roL (roX (RO.r [RO.l (List.take x2.toNat (List.drop (0 : Nat) x1))])))).length : Nat) : Int) ≤ (70368744177664 : Int)) ∧ ∀ (x3 : List Int), x3 = frL (bytesI { data := #[(118 : UInt8), (101 : UInt8), (105 : UInt8), (108 : UInt8), (32 : UInt8), (116 : UInt8), (114 : UInt8), (97 : UInt8), (110 : UInt8), (115 : UInt8), (99 : UInt8), (114 : UInt8), (105 : UInt8), (112 : UInt8), (116 : UInt8)] }) (List.map roL (roX (RO.r [RO.l (List.take x2.toNat (List.drop (0 : Nat) x1))]))) → AllR IntKind.u8 x3 → ∀ (x4 : Int), x4 = (((frL (bytesI { data := #[(118 : UInt8), (101 : UInt8), (105 : UInt8), (108 : UInt8), (32 : UInt8), (116 : UInt8), (114 : UInt8), (97 : UInt8), (110 : UInt8), (115 : UInt8), (99 : UInt8), (114 : UInt8), (105 : UInt8), (112 : UInt8), (116 : UInt8)] }) (List.map roL (roX (RO.r [RO.l (List.take x2.toNat (List.drop (0 : Nat) x1))])))).length : Nat) : Int) → (0 : Int) ≤ x4 → InR IntKind.i64 x4 → Need ((0 : Int) + x4 ≤ ((x3.length : Nat) : Int)) ∧ Need ((((roJ (RO.r [RO.l (List.take x4.toNat (List.drop (0 : Nat) x3))])).length : Nat) : Int) ≤ (1152921504606846976 : Int)) ∧ ∀ (x5 : List Int), x5 = sha (roJ (RO.r [RO.l (List.take x4.toNat (List.drop (0 : Nat) x3))])) → x5.length = (64 : Nat) → AllR IntKind.u8 x5 → K [RV.ptr [Seg.arr IntKind.u8 (64 : Nat) false x5, Seg.one (SV.b true true)]] [] := by
  intros
  kernel_rfl
theorem vcLives_eq : ∀ (st : List Int) (b : Bool) (K : List RV → List (Option (List Seg)) → Prop) (Q : Nat → List Pv → Prop), vcLives st b K Q = K [RV.v (SV.b false b)] [some [Seg.arr IntKind.u8 (64 : Nat) false st, Seg.one (SV.b false b)]] := by
  intros
  kernel_rfl

def invRf (s : ByteArray) (d : RO) (key : Nat) (ps : List Pv) (mm : Nat) : Prop :=
  key = 4 ∧ ∃ j : Nat, j ≤ (roX d).length ∧ ps = [.ro d, .z ((frJ s d j).length : Int), .z (j : Int), .l K80, .l K80, .l (frJ s d j)] ∧ mm = (roX d).length - j
theorem rfrG_ok : CallOk Tryd.prog gh4 22 (genCtr [.v, .d (.l (.ints .u8))] frG) := by
  refine call_gen (fn := Tryd.f22) Λ0_ok rfl glow4 rfl (by kernel_rfl) (by kernel_rfl) _ frG fun av p rvs fin hs hp hf => ?_
  unfold frG at hs
  split at hs
  · rename_i s d
    simp only [Option.some.injEq, Prod.mk.injEq] at hs
    obtain ⟨rfl, rfl, rfl⟩ := hs
    have hd : ((frL (bytesI s) ((roX d).map roL)).length : Int) ≤ 70368744177664 := hp.1
    obtain ⟨_, ⟨_, hlen⟩, _⟩ := hf
    refine ⟨[.s s, .ro 490 (.l (.ints .u8)) d], [], LRf, invRf s d, ⟨rfl, rfl, trivial⟩, Nat.le_of_ble_eq_true (by kernel_rfl), ?_, ?_, ?_⟩
    · intro kk t ht g hg
      have hg : g ∈ [3, 0, 4, 2, 490] := hg
      simp only [List.mem_cons, List.not_mem_nil, or_false] at hg
      simp only [LRf, List.mem_cons, List.not_mem_nil, or_false, Prod.mk.injEq] at ht
      obtain ⟨rfl, rfl⟩ := ht
      rcases hg with rfl | rfl | rfl | rfl | rfl <;> exact ⟨by omega, rfl⟩
    · rintro vk t ps mm ht ⟨rfl, j, hj, rfl, rfl⟩
      simp only [LRf, List.mem_cons, List.not_mem_nil, or_false, Prod.mk.injEq] at ht
      obtain ⟨_, rfl⟩ := ht
      show lcRf d (j : Int) ((frJ s d j).length : Int) K80 K80 (frJ s d j) _ _
      rw [lcRf_eq]
      refine ⟨fun hlt => ?_, fun hge => ?_⟩
      · have hlt := of_decide_eq_true hlt
        have hjl : j < (roX d).length := by omega
        have hs := frJ_succ s d j hjl
        have hle := frJ_le s d (j + 1)
        have hln : (frJ s d (j + 1)).length = (frJ s d j).length + 8 + (roL (roN d j)).length := by rw [hs, List.length_append, List.length_append, le8_len]
        rw [Int.toNat_natCast]
        refine ⟨need_of (by omega), ?_⟩
        intro x1 e1 _ x2 e2 _ _
        rw [le8_len] at e2
        subst e2
        have h8 : List.take (((8 : Nat) : Int)).toNat (List.drop 0 x1) = le8 ((roL (roN d j)).length : Int) := by rw [e1]; rfl
        rw [h8]
        have hl1 : (frJ s d j ++ le8 ((roL (roN d j)).length : Int)).length = (frJ s d j).length + 8 := by rw [List.length_append, le8_len]
        refine ⟨need_of (by omega), need_of rfl, need_of (by rw [e1, le8_len]; omega), ?_⟩
        intro x3 e3 _ x4 e4 _ _
        rw [← e3] at e4 hs
        rw [← hs]
        refine ⟨need_of (by omega), need_of (by omega), need_of e4, ?_⟩
        intro x5 e5 _ x6 e6 _ _ x7 e7 _
        rw [wrap_i64 (by omega)] at e7
        rw [e5, e6, e7]
        exact ⟨rfl, (roX d).length - (j + 1), by omega, rfl, j + 1, by omega, rfl, rfl⟩
      · have hge := of_decide_eq_false hge
        obtain rfl : j = (roX d).length := by omega
        refine ⟨need_of (by omega), ⟨⟨rfl, ?_⟩, trivial⟩, trivial⟩
        show List.take _ (List.drop 0 (frJ s d (roX d).length)) = frL (bytesI s) ((roX d).map roL)
        rw [List.drop_zero, Int.toNat_natCast, List.take_of_length_le (Nat.le_refl _), frJ_all]
    · show vcRf s d _ _
      rw [vcRf_eq]
      have h0 : le8 (s.size : Int) ++ bytesI s ++ le8 ((roX d).length : Int) = frJ s d 0 := by
        unfold frJ
        simp [partsL]
      have hle := frJ_le s d 0
      have hl0 : (frJ s d 0).length = 8 + (bytesI s).length + 8 := by rw [← h0, List.length_append, List.length_append, le8_len, le8_len]
      have hl1 : (le8 (s.size : Int) ++ bytesI s).length = 8 + (bytesI s).length := by rw [List.length_append, le8_len]
      intro x1 e1 _ x2 e2 _ _
      subst e1
      refine ⟨need_of (by omega), need_of e2, ?_⟩
      intro x3 e3 _ x4 e4 _ _
      rw [← e3] at e4 hl1 h0
      intro x5 e5 _ x6 e6 _ _
      rw [le8_len] at e6
      subst e6
      have h8 : List.take (((8 : Nat) : Int)).toNat (List.drop 0 x5) = le8 ((roX d).length : Int) := by rw [e5]; rfl
      rw [h8, h0]
      refine ⟨need_of (by omega), need_of e4, need_of (by rw [e5, le8_len]; omega), ?_⟩
      intro x7 e7 _ x8 e8 _ _
      rw [e7, e8]
      exact ⟨rfl, (roX d).length - 0, rfl, 0, by omega, rfl, rfl⟩
  · cases hs
def newG : List AV → Option (List Prop × List RV × List (Option (List Seg)))
  | [.v (.s x)] => some ([((frL tagT [bytesI x]).length : Int) ≤ 70368744177664], [.ptr [.arr .u8 64 false (seedL (bytesI x)), .one (.b true true)]], [])
  | _ => none
theorem newG_ok : CallOk Tryd.prog gh4 23 (genCtr [.v] newG) := by
  refine call_gen (fn := Tryd.f23) Λ0_ok rfl glow4 rfl (by kernel_rfl) (by kernel_rfl) _ newG fun av p rvs fin hs hp hf => ?_
  unfold newG at hs
  split at hs
  · rename_i s
    simp only [Option.some.injEq, Prod.mk.injEq] at hs
    obtain ⟨rfl, rfl, rfl⟩ := hs
    have hd : ((frL tagT [bytesI s]).length : Int) ≤ 70368744177664 := hp.1
    refine ⟨[.s s], [], [], _, ⟨rfl, trivial⟩, Nat.le_of_ble_eq_true (by kernel_rfl), vcG_noloops ?_⟩
    show vcNew s _ _
    rw [vcNew_eq]
    intro x1 e1 _ x2 e2 _ _
    have hx : List.map roL (roX (.r [.l (List.take x2.toNat (List.drop 0 x1))])) = [bytesI s] := by
      rw [List.drop_zero, e1, e2, Int.toNat_natCast, List.take_of_length_le (by rw [bytesI_len]; exact Nat.le_refl _)]; rfl
    have ht : bytesI ⟨#[118, 101, 105, 108, 32, 116, 114, 97, 110, 115, 99, 114, 105, 112, 116]⟩ = tagT := by decide +kernel
    rw [hx, ht]
    refine ⟨need_of (by rw [e1, e2, bytesI_len]; omega), need_of hd, ?_⟩
    intro x3 e3 _ x4 e4 _ _
    rw [← e3] at e4 hd
    have hj : roJ (.r [.l (List.take x4.toNat (List.drop 0 x3))]) = x3 := by
      rw [sha_one, roL_l, List.drop_zero, e4, Int.toNat_natCast, List.take_of_length_le (Nat.le_refl _)]
    rw [hj]
    refine ⟨need_of (by omega), need_of (by omega), ?_⟩
    intro x5 e5 _ _
    rw [e3] at e5
    refine ⟨⟨⟨⟨rfl, rfl, e5⟩, ⟨rfl, rfl⟩, trivial⟩, trivial⟩, trivial⟩
  · cases hs
def livesG : List AV → Option (List Prop × List RV × List (Option (List Seg)))
  | [.m [.arr .u8 64 _ st, .one (.b _ b)]] => some ([], [.v (.b false b)], [some [.arr .u8 64 false st, .one (.b false b)]])
  | _ => none
theorem livesG_ok : CallOk Tryd.prog gh4 44 (genCtr [.m] livesG) := by
  refine call_gen (fn := Tryd.f44) Λ0_ok rfl glow4 rfl (by kernel_rfl) (by kernel_rfl) _ livesG fun av p rvs fin hs hp hf => ?_
  unfold livesG at hs
  split at hs
  · rename_i e1 st e2 b
    simp only [Option.some.injEq, Prod.mk.injEq] at hs
    obtain ⟨rfl, rfl, rfl⟩ := hs
    refine ⟨[.p 600 0], [(600, .segs false [.arr .u8 64 false st, .one (.b false b)])], [], _, ⟨rfl, rfl, ⟨_, rfl, ⟨⟨rfl, rfl, rfl⟩, ⟨rfl, rfl⟩, trivial⟩⟩, trivial⟩, Nat.le_of_ble_eq_true (by kernel_rfl), vcG_noloops ?_⟩
    show vcLives st b _ _
    rw [vcLives_eq]
    exact ⟨⟨rfl, trivial⟩, ⟨⟨⟨rfl, rfl, rfl⟩, ⟨rfl, rfl⟩, trivial⟩, trivial⟩⟩
  · cases hs
def Λ1 : Tab := ⟨tys, (44, genCtr [.m] livesG) :: (23, genCtr [.v] newG) :: (22, genCtr [.v, .d (.l (.ints .u8))] frG) :: Λ0.ctr, [3, 0, 4, 2], gh4⟩
theorem Λ1_ok : TabOk Tryd.prog Λ1 := ((Λ0_ok.cons rfrG_ok).cons newG_ok).cons livesG_ok
end Go.Gx

/- A transcript's state. -/
namespace Go.Sp
open Go.Gx
def stateL (b : Bool) (st : List Int) : List Int := if b = true then st else List.replicate 64 0
end Go.Sp
namespace Go.Gx
open Go.Proofs Go.Sp
set_option linter.unusedVariables false
set_option maxRecDepth 100000

def vcState (st : List Int) (b : Bool) (K : List RV → List (Option (List Seg)) → Prop) (Q : Nat → List Pv → Prop) : Prop := fnVcG 1 Λ1 Tryd.f24 [] [.p 600 0] (gh4 ++ (490, .world) :: [(600, .segs false [.arr .u8 64 false st, .one (.b false b)])]) K Q
def vcLivesN (K : List RV → List (Option (List Seg)) → Prop) (Q : Nat → List Pv → Prop) : Prop := fnVcG 0 Λ0 Tryd.f44 [] [.np] (gh4 ++ (490, .world) :: []) K Q
theorem vcState_eq : ∀ (st : List Int) (b : Bool) (K : List RV → List (Option (List Seg)) → Prop) (Q : Nat → List Pv → Prop), vcState st b K Q = ∀ (x1 : List Int), x1 = st → x1.length = (64 : Nat) → AllR IntKind.u8 x1 → ∀ (x2 : Bool), x2 = b → ((!x2) = true → K [RV.v (SV.arr IntKind.u8 (64 : Nat) true [(0 : Int), (0 : Int), (0 : Int), (0 : Int), (0 : Int), (0 : Int), (0 : Int), (0 : Int), (0 : Int), (0 : Int), (0 : Int), (0 : Int), (0 : Int), (0 : Int), (0 : Int), (0 : Int), (0 : Int), (0 : Int), (0 : Int), (0 : Int), (0 : Int), (0 : Int), (0 : Int), (0 : Int), (0 : Int), (0 : Int), (0 : Int), (0 : Int), (0 : Int), (0 : Int), (0 : Int), (0 : Int), (0 : Int), (0 : Int), (0 : Int), (0 : Int), (0 : Int), (0 : Int), (0 : Int), (0 : Int), (0 : Int), (0 : Int), (0 : Int), (0 : Int), (0 : Int), (0 : Int), (0 : Int), (0 : Int), (0 : Int), (0 : Int), (0 : Int), (0 : Int), (0 : Int), (0 : Int), (0 : Int), (0 : Int), (0 : Int), (0 : Int), (0 : Int), (0 : Int), (0 : Int), (0 : Int), (0 : Int), (0 : Int)])] [some [Seg.arr IntKind.u8 (64 : Nat) false x1, Seg.one (SV.b false b)]]) ∧ ((!x2) = false → K [RV.v (SV.arr IntKind.u8 (64 : Nat) false x1)] [some [Seg.arr IntKind.u8 (64 : Nat) false x1, Seg.one (SV.b false b)]]) := by
  intros
  kernel_rfl
theorem vcLivesN_eq : ∀ (K : List RV → List (Option (List Seg)) → Prop) (Q : Nat → List Pv → Prop), vcLivesN K Q = K [RV.v (SV.b true false)] [] := by
  intros
  kernel_rfl

def stG : List AV → Option (List Prop × List RV × List (Option (List Seg)))
  | [.m [.arr .u8 64 _ st, .one (.b _ b)]] => some ([], [.v (.arr .u8 64 false (stateL b st))], [some [.arr .u8 64 false st, .one (.b false b)]])
  | _ => none
theorem stG_ok : CallOk Tryd.prog gh4 24 (genCtr [.m] stG) := by
  refine call_gen (fn := Tryd.f24) Λ1_ok rfl glow4 rfl (by kernel_rfl) (by kernel_rfl) _ stG fun av p rvs fin hs hp hf => ?_
  unfold stG at hs
  split at hs
  · rename_i e1 st e2 b
    simp only [Option.some.injEq, Prod.mk.injEq] at hs
    obtain ⟨rfl, rfl, rfl⟩ := hs
    refine ⟨[.p 600 0], [(600, .segs false [.arr .u8 64 false st, .one (.b false b)])], [], _, ⟨rfl, rfl, ⟨_, rfl, ⟨⟨rfl, rfl, rfl⟩, ⟨rfl, rfl⟩, trivial⟩⟩, trivial⟩, Nat.le_of_ble_eq_true (by kernel_rfl), vcG_noloops ?_⟩
    show vcState st b _ _
    rw [vcState_eq]
    intro x1 e1 _ _ x2 e2
    subst e1; subst e2
    refine ⟨fun h => ?_, fun h => ?_⟩
    · have h : x2 = false := by simpa using h
      subst h
      exact ⟨⟨rfl, trivial⟩, ⟨⟨⟨rfl, rfl, rfl⟩, ⟨rfl, rfl⟩, trivial⟩, trivial⟩⟩
    · have h : x2 = true := by simpa using h
      subst h
      exact ⟨⟨rfl, trivial⟩, ⟨⟨⟨rfl, rfl, rfl⟩, ⟨rfl, rfl⟩, trivial⟩, trivial⟩⟩
  · cases hs
def Λ2 : Tab := ⟨tys, (24, genCtr [.m] stG) :: Λ1.ctr, [3, 0, 4, 2], gh4⟩
theorem Λ2_ok : TabOk Tryd.prog Λ2 := Λ1_ok.cons stG_ok
end Go.Gx
