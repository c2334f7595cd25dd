/- Part 6 of the proof: the evaluator of the code, its soundness, and what it shows of the functions. -/
import Derived.Test.YtihihilhfijloaaDoorM5

/- The keyed hash. -/
namespace Go.Sp
open Go.Gx
/-- A key of one block. -/
def padK (k : List Int) : List Int := splice (List.replicate 128 0) 0 (List.take 128 k)
def padL (k : List Int) : List Int := if 128 < k.length then padK (sha k) else padK k
def xoL (c : Int) (l : List Int) : List Int := l.map (fun x => xorI .u8 x c)
/-- The keyed hash of bytes. -/
def macL (k b : List Int) : List Int := sha (xoL 92 (padL k) ++ sha (xoL 54 (padL k) ++ b))
end Go.Sp
namespace Go.Gx
open Go.Proofs Go.Sp
set_option linter.unusedVariables false
set_option maxRecDepth 100000

def L30 : Loops := [(8, ⟨[.any, .ro 490 (.l (.ints .u8)) (.r []), .any, .any, .p 1000 0, .p 1001 0, .p 1002 0] ++ reps .any 17 ++ [.i .i64 ⟨false, 0⟩] ++ reps .any 33, gh ++ [(490, .world), (1000, .segs false [.arr .u8 64 false []]), (1001, .segs false [.arr .u8 128 false []]), (1002, .segs false [.arr .u8 128 false []])], 2000⟩),
  (16, ⟨[.any, .any, .any, .any, .p 1000 0, .any, .p 1001 0, .any, .any, .p 1002 0] ++ reps .any 32 ++ [.ro 490 (.l (.ints .u8)) (.r []), .i .i64 ⟨false, 0⟩, .i .i64 ⟨false, 0⟩] ++ reps .any 13, gh ++ [(490, .world), (1000, .segs false [.arr .u8 64 false []]), (1001, .segs false [.arr .u8 128 false []]), (1002, .segs false (R23 [] [] 0 false))], 2000⟩)]
def vc30 (k d : RO) (K : List RV → List (Option (List Seg)) → Prop) (Q : Nat → List Pv → Prop) : Prop := fnVcG 0 Γ11 Tryd.f30 L30 [.ro 490 (.ints .u8) k, .ro 490 (.l (.ints .u8)) d] (gh ++ (490, .world) :: []) K Q
def lc30a (d : RO) (i : Int) (g z a b : List Int) (K : List RV → List (Option (List Seg)) → Prop) (Q : Nat → List Pv → Prop) : Prop := loopVcG 0 Γ11 Tryd.f30 L30 8 [.ro d, .z i, .l g, .l z, .l a, .l b] K Q
def lc30b (d : RO) (n i : Int) (g z b ws bl : List Int) (c : Int) (m : Bool) (K : List RV → List (Option (List Seg)) → Prop) (Q : Nat → List Pv → Prop) : Prop := loopVcG 0 Γ11 Tryd.f30 L30 16 [.ro d, .z n, .z i, .l g, .l z, .l b, .l ws, .l bl, .z c, .b m] K Q
theorem vc30_eq : ∀ (k d : RO) (K : List RV → List (Option (List Seg)) → Prop) (Q : Nat → List Pv → Prop), vc30 k d K Q = ((decide (((roL k).length : Int) > (128 : Int)) = true → Need (((roJ (RO.r [k])).length : Int) ≤ (1152921504606846976 : Int)) ∧ ∀ (x1 : List Int), x1 = sha (roJ (RO.r [k])) → x1.length = (64 : Nat) → AllR IntKind.u8 x1 → Need ((128 : Int) ≤ (128 : Int)) ∧ ∀ (x2 : List Int), x2 = splice (List.replicate (128 : Nat) (0 : Int)) (0 : Nat) (List.take (128 : Nat) (List.take (64 : Nat) (List.drop (0 : Nat) x1))) → x2.length = (128 : Nat) → AllR IntKind.u8 x2 → ∀ (x3 : Int), x3 = min ↑(List.take (64 : Nat) (List.drop (0 : Nat) x1)).length (128 : Int) → InR IntKind.i64 x3 → Same Tryd.f30 (8 : Nat) (itemsOf Tryd.f30 (8 : Nat)) ∧ Q (8 : Nat) [Pv.ro d, Pv.z (0 : Int), Pv.l K80, Pv.l (List.replicate (64 : Nat) (0 : Int)), Pv.l x2, Pv.l x2]) ∧ (decide (((roL k).length : Int) > (128 : Int)) = false → Need ((128 : Int) ≤ (128 : Int)) ∧ ∀ (x4 : List Int), x4 = splice (List.replicate (128 : Nat) (0 : Int)) (0 : Nat) (List.take (128 : Nat) (roL k)) → x4.length = (128 : Nat) → AllR IntKind.u8 x4 → ∀ (x5 : Int), x5 = min ((roL k).length : Int) (128 : Int) → InR IntKind.i64 x5 → Same Tryd.f30 (8 : Nat) (itemsOf Tryd.f30 (8 : Nat)) ∧ Q (8 : Nat) [Pv.ro d, Pv.z (0 : Int), Pv.l K80, Pv.l (List.replicate (64 : Nat) (0 : Int)), Pv.l x4, Pv.l x4])) := by
  intros
  kernel_rfl
theorem lc30a_eq : ∀ (d : RO) (i : Int) (g z a b : List Int) (K : List RV → List (Option (List Seg)) → Prop) (Q : Nat → List Pv → Prop), lc30a d i g z a b K Q = ((decide (i < (128 : Int)) = true → Need ((0 : Int) ≤ i ∧ i < (128 : Int)) ∧ Need ((0 : Int) ≤ i ∧ i < (128 : Int)) ∧ ∀ (x1 : Int), x1 = a.getD i.toNat (0 : Int) → InR IntKind.u8 x1 → ∀ (x2 : Int), x2 = xorI IntKind.u8 x1 (54 : Int) → InR IntKind.u8 x2 → Need ((0 : Int) ≤ i ∧ i < (128 : Int)) ∧ Need ((0 : Int) ≤ i ∧ i < (128 : Int)) ∧ ∀ (x3 : List Int), x3 = a.set i.toNat x2 → x3.length = (128 : Nat) → AllR IntKind.u8 x3 → Need ((0 : Int) ≤ i ∧ i < (128 : Int)) ∧ Need ((0 : Int) ≤ i ∧ i < (128 : Int)) ∧ ∀ (x4 : Int), x4 = b.getD i.toNat (0 : Int) → InR IntKind.u8 x4 → ∀ (x5 : Int), x5 = xorI IntKind.u8 x4 (92 : Int) → InR IntKind.u8 x5 → Need ((0 : Int) ≤ i ∧ i < (128 : Int)) ∧ Need ((0 : Int) ≤ i ∧ i < (128 : Int)) ∧ ∀ (x6 : List Int), x6 = b.set i.toNat x5 → x6.length = (128 : Nat) → AllR IntKind.u8 x6 → ∀ (x7 : Int), x7 = IntKind.i64.wrap (i + (1 : Int)) → InR IntKind.i64 x7 → Same Tryd.f30 (8 : Nat) (itemsOf Tryd.f30 (8 : Nat)) ∧ Q (8 : Nat) [Pv.ro d, Pv.z x7, Pv.l g, Pv.l z, Pv.l x3, Pv.l x6]) ∧ (decide (i < (128 : Int)) = false → ∀ (x8 : Int), x8 = (7640891576956012808 : Int) → InR IntKind.u64 x8 → ∀ (x9 : Int), x9 = (13503953896175478587 : Int) → InR IntKind.u64 x9 → ∀ (x10 : Int), x10 = (4354685564936845355 : Int) → InR IntKind.u64 x10 → ∀ (x11 : Int), x11 = (11912009170470909681 : Int) → InR IntKind.u64 x11 → ∀ (x12 : Int), x12 = (5840696475078001361 : Int) → InR IntKind.u64 x12 → ∀ (x13 : Int), x13 = (11170449401992604703 : Int) → InR IntKind.u64 x13 → ∀ (x14 : Int), x14 = (2270897969802886507 : Int) → InR IntKind.u64 x14 → ∀ (x15 : Int), x15 = (6620516959819538809 : Int) → InR IntKind.u64 x15 → ∀ (x16 : List Int), x16 = List.replicate (128 : Nat) (0 : Int) → x16.length = (128 : Nat) → AllR IntKind.u8 x16 → Need (true = true → (0 : Int) ≤ (0 : Int) ∧ (0 : Int) ≤ (1152921504606846976 : Int)) ∧ ∀ (x17 : List Int), x17 = (wr true { ws := [x8, x9, x10, x11, x12, x13, x14, x15], bl := x16, n := (0 : Int) } (roL (RO.l (List.take (128 : Nat) (List.drop (0 : Nat) a))))).ws → x17.length = (8 : Nat) → AllR IntKind.u64 x17 → ∀ (x18 : List Int), x18 = (wr true { ws := [x8, x9, x10, x11, x12, x13, x14, x15], bl := x16, n := (0 : Int) } (roL (RO.l (List.take (128 : Nat) (List.drop (0 : Nat) a))))).bl → x18.length = (128 : Nat) → AllR IntKind.u8 x18 → ∀ (x19 : Int), x19 = (wr true { ws := [x8, x9, x10, x11, x12, x13, x14, x15], bl := x16, n := (0 : Int) } (roL (RO.l (List.take (128 : Nat) (List.drop (0 : Nat) a))))).n → InR IntKind.i64 x19 → Same Tryd.f30 (16 : Nat) (itemsOf Tryd.f30 (16 : Nat)) ∧ Q (16 : Nat) [Pv.ro d, Pv.z ((roX d).length : Int), Pv.z (0 : Int), Pv.l g, Pv.l z, Pv.l b, Pv.l x17, Pv.l x18, Pv.z x19, Pv.b true])) := by
  intros
  kernel_rfl
theorem lc30b_eq : ∀ (d : RO) (n i : Int) (g z b ws bl : List Int) (c : Int) (m : Bool) (K : List RV → List (Option (List Seg)) → Prop) (Q : Nat → List Pv → Prop), lc30b d n i g z b ws bl c m K Q = ((decide (i < n) = true → Need ((0 : Int) ≤ i ∧ i < ((roX d).length : Int)) ∧ Need (m = true → (0 : Int) ≤ c ∧ c ≤ (1152921504606846976 : Int)) ∧ ∀ (x1 : List Int), x1 = (wr m { ws := ws, bl := bl, n := c } (roL (roN d i.toNat))).ws → x1.length = (8 : Nat) → AllR IntKind.u64 x1 → ∀ (x2 : List Int), x2 = (wr m { ws := ws, bl := bl, n := c } (roL (roN d i.toNat))).bl → x2.length = (128 : Nat) → AllR IntKind.u8 x2 → ∀ (x3 : Int), x3 = (wr m { ws := ws, bl := bl, n := c } (roL (roN d i.toNat))).n → InR IntKind.i64 x3 → ∀ (x4 : Int), x4 = IntKind.i64.wrap (i + (1 : Int)) → InR IntKind.i64 x4 → Same Tryd.f30 (16 : Nat) (itemsOf Tryd.f30 (16 : Nat)) ∧ Q (16 : Nat) [Pv.ro d, Pv.z n, Pv.z x4, Pv.l g, Pv.l z, Pv.l b, Pv.l x1, Pv.l x2, Pv.z x3, Pv.b m]) ∧ (decide (i < n) = false → Need ((0 : Int) ≤ c) ∧ ∀ (x5 : List Int), x5 = ws → x5.length = (8 : Nat) → AllR IntKind.u64 x5 → ∀ (x6 : List Int), x6 = bl → x6.length = (128 : Nat) → AllR IntKind.u8 x6 → ∀ (x7 : Int), x7 = c → InR IntKind.i64 x7 → ∀ (x8 : List Int), x8 = sumL ws bl c m → x8.length = (64 : Nat) → AllR IntKind.u8 x8 → Need (↑(roJ (RO.r [RO.l (List.take (128 : Nat) (List.drop (0 : Nat) b)), RO.l (List.take (64 : Nat) (List.drop (0 : Nat) x8))])).length ≤ (1152921504606846976 : Int)) ∧ ∀ (x9 : List Int), x9 = sha (roJ (RO.r [RO.l (List.take (128 : Nat) (List.drop (0 : Nat) b)), RO.l (List.take (64 : Nat) (List.drop (0 : Nat) x8))])) → x9.length = (64 : Nat) → AllR IntKind.u8 x9 → K [RV.v (SV.arr IntKind.u8 (64 : Nat) false x9)] [])) := by
  intros
  kernel_rfl

theorem part_get (f : Int → Int) (p : List Int) (i : Nat) (h : i < p.length) : ((p.take i).map f ++ p.drop i).getD i 0 = p.getD i 0 := by
  have h1 : ((p.take i).map f).length = i := by rw [List.length_map, List.length_take]; omega
  rw [List.getD_eq_getElem?_getD, List.getD_eq_getElem?_getD, List.getElem?_append_right (by omega), h1, Nat.sub_self, List.getElem?_drop]
  rfl
theorem part_set (f : Int → Int) (p : List Int) (i : Nat) (h : i < p.length) : ((p.take i).map f ++ p.drop i).set i (f (p.getD i 0)) = (p.take (i + 1)).map f ++ p.drop (i + 1) := by
  have h1 : ((p.take i).map f).length = i := by rw [List.length_map, List.length_take]; omega
  rw [List.set_append_right _ _ (by omega), h1, Nat.sub_self, List.drop_eq_getElem_cons h, List.set_cons_zero, List.take_add_one, List.getElem?_eq_getElem h, List.map_append, List.append_assoc]
  simp [List.getD, h]
theorem padL_len (k : List Int) : (padL k).length = 128 := by
  unfold padL
  split
  all_goals
    unfold padK splice
    simp only [List.take_zero, List.nil_append, Nat.zero_add, List.length_append, List.length_take, List.length_drop, List.length_replicate]
    omega
theorem sha_one (d : RO) : roJ (.r [d]) = roL d := by
  simp only [roJ_r, List.map_cons, List.map_nil, List.flatten_cons, List.flatten_nil, List.append_nil]
theorem sha_pair (a b : List Int) : roJ (.r [.l a, .l b]) = a ++ b := by
  simp only [roJ_r, List.map_cons, List.map_nil, List.flatten_cons, List.flatten_nil, List.append_nil, roL_l]
def macF (p : List Int) (d : RO) (j : Nat) : HS := feed (xoL 54 p ++ (((roX d).take j).map roL).flatten) st0
theorem macF_n (p : List Int) (d : RO) (j : Nat) (hp : p.length = 128) : (macF p d j).n = 128 + (((((roX d).take j).map roL).flatten).length : Int) := by
  unfold macF
  rw [feed_st0, List.length_append]
  unfold xoL
  rw [List.length_map, hp]; push_cast; rfl
def inv30 (p : List Int) (d : RO) (key : Nat) (ps : List Pv) (mm : Nat) : Prop :=
  (key = 8 ∧ ∃ i : Nat, i ≤ 128 ∧ ps = [.ro d, .z (i : Int), .l K80, .l (List.replicate 64 0), .l ((p.take i).map (fun x => xorI .u8 x 54) ++ p.drop i), .l ((p.take i).map (fun x => xorI .u8 x 92) ++ p.drop i)] ∧ mm = (roX d).length + 1 + (128 - i)) ∨
  (key = 16 ∧ ∃ j : Nat, j ≤ (roX d).length ∧ ps = [.ro d, .z ((roX d).length : Int), .z (j : Int), .l K80, .l (List.replicate 64 0), .l (xoL 92 p), .l (macF p d j).ws, .l (macF p d j).bl, .z (macF p d j).n, .b true] ∧ mm = (roX d).length - j)
def macG : List AV → Option (List Prop × List RV × List (Option (List Seg)))
  | [.d (.ints .u8) k, .d (.l (.ints .u8)) d] => some ([((roL k).length : Int) ≤ 1152921504606846976, ((roJ d).length : Int) + 128 ≤ 1152921504606846976], [.v (.arr .u8 64 false (macL (roL k) (roJ d)))], [])
  | _ => none
theorem macG_ok : CallOk Tryd.prog gh 30 (genCtr [.d (.ints .u8), .d (.l (.ints .u8))] macG) := by
  refine call_gen (fn := Tryd.f30) Γ11_ok rfl glow rfl (by kernel_rfl) (by kernel_rfl) _ macG fun av p rvs fin hs hp hf => ?_
  unfold macG at hs
  split at hs
  · rename_i k d
    simp only [Option.some.injEq, Prod.mk.injEq] at hs
    obtain ⟨rfl, rfl, rfl⟩ := hs
    have hk : ((roL k).length : Int) ≤ 1152921504606846976 := hp.1
    have hd : ((roJ d).length : Int) + 128 ≤ 1152921504606846976 := hp.2.1
    obtain ⟨_, ⟨_, hlen⟩, _⟩ := hf
    obtain ⟨p, hpp⟩ : ∃ p, padL (roL k) = p := ⟨_, rfl⟩
    have hpl : p.length = 128 := hpp ▸ padL_len (roL k)
    refine ⟨[.ro 490 (.ints .u8) k, .ro 490 (.l (.ints .u8)) d], [], L30, inv30 p d, ⟨rfl, rfl, trivial⟩, Nat.le_of_ble_eq_true (by kernel_rfl), ?_, ?_, ?_⟩
    · intro kk t ht g hg
      have hg : g ∈ [0, 2, 490] := hg
      simp only [List.mem_cons, List.not_mem_nil, or_false] at hg
      simp only [L30, List.mem_cons, List.not_mem_nil, or_false, Prod.mk.injEq] at ht
      obtain ⟨rfl, rfl⟩ | ⟨rfl, rfl⟩ := ht <;> rcases hg with rfl | rfl | rfl <;> exact ⟨by omega, rfl⟩
    · rintro vk t ps mm ht (⟨rfl, i, hi, rfl, rfl⟩ | ⟨rfl, j, hj, rfl, rfl⟩)
      all_goals simp only [L30, List.mem_cons, List.not_mem_nil, or_false, Prod.mk.injEq, Nat.reduceEqDiff, false_and, true_and, false_or, or_false] at ht
      · subst ht
        show lc30a d (i : Int) K80 (List.replicate 64 0) ((p.take i).map (fun x => xorI .u8 x 54) ++ p.drop i) ((p.take i).map (fun x => xorI .u8 x 92) ++ p.drop i) _ _
        rw [lc30a_eq]
        refine ⟨fun hlt => ?_, fun hge => ?_⟩
        · have hlt := of_decide_eq_true hlt
          have g1 := part_get (fun x => xorI .u8 x 54) p i (by omega)
          have s1 := part_set (fun x => xorI .u8 x 54) p i (by omega)
          have g2 := part_get (fun x => xorI .u8 x 92) p i (by omega)
          have s2 := part_set (fun x => xorI .u8 x 92) p i (by omega)
          rw [Int.toNat_natCast, g1, g2]
          refine ⟨need_of (by omega), need_of (by omega), ?_⟩
          intro x1 e1 _ x2 e2 _
          refine ⟨need_of (by omega), need_of (by omega), ?_⟩
          intro x3 e3 _ _
          refine ⟨need_of (by omega), need_of (by omega), ?_⟩
          intro x4 e4 _ x5 e5 _
          refine ⟨need_of (by omega), need_of (by omega), ?_⟩
          intro x6 e6 _ _ x7 e7 _
          rw [wrap_i64 (by omega)] at e7
          rw [e2, e1, s1] at e3
          rw [e5, e4, s2] at e6
          refine ⟨rfl, (roX d).length + 1 + (128 - (i + 1)), by omega, Or.inl ⟨rfl, i + 1, by omega, ?_, rfl⟩⟩
          rw [e3, e6, e7]
          rfl
        · have hge := of_decide_eq_false hge
          obtain rfl : i = 128 := by omega
          have hA : ∀ f : Int → Int, (p.take 128).map f ++ p.drop 128 = p.map f := fun f => by rw [List.take_of_length_le (by omega), List.drop_of_length_le (by omega), List.append_nil]
          rw [hA, hA]
          intro x8 e8 _ x9 e9 _ x10 e10 _ x11 e11 _ x12 e12 _ x13 e13 _ x14 e14 _ x15 e15 _ x16 e16 _ _
          subst e8; subst e9; subst e10; subst e11; subst e12; subst e13; subst e14; subst e15; subst e16
          refine ⟨need_of (fun _ => by omega), ?_⟩
          have hx : (xoL 54 p).length = 128 := by unfold xoL; rw [List.length_map, hpl]
          have hw : wr true ⟨[7640891576956012808, 13503953896175478587, 4354685564936845355, 11912009170470909681, 5840696475078001361, 11170449401992604703, 2270897969802886507, 6620516959819538809], List.replicate 128 0, 0⟩ (roL (.l (((p.map (fun x => xorI .u8 x 54)).drop 0).take 128))) = macF p d 0 := by
            rw [List.drop_zero, roL_l, List.take_of_length_le (by rw [List.length_map, hpl]; omega)]
            unfold wr macF
            rw [if_pos ⟨rfl, by dsimp only; rw [List.length_map, hpl]; omega⟩, List.take_zero, List.map_nil, List.flatten_nil, List.append_nil]
            rfl
          rw [hw]
          intro x17 e17 _ _ x18 e18 _ _ x19 e19 _
          subst e17; subst e18; subst e19
          exact ⟨rfl, (roX d).length - 0, by omega, Or.inr ⟨rfl, 0, by omega, rfl, rfl⟩⟩
      · subst ht
        have hn := macF_n p d j hpl
        show lc30b d ((roX d).length : Int) (j : Int) K80 (List.replicate 64 0) (xoL 92 p) (macF p d j).ws (macF p d j).bl (macF p d j).n true _ _
        rw [lc30b_eq]
        refine ⟨fun hlt => ?_, fun hge => ?_⟩
        · have hlt := of_decide_eq_true hlt
          have hjl : j < (roX d).length := by omega
          have e1 := take_succ_map (roX d) j hjl
          have e2 := flat_take_le (roX d) (j + 1)
          have e3 : (((roX d).take (j + 1)).map roL).flatten.length = (((roX d).take j).map roL).flatten.length + (roL (roN d j)).length := by rw [e1, List.length_append]; rfl
          have hT : (roJ d).length = ((roX d).map roL).flatten.length := rfl
          have hw : wr true (macF p d j) (roL (roN d (j : Int).toNat)) = macF p d (j + 1) := by
            unfold wr
            rw [Int.toNat_natCast, if_pos ⟨rfl, by rw [hn]; omega⟩]
            unfold macF
            rw [e1, ← List.append_assoc, feed_append _ (roL ((roX d).getD j (RO.r [])))]; rfl
          refine ⟨need_of (by omega), need_of (fun _ => by rw [hn]; omega), ?_⟩
          rw [show (HS.mk (macF p d j).ws (macF p d j).bl (macF p d j).n) = macF p d j from rfl, hw]
          intro x1 e1 _ _ x2 e2 _ _ x3 e3 _ x4 e4 _
          subst e1; subst e2; subst e3
          rw [wrap_i64 (by omega)] at e4
          subst e4
          exact ⟨rfl, (roX d).length - (j + 1), by omega, Or.inr ⟨rfl, j + 1, by omega, rfl, rfl⟩⟩
        · have hge := of_decide_eq_false hge
          obtain rfl : j = (roX d).length := by omega
          have hb : (xoL 92 p).length = 128 := by unfold xoL; rw [List.length_map, hpl]
          refine ⟨need_of (by rw [hn]; omega), ?_⟩
          intro x5 e5 _ _ x6 e6 _ _ x7 e7 _ x8 e8 h8 _
          rw [List.drop_zero, List.drop_zero, List.take_of_length_le (l := xoL 92 p) (by omega), List.take_of_length_le (l := x8) (by omega), sha_pair]
          refine ⟨need_of (by rw [List.length_append]; omega), ?_⟩
          intro x9 e9 _ _
          refine ⟨⟨?_, trivial⟩, trivial⟩
          show x9 = macL (roL k) (roJ d)
          rw [e9, e8]
          unfold macL macF
          rw [hpp, List.take_of_length_le (Nat.le_refl _)]
          rfl
    · show vc30 k d _ _
      rw [vc30_eq]
      refine ⟨fun h => ?_, fun h => ?_⟩
      · have h := of_decide_eq_true h
        rw [sha_one]
        refine ⟨need_of (by omega), ?_⟩
        intro x1 e1 h1 _
        refine ⟨need_of (by omega), ?_⟩
        intro x2 e2 _ _ x3 _ _
        refine ⟨rfl, _, Or.inl ⟨rfl, 0, by omega, ?_, rfl⟩⟩
        have hp2 : x2 = p := by
          rw [e2, List.drop_zero, List.take_of_length_le (l := x1) (by omega)]
          rw [← hpp]
          unfold padL
          rw [if_pos (by omega), e1]; rfl
        rw [hp2]; rfl
      · have h := of_decide_eq_false h
        refine ⟨need_of (by omega), ?_⟩
        intro x4 e4 _ _ x5 _ _
        refine ⟨rfl, _, Or.inl ⟨rfl, 0, by omega, ?_, rfl⟩⟩
        have hp2 : x4 = p := by
          rw [e4]
          rw [← hpp]
          unfold padL
          rw [if_neg (by omega)]; rfl
        rw [hp2]; rfl
  · cases hs
def Γ12 : Tab := ⟨tys, (30, genCtr [.d (.ints .u8), .d (.l (.ints .u8))] macG) :: Γ11.ctr, [0, 2], gh⟩
theorem Γ12_ok : TabOk Tryd.prog Γ12 := Γ11_ok.cons macG_ok
end Go.Gx

/- The stretched key. -/
namespace Go.Sp
open Go.Gx
/-- The word "stretch". -/
def strT : List Int := [115, 116, 114, 101, 116, 99, 104]
def le8 (i : Int) : List Int := [IntKind.u8.wrap (shrI .i64 i 0), IntKind.u8.wrap (shrI .i64 i 8), IntKind.u8.wrap (shrI .i64 i 16), IntKind.u8.wrap (shrI .i64 i 24), IntKind.u8.wrap (shrI .i64 i 32), IntKind.u8.wrap (shrI .i64 i 40), IntKind.u8.wrap (shrI .i64 i 48), IntKind.u8.wrap (shrI .i64 i 56)]
/-- So many blocks. -/
def strB (k : List Int) : Nat → List Int
  | 0 => []
  | j + 1 => strB k j ++ macL k (strT ++ le8 (j : Int))
/-- So many bytes. -/
def strL (k : List Int) (n : Int) : List Int := (strB k (if n ≤ 1048576 then n.toNat else 0)).take n.toNat
end Go.Sp
namespace Go.Gx
open Go.Proofs Go.Sp
set_option linter.unusedVariables false
set_option maxRecDepth 100000

theorem sumL_len (ws bl : List Int) (n : Int) (m : Bool) : (sumL ws bl n m).length = 64 := by
  unfold sumL
  split
  · simp only [outb, List.length_set, List.length_replicate]
  · simp
theorem sha_len (b : List Int) : (sha b).length = 64 := sumL_len _ _ _ _
theorem macL_len (k b : List Int) : (macL k b).length = 64 := sha_len _
theorem take64 (l : List Int) (h : l.length = 64) : (l.drop 0).take 64 = l := by
  rw [List.drop_zero, List.take_of_length_le (by omega)]
theorem strB_len (k : List Int) : ∀ j, (strB k j).length = 64 * j
  | 0 => rfl
  | j + 1 => by rw [strB, List.length_append, strB_len k j, macL_len]; omega
theorem strB_take (k : List Int) (n a : Nat) (h : n ≤ 64 * a) : ∀ b, a ≤ b → (strB k b).take n = (strB k a).take n
  | 0, hb => by obtain rfl : a = 0 := by omega
                rfl
  | b + 1, hb => by
    by_cases hab : a = b + 1
    · rw [hab]
    · have hl := strB_len k b
      rw [strB, List.take_append_of_le_length (by omega)]
      exact strB_take k n a h b (by omega)
theorem strL_len (k : List Int) (n : Int) (h0 : 0 ≤ n) (h1 : n ≤ 1048576) : ((strL k n).length : Int) = n := by
  unfold strL
  rw [if_pos h1, List.length_take, strB_len]; omega
theorem strL_pre (k : List Int) (a b : Int) (h0 : 0 ≤ a) (h1 : a ≤ b) (h2 : b ≤ 1048576) : (strL k b).take a.toNat = strL k a := by
  unfold strL
  rw [if_pos h2, if_pos (by omega), List.take_take, show min a.toNat b.toNat = a.toNat by omega]
  exact strB_take k a.toNat a.toNat (by omega) b.toNat (by omega)
def L33 : Loops := [(5, ⟨[.ro 490 (.ints .u8) (.l []), .i .i64 ⟨false, 0⟩, .any, .any, .nsl, .nsl, .i .i64 ⟨false, 0⟩] ++ reps .any 39, gh ++ [(490, .world)], 2000⟩),
  (1005, ⟨[.ro 490 (.ints .u8) (.l []), .i .i64 ⟨false, 0⟩, .any, .any, .nsl, .sl 1001 0 1 ⟨true, 0⟩ ⟨false, 0⟩, .i .i64 ⟨false, 0⟩] ++ reps .any 39, gh ++ [(490, .world), (1001, .segs false [.rowI .u8 []])], 2000⟩)]
def vc33 (k : RO) (n : Int) (K : List RV → List (Option (List Seg)) → Prop) (Q : Nat → List Pv → Prop) : Prop := fnVcG 0 Γ12 Tryd.f33 L33 [.ro 490 (.ints .u8) k, .i .i64 ⟨false, n⟩] (gh ++ (490, .world) :: []) K Q
def lc33a (k : RO) (n i : Int) (g : List Int) (K : List RV → List (Option (List Seg)) → Prop) (Q : Nat → List Pv → Prop) : Prop := loopVcG 0 Γ12 Tryd.f33 L33 5 [.ro k, .z n, .z i, .l g] K Q
def lc33b (k : RO) (n z i : Int) (g l : List Int) (K : List RV → List (Option (List Seg)) → Prop) (Q : Nat → List Pv → Prop) : Prop := loopVcG 0 Γ12 Tryd.f33 L33 1005 [.ro k, .z n, .z z, .z i, .l g, .l l] K Q
theorem vc33_eq : ∀ (k : RO) (n : Int) (K : List RV → List (Option (List Seg)) → Prop) (Q : Nat → List Pv → Prop), vc33 k n K Q = ((decide (n < (0 : Int)) = true → K [RV.v SV.nsl] []) ∧ (decide (n < (0 : Int)) = false → (decide (n > (1048576 : Int)) = true → K [RV.v SV.nsl] []) ∧ (decide (n > (1048576 : Int)) = false → Same Tryd.f33 (5 : Nat) (itemsOf Tryd.f33 (5 : Nat)) ∧ Q (5 : Nat) [Pv.ro k, Pv.z n, Pv.z (0 : Int), Pv.l K80]))) := by
  intros
  kernel_rfl
theorem lc33a_eq : ∀ (k : RO) (n i : Int) (g : List Int) (K : List RV → List (Option (List Seg)) → Prop) (Q : Nat → List Pv → Prop), lc33a k n i g K Q = ((decide ((0 : Int) < n) = true → ∀ (x1 : Int), x1 = shrI IntKind.i64 i (0 : Int) → InR IntKind.i64 x1 → ∀ (x2 : Int), x2 = IntKind.u8.wrap x1 → InR IntKind.u8 x2 → ∀ (x3 : Int), x3 = shrI IntKind.i64 i (8 : Int) → InR IntKind.i64 x3 → ∀ (x4 : Int), x4 = IntKind.u8.wrap x3 → InR IntKind.u8 x4 → ∀ (x5 : Int), x5 = shrI IntKind.i64 i (16 : Int) → InR IntKind.i64 x5 → ∀ (x6 : Int), x6 = IntKind.u8.wrap x5 → InR IntKind.u8 x6 → ∀ (x7 : Int), x7 = shrI IntKind.i64 i (24 : Int) → InR IntKind.i64 x7 → ∀ (x8 : Int), x8 = IntKind.u8.wrap x7 → InR IntKind.u8 x8 → ∀ (x9 : Int), x9 = shrI IntKind.i64 i (32 : Int) → InR IntKind.i64 x9 → ∀ (x10 : Int), x10 = IntKind.u8.wrap x9 → InR IntKind.u8 x10 → ∀ (x11 : Int), x11 = shrI IntKind.i64 i (40 : Int) → InR IntKind.i64 x11 → ∀ (x12 : Int), x12 = IntKind.u8.wrap x11 → InR IntKind.u8 x12 → ∀ (x13 : Int), x13 = shrI IntKind.i64 i (48 : Int) → InR IntKind.i64 x13 → ∀ (x14 : Int), x14 = IntKind.u8.wrap x13 → InR IntKind.u8 x14 → ∀ (x15 : Int), x15 = shrI IntKind.i64 i (56 : Int) → InR IntKind.i64 x15 → ∀ (x16 : Int), x16 = IntKind.u8.wrap x15 → InR IntKind.u8 x16 → Need ((7 : Int) ≤ (7 : Int)) ∧ Need (((roL k).length : Int) ≤ (1152921504606846976 : Int)) ∧ Need (↑(roJ (RO.r [RO.l (List.take (7 : Nat) (List.drop (0 : Nat) [(115 : Int), (116 : Int), (114 : Int), (101 : Int), (116 : Int), (99 : Int), (104 : Int)])), RO.l (List.take (8 : Nat) (List.drop (0 : Nat) [x2, x4, x6, x8, x10, x12, x14, x16]))])).length + (128 : Int) ≤ (1152921504606846976 : Int)) ∧ ∀ (x17 : List Int), x17 = macL (roL k) (roJ (RO.r [RO.l (List.take (7 : Nat) (List.drop (0 : Nat) [(115 : Int), (116 : Int), (114 : Int), (101 : Int), (116 : Int), (99 : Int), (104 : Int)])), RO.l (List.take (8 : Nat) (List.drop (0 : Nat) [x2, x4, x6, x8, x10, x12, x14, x16]))])) → x17.length = (64 : Nat) → AllR IntKind.u8 x17 → Need (↑([] ++ List.take (64 : Nat) (List.drop (0 : Nat) x17)).length * (1 : Int) ≤ (70368744177664 : Int)) ∧ ∀ (x18 : List Int), x18 = [] ++ List.take (64 : Nat) (List.drop (0 : Nat) x17) → AllR IntKind.u8 x18 → ∀ (x19 : Int), x19 = ↑([] ++ List.take (64 : Nat) (List.drop (0 : Nat) x17)).length → (0 : Int) ≤ x19 → InR IntKind.i64 x19 → ∀ (x20 : Int), x20 = IntKind.i64.wrap (i + (1 : Int)) → InR IntKind.i64 x20 → Same Tryd.f33 (5 : Nat) (itemsOf Tryd.f33 (5 : Nat)) ∧ Q (1005 : Nat) [Pv.ro k, Pv.z n, Pv.z x19, Pv.z x20, Pv.l g, Pv.l x18]) ∧ (decide ((0 : Int) < n) = false → Need ((0 : Int) ≤ (0 : Int) ∧ (0 : Int) ≤ n ∧ n ≤ n ∧ n ≤ (0 : Int)) ∧ K [RV.v SV.nsl] [])) := by
  intros
  kernel_rfl
theorem lc33b_eq : ∀ (k : RO) (n z i : Int) (g l : List Int) (K : List RV → List (Option (List Seg)) → Prop) (Q : Nat → List Pv → Prop), lc33b k n z i g l K Q = ((decide (z < n) = true → ∀ (x1 : Int), x1 = shrI IntKind.i64 i (0 : Int) → InR IntKind.i64 x1 → ∀ (x2 : Int), x2 = IntKind.u8.wrap x1 → InR IntKind.u8 x2 → ∀ (x3 : Int), x3 = shrI IntKind.i64 i (8 : Int) → InR IntKind.i64 x3 → ∀ (x4 : Int), x4 = IntKind.u8.wrap x3 → InR IntKind.u8 x4 → ∀ (x5 : Int), x5 = shrI IntKind.i64 i (16 : Int) → InR IntKind.i64 x5 → ∀ (x6 : Int), x6 = IntKind.u8.wrap x5 → InR IntKind.u8 x6 → ∀ (x7 : Int), x7 = shrI IntKind.i64 i (24 : Int) → InR IntKind.i64 x7 → ∀ (x8 : Int), x8 = IntKind.u8.wrap x7 → InR IntKind.u8 x8 → ∀ (x9 : Int), x9 = shrI IntKind.i64 i (32 : Int) → InR IntKind.i64 x9 → ∀ (x10 : Int), x10 = IntKind.u8.wrap x9 → InR IntKind.u8 x10 → ∀ (x11 : Int), x11 = shrI IntKind.i64 i (40 : Int) → InR IntKind.i64 x11 → ∀ (x12 : Int), x12 = IntKind.u8.wrap x11 → InR IntKind.u8 x12 → ∀ (x13 : Int), x13 = shrI IntKind.i64 i (48 : Int) → InR IntKind.i64 x13 → ∀ (x14 : Int), x14 = IntKind.u8.wrap x13 → InR IntKind.u8 x14 → ∀ (x15 : Int), x15 = shrI IntKind.i64 i (56 : Int) → InR IntKind.i64 x15 → ∀ (x16 : Int), x16 = IntKind.u8.wrap x15 → InR IntKind.u8 x16 → Need ((7 : Int) ≤ (7 : Int)) ∧ Need (((roL k).length : Int) ≤ (1152921504606846976 : Int)) ∧ Need (↑(roJ (RO.r [RO.l (List.take (7 : Nat) (List.drop (0 : Nat) [(115 : Int), (116 : Int), (114 : Int), (101 : Int), (116 : Int), (99 : Int), (104 : Int)])), RO.l (List.take (8 : Nat) (List.drop (0 : Nat) [x2, x4, x6, x8, x10, x12, x14, x16]))])).length + (128 : Int) ≤ (1152921504606846976 : Int)) ∧ ∀ (x17 : List Int), x17 = macL (roL k) (roJ (RO.r [RO.l (List.take (7 : Nat) (List.drop (0 : Nat) [(115 : Int), (116 : Int), (114 : Int), (101 : Int), (116 : Int), (99 : Int), (104 : Int)])), RO.l (List.take (8 : Nat) (List.drop (0 : Nat) [x2, x4, x6, x8, x10, x12, x14, x16]))])) → x17.length = (64 : Nat) → AllR IntKind.u8 x17 → Need (↑(l ++ List.take (64 : Nat) (List.drop (0 : Nat) x17)).length * (1 : Int) ≤ (70368744177664 : Int)) ∧ Need (z = ↑l.length) ∧ ∀ (x18 : List Int), x18 = l ++ List.take (64 : Nat) (List.drop (0 : Nat) x17) → AllR IntKind.u8 x18 → ∀ (x19 : Int), x19 = ↑(l ++ List.take (64 : Nat) (List.drop (0 : Nat) x17)).length → (0 : Int) ≤ x19 → InR IntKind.i64 x19 → ∀ (x20 : Int), x20 = IntKind.i64.wrap (i + (1 : Int)) → InR IntKind.i64 x20 → Same Tryd.f33 (5 : Nat) (itemsOf Tryd.f33 (5 : Nat)) ∧ Q (1005 : Nat) [Pv.ro k, Pv.z n, Pv.z x19, Pv.z x20, Pv.l g, Pv.l x18]) ∧ (decide (z < n) = false → Need ((0 : Int) ≤ (0 : Int) ∧ (0 : Int) ≤ n ∧ n ≤ n ∧ n ≤ z) ∧ Need ((0 : Int) + n ≤ ↑l.length) ∧ K [RV.row (Con.ints IntKind.u8 (List.take n.toNat (List.drop (0 : Nat) l)))] [])) := by
  intros
  kernel_rfl

def inv33 (k : RO) (n : Int) (key : Nat) (ps : List Pv) (mm : Nat) : Prop :=
  0 ≤ n ∧ n ≤ 1048576 ∧ ((key = 5 ∧ ps = [.ro k, .z n, .z 0, .l K80] ∧ mm = n.toNat + 1) ∨
  (key = 1005 ∧ ∃ j : Nat, 0 < j ∧ 64 * (j : Int) < n + 64 ∧ ps = [.ro k, .z n, .z ((64 * j : Nat) : Int), .z (j : Int), .l K80, .l (strB (roL k) j)] ∧ mm = n.toNat - 64 * j))
def strG : List AV → Option (List Prop × List RV × List (Option (List Seg)))
  | [.d (.ints .u8) k, .v (.i .i64 ⟨_, n⟩)] => some ([((roL k).length : Int) ≤ 1152921504606846976], [.row (.ints .u8 (strL (roL k) n))], [])
  | _ => none
theorem strG_ok : CallOk Tryd.prog gh 33 (genCtr [.d (.ints .u8), .v] strG) := by
  refine call_gen (fn := Tryd.f33) Γ12_ok rfl glow rfl (by kernel_rfl) (by kernel_rfl) _ strG fun av p rvs fin hs hp hf => ?_
  unfold strG at hs
  split at hs
  · rename_i k st n
    simp only [Option.some.injEq, Prod.mk.injEq] at hs
    obtain ⟨rfl, rfl, rfl⟩ := hs
    have hk : ((roL k).length : Int) ≤ 1152921504606846976 := hp.1
    refine ⟨[.ro 490 (.ints .u8) k, .i .i64 ⟨false, n⟩], [], L33, inv33 k n, ?okA, Nat.le_of_ble_eq_true (by kernel_rfl), ?_, ?_, ?_⟩
    case okA => exact ⟨rfl, rfl, trivial⟩
    · intro kk t ht g hg
      have hg : g ∈ [0, 2, 490] := hg
      simp only [List.mem_cons, List.not_mem_nil, or_false] at hg
      simp only [L33, List.mem_cons, List.not_mem_nil, or_false, Prod.mk.injEq] at ht
      obtain ⟨rfl, rfl⟩ | ⟨rfl, rfl⟩ := ht <;> rcases hg with rfl | rfl | rfl <;> exact ⟨by omega, rfl⟩
    · rintro vk t ps mm ht ⟨hn0, hn1, ⟨rfl, rfl, rfl⟩ | ⟨rfl, j, hj0, hj, rfl, rfl⟩⟩
      all_goals simp only [L33, List.mem_cons, List.not_mem_nil, or_false, Prod.mk.injEq, Nat.reduceEqDiff, false_and, true_and, false_or, or_false] at ht
      · subst ht
        show lc33a k n 0 K80 _ _
        rw [lc33a_eq]
        refine ⟨fun hlt => ?_, fun hge => ?_⟩
        · have hlt := of_decide_eq_true hlt
          intro x1 e1 _ x2 e2 _ x3 e3 _ x4 e4 _ x5 e5 _ x6 e6 _ x7 e7 _ x8 e8 _ x9 e9 _ x10 e10 _ x11 e11 _ x12 e12 _ x13 e13 _ x14 e14 _ x15 e15 _ x16 e16 _
          rw [List.drop_zero, List.drop_zero, List.take_of_length_le (l := [x2, x4, x6, x8, x10, x12, x14, x16]) (by simp), show List.take 7 [(115 : Int), 116, 114, 101, 116, 99, 104] = strT from rfl, sha_pair]
          refine ⟨need_of (by omega), need_of (by omega), need_of (by simp [strT]), ?_⟩
          intro x17 e17 h17 _
          have h64 := take64 x17 h17
          rw [h64]
          have hm : x17 = macL (roL k) (strT ++ le8 (0 : Int)) := by
            rw [e17, e2, e4, e6, e8, e10, e12, e14, e16, e1, e3, e5, e7, e9, e11, e13, e15]; rfl
          have hl2 : ([] ++ x17).length = 64 * (0 + 1) := by rw [List.length_append, h17]; rfl
          refine ⟨need_of (by omega), ?_⟩
          intro x18 e18 _ x19 e19 _ _ x20 e20 _
          rw [wrap_i64 (by omega)] at e20
          rw [hl2] at e19
          rw [hm] at e18
          refine ⟨rfl, n.toNat - 64 * (0 + 1), by omega, hn0, hn1, Or.inr ⟨rfl, 0 + 1, by omega, by omega, ?_, rfl⟩⟩
          rw [e18, e19, e20]
          rfl
        · have hge := of_decide_eq_false hge
          by_cases h0 : n = 0
          · subst h0
            refine ⟨need_of (by omega), ⟨⟨rfl, ?_⟩, trivial⟩, trivial⟩
            exact fun x hx => by cases hx
          · omega
      · subst ht
        have hl := strB_len (roL k) j
        show lc33b k n ((64 * j : Nat) : Int) (j : Int) K80 (strB (roL k) j) _ _
        rw [lc33b_eq]
        refine ⟨fun hlt => ?_, fun hge => ?_⟩
        · have hlt := of_decide_eq_true hlt
          intro x1 e1 _ x2 e2 _ x3 e3 _ x4 e4 _ x5 e5 _ x6 e6 _ x7 e7 _ x8 e8 _ x9 e9 _ x10 e10 _ x11 e11 _ x12 e12 _ x13 e13 _ x14 e14 _ x15 e15 _ x16 e16 _
          rw [List.drop_zero, List.drop_zero, List.take_of_length_le (l := [x2, x4, x6, x8, x10, x12, x14, x16]) (by simp), show List.take 7 [(115 : Int), 116, 114, 101, 116, 99, 104] = strT from rfl, sha_pair]
          refine ⟨need_of (by omega), need_of (by omega), need_of (by simp [strT]), ?_⟩
          intro x17 e17 h17 _
          have h64 := take64 x17 h17
          rw [h64]
          have hm : x17 = macL (roL k) (strT ++ le8 (j : Int)) := by
            rw [e17, e2, e4, e6, e8, e10, e12, e14, e16, e1, e3, e5, e7, e9, e11, e13, e15]; rfl
          have hl2 : (strB (roL k) j ++ x17).length = 64 * (j + 1) := by rw [List.length_append, h17, hl]; omega
          refine ⟨need_of (by omega), need_of (by omega), ?_⟩
          intro x18 e18 _ x19 e19 _ _ x20 e20 _
          rw [wrap_i64 (by omega)] at e20
          rw [hl2] at e19
          rw [hm] at e18
          refine ⟨rfl, n.toNat - 64 * (j + 1), by omega, hn0, hn1, Or.inr ⟨rfl, j + 1, by omega, by omega, ?_, rfl⟩⟩
          rw [e18, e19, e20]
          rfl
        · have hge := of_decide_eq_false hge
          refine ⟨need_of (by omega), need_of (by omega), ⟨⟨rfl, ?_⟩, trivial⟩, trivial⟩
          show ((strB (roL k) j).drop 0).take n.toNat = strL (roL k) n
          unfold strL
          rw [if_pos hn1, List.drop_zero]
          have q := fun a b => strB_take (roL k) n.toNat a b
          have h1 := q j (by omega) (j + n.toNat) (by omega)
          have h2 := q n.toNat (by omega) (j + n.toNat) (by omega)
          rw [← h1, h2]
    · show vc33 k n _ _
      rw [vc33_eq]
      have hnil : n < 0 ∨ n > 1048576 → strL (roL k) n = [] := fun h => by
        unfold strL
        rcases h with h | h
        · rw [show n.toNat = 0 by omega, List.take_zero]
        · rw [if_neg (by omega), strB, List.take_nil]
      refine ⟨fun h => ⟨⟨?_, trivial⟩, trivial⟩, fun h => ⟨fun h2 => ⟨⟨?_, trivial⟩, trivial⟩, fun h2 => ⟨rfl, n.toNat + 1, ?_⟩⟩⟩
      · have h := of_decide_eq_true h
        have e := hnil (Or.inl h)
        exact ⟨by show (strL (roL k) n).length = 0; rw [e]; rfl, fun x hx => by rw [e] at hx; cases hx⟩
      · have h2 := of_decide_eq_true h2
        have e := hnil (Or.inr h2)
        exact ⟨by show (strL (roL k) n).length = 0; rw [e]; rfl, fun x hx => by rw [e] at hx; cases hx⟩
      · have h := of_decide_eq_false h
        have h2 := of_decide_eq_false h2
        exact ⟨by omega, by omega, Or.inl ⟨rfl, rfl, rfl⟩⟩
  · cases hs
def Γ13 : Tab := ⟨tys, (33, genCtr [.d (.ints .u8), .v] strG) :: Γ12.ctr, [0, 2], gh⟩
theorem Γ13_ok : TabOk Tryd.prog Γ13 := Γ12_ok.cons strG_ok
end Go.Gx

/- Parts joined. -/
namespace Go.Gx
open Go.Proofs Go.Sp
set_option linter.unusedVariables false
set_option maxRecDepth 100000

def L32 : Loops := [(3, ⟨[.ro 490 (.l (.ints .u8)) (.r []), .any, .nsl, .nsl, .i .i64 ⟨false, 0⟩] ++ reps .any 13, gh ++ [(490, .world)], 2000⟩),
  (1003, ⟨[.ro 490 (.l (.ints .u8)) (.r []), .any, .nsl, .sl 1001 0 1 ⟨true, 0⟩ ⟨false, 0⟩, .i .i64 ⟨false, 0⟩] ++ reps .any 13, gh ++ [(490, .world), (1001, .segs false [.rowI .u8 []])], 2000⟩)]
def vc32 (d : RO) (K : List RV → List (Option (List Seg)) → Prop) (Q : Nat → List Pv → Prop) : Prop := fnVcG 0 Γ13 Tryd.f32 L32 [.ro 490 (.l (.ints .u8)) d] (gh ++ (490, .world) :: []) K Q
def lc32a (d : RO) (i : Int) (g : List Int) (K : List RV → List (Option (List Seg)) → Prop) (Q : Nat → List Pv → Prop) : Prop := loopVcG 0 Γ13 Tryd.f32 L32 3 [.ro d, .z i, .l g] K Q
def lc32b (d : RO) (z i : Int) (g l : List Int) (K : List RV → List (Option (List Seg)) → Prop) (Q : Nat → List Pv → Prop) : Prop := loopVcG 0 Γ13 Tryd.f32 L32 1003 [.ro d, .z z, .z i, .l g, .l l] K Q
theorem vc32_eq : ∀ (d : RO) (K : List RV → List (Option (List Seg)) → Prop) (Q : Nat → List Pv → Prop), vc32 d K Q = (Same Tryd.f32 (3 : Nat) (itemsOf Tryd.f32 (3 : Nat)) ∧ Q (3 : Nat) [Pv.ro d, Pv.z (0 : Int), Pv.l K80]) := by
  intros
  kernel_rfl
theorem lc32a_eq : ∀ (d : RO) (i : Int) (g : List Int) (K : List RV → List (Option (List Seg)) → Prop) (Q : Nat → List Pv → Prop), lc32a d i g K Q = ((decide (i < ((roX d).length : Int)) = true → Need ((0 : Int) ≤ i ∧ i < ((roX d).length : Int)) ∧ Need ((([] ++ roL (roN d i.toNat)).length : Int) * (1 : Int) ≤ (70368744177664 : Int)) ∧ ∀ (x1 : List Int), x1 = [] ++ roL (roN d i.toNat) → AllR IntKind.u8 x1 → ∀ (x2 : Int), x2 = (([] ++ roL (roN d i.toNat)).length : Int) → (0 : Int) ≤ x2 → InR IntKind.i64 x2 → ∀ (x3 : Int), x3 = IntKind.i64.wrap (i + (1 : Int)) → InR IntKind.i64 x3 → Same Tryd.f32 (3 : Nat) (itemsOf Tryd.f32 (3 : Nat)) ∧ Q (1003 : Nat) [Pv.ro d, Pv.z x2, Pv.z x3, Pv.l g, Pv.l x1]) ∧ (decide (i < ((roX d).length : Int)) = false → K [RV.v SV.nsl] [])) := by
  intros
  kernel_rfl
theorem lc32b_eq : ∀ (d : RO) (z i : Int) (g l : List Int) (K : List RV → List (Option (List Seg)) → Prop) (Q : Nat → List Pv → Prop), lc32b d z i g l K Q = ((decide (i < ((roX d).length : Int)) = true → Need ((0 : Int) ≤ i ∧ i < ((roX d).length : Int)) ∧ Need (((l ++ roL (roN d i.toNat)).length : Int) * (1 : Int) ≤ (70368744177664 : Int)) ∧ Need (z = ↑l.length) ∧ ∀ (x1 : List Int), x1 = l ++ roL (roN d i.toNat) → AllR IntKind.u8 x1 → ∀ (x2 : Int), x2 = ((l ++ roL (roN d i.toNat)).length : Int) → (0 : Int) ≤ x2 → InR IntKind.i64 x2 → ∀ (x3 : Int), x3 = IntKind.i64.wrap (i + (1 : Int)) → InR IntKind.i64 x3 → Same Tryd.f32 (3 : Nat) (itemsOf Tryd.f32 (3 : Nat)) ∧ Q (1003 : Nat) [Pv.ro d, Pv.z x2, Pv.z x3, Pv.l g, Pv.l x1]) ∧ (decide (i < ((roX d).length : Int)) = false → Need ((0 : Int) + z ≤ ↑l.length) ∧ K [RV.row (Con.ints IntKind.u8 (List.take z.toNat (List.drop (0 : Nat) l)))] [])) := by
  intros
  kernel_rfl

def inv32 (d : RO) (key : Nat) (ps : List Pv) (mm : Nat) : Prop :=
  (key = 3 ∧ ps = [.ro d, .z 0, .l K80] ∧ mm = (roX d).length + 1) ∨
  (key = 1003 ∧ ∃ j : Nat, 0 < j ∧ j ≤ (roX d).length ∧ ps = [.ro d, .z (((((roX d).take j).map roL).flatten).length : Int), .z (j : Int), .l K80, .l ((((roX d).take j).map roL).flatten)] ∧ mm = (roX d).length - j)
def joinG : List AV → Option (List Prop × List RV × List (Option (List Seg)))
  | [.d (.l (.ints .u8)) d] => some ([((roJ d).length : Int) ≤ 70368744177664], [.row (.ints .u8 (roJ d))], [])
  | _ => none
theorem joinG_ok : CallOk Tryd.prog gh 32 (genCtr [.d (.l (.ints .u8))] joinG) := by
  refine call_gen (fn := Tryd.f32) Γ13_ok rfl glow rfl (by kernel_rfl) (by kernel_rfl) _ joinG fun av p rvs fin hs hp hf => ?_
  unfold joinG at hs
  split at hs
  · rename_i d
    simp only [Option.some.injEq, Prod.mk.injEq] at hs
    obtain ⟨rfl, rfl, rfl⟩ := hs
    have hd : ((roJ d).length : Int) ≤ 70368744177664 := hp.1
    obtain ⟨⟨_, hlen⟩, _⟩ := hf
    refine ⟨[.ro 490 (.l (.ints .u8)) d], [], L32, inv32 d, ⟨rfl, trivial⟩, Nat.le_of_ble_eq_true (by kernel_rfl), ?_, ?_, ?_⟩
    · intro kk t ht g hg
      have hg : g ∈ [0, 2, 490] := hg
      simp only [List.mem_cons, List.not_mem_nil, or_false] at hg
      simp only [L32, List.mem_cons, List.not_mem_nil, or_false, Prod.mk.injEq] at ht
      obtain ⟨rfl, rfl⟩ | ⟨rfl, rfl⟩ := ht <;> rcases hg with rfl | rfl | rfl <;> exact ⟨by omega, rfl⟩
    · rintro vk t ps mm ht (⟨rfl, rfl, rfl⟩ | ⟨rfl, j, hj0, hj, rfl, rfl⟩)
      all_goals simp only [L32, List.mem_cons, List.not_mem_nil, or_false, Prod.mk.injEq, Nat.reduceEqDiff, false_and, true_and, false_or, or_false] at ht
      · subst ht
        show lc32a d 0 K80 _ _
        rw [lc32a_eq]
        refine ⟨fun hlt => ?_, fun hge => ?_⟩
        · have hlt := of_decide_eq_true hlt
          have hjl : 0 < (roX d).length := by omega
          have e1 := take_succ_map (roX d) 0 hjl
          have e2 := flat_take_le (roX d) (0 + 1)
          have hT : (roJ d).length = ((roX d).map roL).flatten.length := rfl
          have hf : [] ++ roL (roN d (0 : Int).toNat) = (((roX d).take (0 + 1)).map roL).flatten := by rw [e1]; rfl
          rw [hf]
          refine ⟨need_of (by omega), need_of (by omega), ?_⟩
          intro x1 e1 _ x2 e2 _ _ x3 e3 _
          rw [wrap_i64 (by omega)] at e3
          subst e1; subst e2; subst e3
          exact ⟨rfl, (roX d).length - (0 + 1), by omega, Or.inr ⟨rfl, 0 + 1, by omega, by omega, rfl, rfl⟩⟩
        · have hge := of_decide_eq_false hge
          have h0 : (roX d).length = 0 := by omega
          have hj : roJ d = [] := by unfold roJ; rw [List.length_eq_zero_iff.1 h0]; rfl
          exact ⟨⟨⟨by show (roJ d).length = 0; rw [hj]; rfl, fun x hx => by rw [hj] at hx; cases hx⟩, trivial⟩, trivial⟩
      · subst ht
        show lc32b d (((((roX d).take j).map roL).flatten).length : Int) (j : Int) K80 ((((roX d).take j).map roL).flatten) _ _
        rw [lc32b_eq]
        refine ⟨fun hlt => ?_, fun hge => ?_⟩
        · have hlt := of_decide_eq_true hlt
          have hjl : j < (roX d).length := by omega
          have e1 := take_succ_map (roX d) j hjl
          have e2 := flat_take_le (roX d) (j + 1)
          have hT : (roJ d).length = ((roX d).map roL).flatten.length := rfl
          have hf : (((roX d).take j).map roL).flatten ++ roL (roN d (j : Int).toNat) = (((roX d).take (j + 1)).map roL).flatten := by rw [e1, Int.toNat_natCast]; rfl
          rw [hf]
          refine ⟨need_of (by omega), need_of (by omega), need_of (by omega), ?_⟩
          intro x1 e1 _ x2 e2 _ _ x3 e3 _
          rw [wrap_i64 (by omega)] at e3
          subst e1; subst e2; subst e3
          exact ⟨rfl, (roX d).length - (j + 1), by omega, Or.inr ⟨rfl, j + 1, by omega, by omega, rfl, rfl⟩⟩
        · have hge := of_decide_eq_false hge
          obtain rfl : j = (roX d).length := by omega
          rw [List.take_of_length_le (Nat.le_refl _)]
          refine ⟨need_of (by omega), ⟨⟨rfl, ?_⟩, trivial⟩, trivial⟩
          show ((((roX d).map roL).flatten).drop 0).take _ = roJ d
          rw [List.drop_zero, List.take_of_length_le (by omega)]; rfl
    · show vc32 d _ _
      rw [vc32_eq]
      exact ⟨rfl, _, Or.inl ⟨rfl, rfl, rfl⟩⟩
  · cases hs
def Γ14 : Tab := ⟨tys, (32, genCtr [.d (.l (.ints .u8))] joinG) :: Γ13.ctr, [0, 2], gh⟩
theorem Γ14_ok : TabOk Tryd.prog Γ14 := Γ13_ok.cons joinG_ok
end Go.Gx

/- The reference's small functions; both packages' tables. -/
namespace Go.Sp
open Go.Gx
/-- The eight bytes of a word. -/
def be8 (x : Int) : List Int := [IntKind.u8.wrap (shrI .u64 x 56), IntKind.u8.wrap (shrI .u64 x 48), IntKind.u8.wrap (shrI .u64 x 40), IntKind.u8.wrap (shrI .u64 x 32), IntKind.u8.wrap (shrI .u64 x 24), IntKind.u8.wrap (shrI .u64 x 16), IntKind.u8.wrap (shrI .u64 x 8), IntKind.u8.wrap (shrI .u64 x 0)]
/-- The word of eight bytes. -/
def wordL (b : List Int) (j : Nat) : Int := partw (b.drop j) 0 8
end Go.Sp
namespace Go.Gx
open Go.Proofs Go.Sp
set_option linter.unusedVariables false
set_option maxRecDepth 100000

theorem CallOk.mono {P : Program} {gh gh' : Heap} (h : ∀ x ∈ gh, x ∈ gh') {f : FuncId} {c : Ctr} (hc : CallOk P gh f c) : CallOk P gh' f c :=
  fun stamp args H rs rs' d vs w0 M ρ w hG => hc stamp args H rs rs' d vs w0 M ρ w fun g b hb => hG g b (h _ hb)
def gh4 : Heap := [(0, .segs true [.arr .u64 8 true start8]), (1, .segs true [.arr .u64 8 true start8]), (2, .segs true [.arr .u64 80 false K80]), (3, .segs true [.arr .u64 80 false K80])]
def Δ0 : Tab := ⟨tys, Γ14.ctr, [0, 1, 2, 3], gh4⟩
def vc52 (x n : Int) (K : SV → Prop) (Q : Nat → List Pv → Prop) : Prop := fnVc Δ0 Tryd.f52 [] [.i .u64 ⟨false, x⟩, .i .i64 ⟨false, n⟩] gh4 K Q
def vc51 (d : RO) (n : Int) (K : List RV → List (Option (List Seg)) → Prop) (Q : Nat → List Pv → Prop) : Prop := fnVcG 0 Δ0 Tryd.f51 [] [.ro 490 (.ints .u8) d, .i .i64 ⟨false, n⟩] (gh4 ++ (490, .world) :: []) K Q
def vc46 (x : Int) (K : List RV → List (Option (List Seg)) → Prop) (Q : Nat → List Pv → Prop) : Prop := fnVcG 0 Δ0 Tryd.f46 [] [.i .u64 ⟨false, x⟩, .i .i64 ⟨true, 8⟩] (gh4 ++ (490, .world) :: []) K Q
def vc44 (x : Int) (K : List RV → List (Option (List Seg)) → Prop) (Q : Nat → List Pv → Prop) : Prop := fnVcG 0 Δ0 Tryd.f44 [] [.i .i64 ⟨false, x⟩] (gh4 ++ (490, .world) :: []) K Q
theorem gh_sub : ∀ x ∈ gh, x ∈ gh4 := fun x hx => by
  simp only [gh, List.mem_cons, List.not_mem_nil, or_false] at hx
  rcases hx with rfl | rfl
  · exact List.mem_cons_self
  · exact List.mem_cons_of_mem _ (List.mem_cons_of_mem _ List.mem_cons_self)
theorem Δ0_ok : TabOk Tryd.prog Δ0 := ⟨Γ14_ok.mix, Γ14_ok.ty, fun f c h => (Γ14_ok.ctr f c h).mono gh_sub⟩
theorem glow4 : ∀ g ∈ keysOf gh4, g < 490 := fun g hg => by have hg : g ∈ [0, 1, 2, 3] := hg; simp at hg; omega
theorem vc52_eq : ∀ (x n : Int) (K : SV → Prop) (Q : Nat → List Pv → Prop), vc52 x n K Q = (Need ((0 : Int) ≤ n) ∧ ∀ (x1 : Int), x1 = shrI IntKind.u64 x n → InR IntKind.u64 x1 → ∀ (x2 : Int), x2 = IntKind.i64.wrap ((64 : Int) - n) → InR IntKind.i64 x2 → Need ((0 : Int) ≤ x2) ∧ ∀ (x3 : Int), x3 = shlI IntKind.u64 x x2 → InR IntKind.u64 x3 → ∀ (x4 : Int), x4 = orI IntKind.u64 x1 x3 → InR IntKind.u64 x4 → K (SV.i IntKind.u64 { st := false, z := x4 })) := by
  intros
  kernel_rfl
theorem vc51_eq : ∀ (d : RO) (n : Int) (K : List RV → List (Option (List Seg)) → Prop) (Q : Nat → List Pv → Prop), vc51 d n K Q = ∀ (x1 : Int), x1 = IntKind.i64.wrap (n + (0 : Int)) → InR IntKind.i64 x1 → Need ((0 : Int) ≤ x1 ∧ x1 < ((roL d).length : Int)) ∧ ∀ (x2 : Int), x2 = (roL d).getD x1.toNat (0 : Int) → InR IntKind.u8 x2 → ∀ (x3 : Int), x3 = IntKind.u64.wrap x2 → InR IntKind.u64 x3 → ∀ (x4 : Int), x4 = orI IntKind.u64 (0 : Int) x3 → InR IntKind.u64 x4 → ∀ (x5 : Int), x5 = shlI IntKind.u64 x4 (8 : Int) → InR IntKind.u64 x5 → ∀ (x6 : Int), x6 = IntKind.i64.wrap (n + (1 : Int)) → InR IntKind.i64 x6 → Need ((0 : Int) ≤ x6 ∧ x6 < ((roL d).length : Int)) ∧ ∀ (x7 : Int), x7 = (roL d).getD x6.toNat (0 : Int) → InR IntKind.u8 x7 → ∀ (x8 : Int), x8 = IntKind.u64.wrap x7 → InR IntKind.u64 x8 → ∀ (x9 : Int), x9 = orI IntKind.u64 x5 x8 → InR IntKind.u64 x9 → ∀ (x10 : Int), x10 = shlI IntKind.u64 x9 (8 : Int) → InR IntKind.u64 x10 → ∀ (x11 : Int), x11 = IntKind.i64.wrap (n + (2 : Int)) → InR IntKind.i64 x11 → Need ((0 : Int) ≤ x11 ∧ x11 < ((roL d).length : Int)) ∧ ∀ (x12 : Int), x12 = (roL d).getD x11.toNat (0 : Int) → InR IntKind.u8 x12 → ∀ (x13 : Int), x13 = IntKind.u64.wrap x12 → InR IntKind.u64 x13 → ∀ (x14 : Int), x14 = orI IntKind.u64 x10 x13 → InR IntKind.u64 x14 → ∀ (x15 : Int), x15 = shlI IntKind.u64 x14 (8 : Int) → InR IntKind.u64 x15 → ∀ (x16 : Int), x16 = IntKind.i64.wrap (n + (3 : Int)) → InR IntKind.i64 x16 → Need ((0 : Int) ≤ x16 ∧ x16 < ((roL d).length : Int)) ∧ ∀ (x17 : Int), x17 = (roL d).getD x16.toNat (0 : Int) → InR IntKind.u8 x17 → ∀ (x18 : Int), x18 = IntKind.u64.wrap x17 → InR IntKind.u64 x18 → ∀ (x19 : Int), x19 = orI IntKind.u64 x15 x18 → InR IntKind.u64 x19 → ∀ (x20 : Int), x20 = shlI IntKind.u64 x19 (8 : Int) → InR IntKind.u64 x20 → ∀ (x21 : Int), x21 = IntKind.i64.wrap (n + (4 : Int)) → InR IntKind.i64 x21 → Need ((0 : Int) ≤ x21 ∧ x21 < ((roL d).length : Int)) ∧ ∀ (x22 : Int), x22 = (roL d).getD x21.toNat (0 : Int) → InR IntKind.u8 x22 → ∀ (x23 : Int), x23 = IntKind.u64.wrap x22 → InR IntKind.u64 x23 → ∀ (x24 : Int), x24 = orI IntKind.u64 x20 x23 → InR IntKind.u64 x24 → ∀ (x25 : Int), x25 = shlI IntKind.u64 x24 (8 : Int) → InR IntKind.u64 x25 → ∀ (x26 : Int), x26 = IntKind.i64.wrap (n + (5 : Int)) → InR IntKind.i64 x26 → Need ((0 : Int) ≤ x26 ∧ x26 < ((roL d).length : Int)) ∧ ∀ (x27 : Int), x27 = (roL d).getD x26.toNat (0 : Int) → InR IntKind.u8 x27 → ∀ (x28 : Int), x28 = IntKind.u64.wrap x27 → InR IntKind.u64 x28 → ∀ (x29 : Int), x29 = orI IntKind.u64 x25 x28 → InR IntKind.u64 x29 → ∀ (x30 : Int), x30 = shlI IntKind.u64 x29 (8 : Int) → InR IntKind.u64 x30 → ∀ (x31 : Int), x31 = IntKind.i64.wrap (n + (6 : Int)) → InR IntKind.i64 x31 → Need ((0 : Int) ≤ x31 ∧ x31 < ((roL d).length : Int)) ∧ ∀ (x32 : Int), x32 = (roL d).getD x31.toNat (0 : Int) → InR IntKind.u8 x32 → ∀ (x33 : Int), x33 = IntKind.u64.wrap x32 → InR IntKind.u64 x33 → ∀ (x34 : Int), x34 = orI IntKind.u64 x30 x33 → InR IntKind.u64 x34 → ∀ (x35 : Int), x35 = shlI IntKind.u64 x34 (8 : Int) → InR IntKind.u64 x35 → ∀ (x36 : Int), x36 = IntKind.i64.wrap (n + (7 : Int)) → InR IntKind.i64 x36 → Need ((0 : Int) ≤ x36 ∧ x36 < ((roL d).length : Int)) ∧ ∀ (x37 : Int), x37 = (roL d).getD x36.toNat (0 : Int) → InR IntKind.u8 x37 → ∀ (x38 : Int), x38 = IntKind.u64.wrap x37 → InR IntKind.u64 x38 → ∀ (x39 : Int), x39 = orI IntKind.u64 x35 x38 → InR IntKind.u64 x39 → K [RV.v (SV.i IntKind.u64 { st := false, z := x39 })] [] := by
  intros
  kernel_rfl
theorem vc46_eq : ∀ (x : Int) (K : List RV → List (Option (List Seg)) → Prop) (Q : Nat → List Pv → Prop), vc46 x K Q = (Need ((0 : Int) ≤ (8 : Int) ∧ (8 : Int) ≤ (8 : Int) ∧ (8 : Int) ≤ (70368744177664 : Int)) ∧ ∀ (x1 : List Int), x1 = List.replicate (8 : Nat) (0 : Int) → AllR IntKind.u8 x1 → ∀ (x2 : Int), x2 = IntKind.u8.wrap x → InR IntKind.u8 x2 → Need ((7 : Nat) < x1.length) ∧ ∀ (x3 : Int), x3 = shrI IntKind.u64 x (8 : Int) → InR IntKind.u64 x3 → ∀ (x4 : Int), x4 = IntKind.u8.wrap x3 → InR IntKind.u8 x4 → Need ((6 : Nat) < (x1.set (7 : Nat) x2).length) ∧ ∀ (x5 : Int), x5 = shrI IntKind.u64 x3 (8 : Int) → InR IntKind.u64 x5 → ∀ (x6 : Int), x6 = IntKind.u8.wrap x5 → InR IntKind.u8 x6 → Need ((5 : Nat) < ((x1.set (7 : Nat) x2).set (6 : Nat) x4).length) ∧ ∀ (x7 : Int), x7 = shrI IntKind.u64 x5 (8 : Int) → InR IntKind.u64 x7 → ∀ (x8 : Int), x8 = IntKind.u8.wrap x7 → InR IntKind.u8 x8 → Need ((4 : Nat) < (((x1.set (7 : Nat) x2).set (6 : Nat) x4).set (5 : Nat) x6).length) ∧ ∀ (x9 : Int), x9 = shrI IntKind.u64 x7 (8 : Int) → InR IntKind.u64 x9 → ∀ (x10 : Int), x10 = IntKind.u8.wrap x9 → InR IntKind.u8 x10 → Need ((3 : Nat) < ((((x1.set (7 : Nat) x2).set (6 : Nat) x4).set (5 : Nat) x6).set (4 : Nat) x8).length) ∧ ∀ (x11 : Int), x11 = shrI IntKind.u64 x9 (8 : Int) → InR IntKind.u64 x11 → ∀ (x12 : Int), x12 = IntKind.u8.wrap x11 → InR IntKind.u8 x12 → Need ((2 : Nat) < (((((x1.set (7 : Nat) x2).set (6 : Nat) x4).set (5 : Nat) x6).set (4 : Nat) x8).set (3 : Nat) x10).length) ∧ ∀ (x13 : Int), x13 = shrI IntKind.u64 x11 (8 : Int) → InR IntKind.u64 x13 → ∀ (x14 : Int), x14 = IntKind.u8.wrap x13 → InR IntKind.u8 x14 → Need ((1 : Nat) < ((((((x1.set (7 : Nat) x2).set (6 : Nat) x4).set (5 : Nat) x6).set (4 : Nat) x8).set (3 : Nat) x10).set (2 : Nat) x12).length) ∧ ∀ (x15 : Int), x15 = shrI IntKind.u64 x13 (8 : Int) → InR IntKind.u64 x15 → ∀ (x16 : Int), x16 = IntKind.u8.wrap x15 → InR IntKind.u8 x16 → Need ((0 : Nat) < (((((((x1.set (7 : Nat) x2).set (6 : Nat) x4).set (5 : Nat) x6).set (4 : Nat) x8).set (3 : Nat) x10).set (2 : Nat) x12).set (1 : Nat) x14).length) ∧ ∀ (x17 : Int), x17 = shrI IntKind.u64 x15 (8 : Int) → InR IntKind.u64 x17 → Need ((8 : Int) ≤ ↑((((((((x1.set (7 : Nat) x2).set (6 : Nat) x4).set (5 : Nat) x6).set (4 : Nat) x8).set (3 : Nat) x10).set (2 : Nat) x12).set (1 : Nat) x14).set (0 : Nat) x16).length) ∧ K [RV.row (Con.ints IntKind.u8 (List.take (8 : Nat) (List.drop (0 : Nat) ((((((((x1.set (7 : Nat) x2).set (6 : Nat) x4).set (5 : Nat) x6).set (4 : Nat) x8).set (3 : Nat) x10).set (2 : Nat) x12).set (1 : Nat) x14).set (0 : Nat) x16))))] []) := by
  intros
  kernel_rfl
theorem vc44_eq : ∀ (x : Int) (K : List RV → List (Option (List Seg)) → Prop) (Q : Nat → List Pv → Prop), vc44 x K Q = (Need ((0 : Int) ≤ (8 : Int) ∧ (8 : Int) ≤ (8 : Int) ∧ (8 : Int) ≤ (70368744177664 : Int)) ∧ ∀ (x1 : List Int), x1 = List.replicate (8 : Nat) (0 : Int) → AllR IntKind.u8 x1 → ∀ (x2 : Int), x2 = IntKind.u8.wrap x → InR IntKind.u8 x2 → Need ((0 : Nat) < x1.length) ∧ ∀ (x3 : Int), x3 = shrI IntKind.i64 x (8 : Int) → InR IntKind.i64 x3 → ∀ (x4 : Int), x4 = IntKind.u8.wrap x3 → InR IntKind.u8 x4 → Need ((1 : Nat) < (x1.set (0 : Nat) x2).length) ∧ ∀ (x5 : Int), x5 = shrI IntKind.i64 x3 (8 : Int) → InR IntKind.i64 x5 → ∀ (x6 : Int), x6 = IntKind.u8.wrap x5 → InR IntKind.u8 x6 → Need ((2 : Nat) < ((x1.set (0 : Nat) x2).set (1 : Nat) x4).length) ∧ ∀ (x7 : Int), x7 = shrI IntKind.i64 x5 (8 : Int) → InR IntKind.i64 x7 → ∀ (x8 : Int), x8 = IntKind.u8.wrap x7 → InR IntKind.u8 x8 → Need ((3 : Nat) < (((x1.set (0 : Nat) x2).set (1 : Nat) x4).set (2 : Nat) x6).length) ∧ ∀ (x9 : Int), x9 = shrI IntKind.i64 x7 (8 : Int) → InR IntKind.i64 x9 → ∀ (x10 : Int), x10 = IntKind.u8.wrap x9 → InR IntKind.u8 x10 → Need ((4 : Nat) < ((((x1.set (0 : Nat) x2).set (1 : Nat) x4).set (2 : Nat) x6).set (3 : Nat) x8).length) ∧ ∀ (x11 : Int), x11 = shrI IntKind.i64 x9 (8 : Int) → InR IntKind.i64 x11 → ∀ (x12 : Int), x12 = IntKind.u8.wrap x11 → InR IntKind.u8 x12 → Need ((5 : Nat) < (((((x1.set (0 : Nat) x2).set (1 : Nat) x4).set (2 : Nat) x6).set (3 : Nat) x8).set (4 : Nat) x10).length) ∧ ∀ (x13 : Int), x13 = shrI IntKind.i64 x11 (8 : Int) → InR IntKind.i64 x13 → ∀ (x14 : Int), x14 = IntKind.u8.wrap x13 → InR IntKind.u8 x14 → Need ((6 : Nat) < ((((((x1.set (0 : Nat) x2).set (1 : Nat) x4).set (2 : Nat) x6).set (3 : Nat) x8).set (4 : Nat) x10).set (5 : Nat) x12).length) ∧ ∀ (x15 : Int), x15 = shrI IntKind.i64 x13 (8 : Int) → InR IntKind.i64 x15 → ∀ (x16 : Int), x16 = IntKind.u8.wrap x15 → InR IntKind.u8 x16 → Need ((7 : Nat) < (((((((x1.set (0 : Nat) x2).set (1 : Nat) x4).set (2 : Nat) x6).set (3 : Nat) x8).set (4 : Nat) x10).set (5 : Nat) x12).set (6 : Nat) x14).length) ∧ ∀ (x17 : Int), x17 = shrI IntKind.i64 x15 (8 : Int) → InR IntKind.i64 x17 → Need ((8 : Int) ≤ ↑((((((((x1.set (0 : Nat) x2).set (1 : Nat) x4).set (2 : Nat) x6).set (3 : Nat) x8).set (4 : Nat) x10).set (5 : Nat) x12).set (6 : Nat) x14).set (7 : Nat) x16).length) ∧ K [RV.row (Con.ints IntKind.u8 (List.take (8 : Nat) (List.drop (0 : Nat) ((((((((x1.set (0 : Nat) x2).set (1 : Nat) x4).set (2 : Nat) x6).set (3 : Nat) x8).set (4 : Nat) x10).set (5 : Nat) x12).set (6 : Nat) x14).set (7 : Nat) x16))))] []) := by
  intros
  kernel_rfl

theorem shr8 (x : Int) (a b : Nat) (h : b = a + 8 ∧ b ≤ 64 := by omega) : shrI .u64 (shrI .u64 x (a : Int)) 8 = shrI .u64 x (b : Int) := by
  have h8 : shrI .u64 (shrI .u64 x (a : Int)) ((8 : Nat) : Int) = (shrI .u64 x (a : Int)) / 2 ^ 8 := shr_div 8 (by omega)
  rw [show (8 : Int) = ((8 : Nat) : Int) from rfl, h8, shr_div a (by omega), shr_div b (by omega), Int.ediv_ediv_of_nonneg (Int.le_of_lt (Int.pow_pos (by omega))), ← Int.pow_add, h.1]
theorem rot_of (x n : Int) (h : 1 ≤ n ∧ n ≤ 63) : orI .u64 (shrI .u64 x n) (shlI .u64 x (64 - n)) = rotL x (-n) := by
  have hn : ∀ j : Fin 64, 1 ≤ j.val → andI .u64 (IntKind.u64.wrap (-(j.val : Int))) 63 = 64 - (j.val : Int) ∧ IntKind.u64.wrap (64 - (64 - (j.val : Int))) = (j.val : Int) := by decide +kernel
  obtain ⟨h1, h2⟩ := hn ⟨n.toNat, by omega⟩ (by show 1 ≤ n.toNat; omega)
  have hv : (((⟨n.toNat, by omega⟩ : Fin 64).val : Nat) : Int) = n := by show ((n.toNat : Nat) : Int) = n; omega
  rw [hv] at h1 h2
  unfold rotL
  rw [h1, h2]
  unfold orI
  rw [BitVec.or_comm]
def rotrS : List SV → Option (List Prop × SV)
  | [.i .u64 x, .i .i64 n] => some ([1 ≤ n.z ∧ n.z ≤ 63], .i .u64 ⟨false, rotL x.z (-n.z)⟩)
  | _ => none
theorem rotr_ok : CallOk Tryd.prog gh4 52 (pureCtr rotrS) := by
  refine call_pure (fn := Tryd.f52) Δ0_ok rfl (by kernel_rfl) (by kernel_rfl) (by kernel_rfl) rotrS fun args P0 Y0 hs hp hf => ?_
  unfold rotrS at hs
  split at hs
  · rename_i x n
    simp only [Option.some.injEq, Prod.mk.injEq] at hs
    obtain ⟨rfl, rfl⟩ := hs
    have hp : 1 ≤ n.z ∧ n.z ≤ 63 := hp.1
    refine ⟨[.i .u64 ⟨false, x.z⟩, .i .i64 ⟨false, n.z⟩], [], _, ⟨rfl, rfl, trivial⟩, Nat.le_of_ble_eq_true (by kernel_rfl), vc_noloops ?_⟩
    show vc52 x.z n.z _ _
    rw [vc52_eq]
    refine ⟨need_of (by omega), ?_⟩
    intro x1 e1 _ x2 e2 _
    rw [wrap_i64 (by omega)] at e2
    refine ⟨need_of (by omega), fun x3 e3 _ x4 e4 _ => ?_⟩
    show x4 = rotL x.z (-n.z)
    rw [e4, e3, e1, e2, rot_of x.z n.z hp]
  · cases hs
def wordG : List AV → Option (List Prop × List RV × List (Option (List Seg)))
  | [.d (.ints .u8) d, .v (.i .i64 ⟨_, n⟩)] => some ([0 ≤ n, n + 8 ≤ ((roL d).length : Int)], [.v (.i .u64 ⟨false, wordL (roL d) n.toNat⟩)], [])
  | _ => none
theorem getD_drop (b : List Int) (j k : Nat) : (b.drop j).getD k 0 = b.getD (j + k) 0 := by
  rw [List.getD_eq_getElem?_getD, List.getD_eq_getElem?_getD, List.getElem?_drop]
theorem hs0 : shlI .u64 0 8 = 0 := by decide +kernel
theorem partS (b : List Int) (k : Nat) : partw b 0 (k + 1) = orI .u64 (shlI .u64 (partw b 0 k) 8) (IntKind.u64.wrap (b.getD (8 * 0 + k) 0)) := rfl
set_option maxHeartbeats 2000000 in
theorem wordG_ok : CallOk Tryd.prog gh4 51 (genCtr [.d (.ints .u8), .v] wordG) := by
  refine call_gen (fn := Tryd.f51) Δ0_ok rfl glow4 rfl (by kernel_rfl) (by kernel_rfl) _ wordG fun av p rvs fin hs hp hf => ?_
  unfold wordG at hs
  split at hs
  · rename_i d st n
    simp only [Option.some.injEq, Prod.mk.injEq] at hs
    obtain ⟨rfl, rfl, rfl⟩ := hs
    have h0 : 0 ≤ n := hp.1
    have h1 : n + 8 ≤ ((roL d).length : Int) := hp.2.1
    obtain ⟨⟨_, hlen⟩, _⟩ := hf
    refine ⟨[.ro 490 (.ints .u8) d, .i .i64 ⟨false, n⟩], [], [], _, ?_, Nat.le_of_ble_eq_true (by kernel_rfl), vcG_noloops ?_⟩
    · exact ⟨rfl, rfl, trivial⟩
    show vc51 d n _ _
    rw [vc51_eq]
    intro x1 e1 _
    rw [wrap_i64 (by omega)] at e1
    refine ⟨need_of (by omega), ?_⟩
    intro x2 e2 _ x3 e3 _ x4 e4 _
    intro x5 e5 _ x6 e6 _
    rw [wrap_i64 (by omega)] at e6
    refine ⟨need_of (by omega), ?_⟩
    intro x7 e7 _ x8 e8 _ x9 e9 _
    intro x10 e10 _ x11 e11 _
    rw [wrap_i64 (by omega)] at e11
    refine ⟨need_of (by omega), ?_⟩
    intro x12 e12 _ x13 e13 _ x14 e14 _
    intro x15 e15 _ x16 e16 _
    rw [wrap_i64 (by omega)] at e16
    refine ⟨need_of (by omega), ?_⟩
    intro x17 e17 _ x18 e18 _ x19 e19 _
    intro x20 e20 _ x21 e21 _
    rw [wrap_i64 (by omega)] at e21
    refine ⟨need_of (by omega), ?_⟩
    intro x22 e22 _ x23 e23 _ x24 e24 _
    intro x25 e25 _ x26 e26 _
    rw [wrap_i64 (by omega)] at e26
    refine ⟨need_of (by omega), ?_⟩
    intro x27 e27 _ x28 e28 _ x29 e29 _
    intro x30 e30 _ x31 e31 _
    rw [wrap_i64 (by omega)] at e31
    refine ⟨need_of (by omega), ?_⟩
    intro x32 e32 _ x33 e33 _ x34 e34 _
    intro x35 e35 _ x36 e36 _
    rw [wrap_i64 (by omega)] at e36
    refine ⟨need_of (by omega), ?_⟩
    intro x37 e37 _ x38 e38 _ x39 e39 _
    refine ⟨⟨?_, trivial⟩, trivial⟩
    show x39 = wordL (roL d) n.toNat
    have p0 : partw ((roL d).drop n.toNat) 0 0 = 0 := rfl
    have q0 : ((roL d).drop n.toNat).getD (8 * 0 + 0) 0 = x2 := by rw [getD_drop, e2]; congr 1; omega
    have p1 : partw ((roL d).drop n.toNat) 0 1 = x4 := by
      rw [partS, p0, q0, e4, e3, hs0]
    have q1 : ((roL d).drop n.toNat).getD (8 * 0 + 1) 0 = x7 := by rw [getD_drop, e7]; congr 1; omega
    have p2 : partw ((roL d).drop n.toNat) 0 2 = x9 := by
      rw [partS, p1, q1, e9, e8, e5]
    have q2 : ((roL d).drop n.toNat).getD (8 * 0 + 2) 0 = x12 := by rw [getD_drop, e12]; congr 1; omega
    have p3 : partw ((roL d).drop n.toNat) 0 3 = x14 := by
      rw [partS, p2, q2, e14, e13, e10]
    have q3 : ((roL d).drop n.toNat).getD (8 * 0 + 3) 0 = x17 := by rw [getD_drop, e17]; congr 1; omega
    have p4 : partw ((roL d).drop n.toNat) 0 4 = x19 := by
      rw [partS, p3, q3, e19, e18, e15]
    have q4 : ((roL d).drop n.toNat).getD (8 * 0 + 4) 0 = x22 := by rw [getD_drop, e22]; congr 1; omega
    have p5 : partw ((roL d).drop n.toNat) 0 5 = x24 := by
      rw [partS, p4, q4, e24, e23, e20]
    have q5 : ((roL d).drop n.toNat).getD (8 * 0 + 5) 0 = x27 := by rw [getD_drop, e27]; congr 1; omega
    have p6 : partw ((roL d).drop n.toNat) 0 6 = x29 := by
      rw [partS, p5, q5, e29, e28, e25]
    have q6 : ((roL d).drop n.toNat).getD (8 * 0 + 6) 0 = x32 := by rw [getD_drop, e32]; congr 1; omega
    have p7 : partw ((roL d).drop n.toNat) 0 7 = x34 := by
      rw [partS, p6, q6, e34, e33, e30]
    have q7 : ((roL d).drop n.toNat).getD (8 * 0 + 7) 0 = x37 := by rw [getD_drop, e37]; congr 1; omega
    have p8 : partw ((roL d).drop n.toNat) 0 8 = x39 := by
      rw [partS, p7, q7, e39, e38, e35]
    exact p8.symm
  · cases hs
theorem shr80 (x : Int) : shrI .u64 x 0 = x := by
  have := shr_div (x := x) 0 (by omega)
  rw [show (0 : Int) = ((0 : Nat) : Int) from rfl, this]; simp
theorem shri_div {x : Int} (k : Nat) (hk : k ≤ 64) : shrI .i64 x (k : Int) = x / 2 ^ k := by
  unfold shrI
  rw [show (min ((k : Int)).toNat IntKind.i64.bits) = k by simp [IntKind.bits]; omega, Int.fdiv_eq_ediv_of_nonneg]
  exact Int.le_of_lt (Int.pow_pos (by omega))
theorem shr8i (x : Int) (a b : Nat) (h : b = a + 8 ∧ b ≤ 64 := by omega) : shrI .i64 (shrI .i64 x (a : Int)) 8 = shrI .i64 x (b : Int) := by
  have h8 : shrI .i64 (shrI .i64 x (a : Int)) ((8 : Nat) : Int) = (shrI .i64 x (a : Int)) / 2 ^ 8 := shri_div 8 (by omega)
  rw [show (8 : Int) = ((8 : Nat) : Int) from rfl, h8, shri_div a (by omega), shri_div b (by omega), Int.ediv_ediv_of_nonneg (Int.le_of_lt (Int.pow_pos (by omega))), ← Int.pow_add, h.1]
theorem shr8i0 (x : Int) : shrI .i64 x 0 = x := by
  have := shri_div (x := x) 0 (by omega)
  rw [show (0 : Int) = ((0 : Nat) : Int) from rfl, this]; simp
def numG : List AV → Option (List Prop × List RV × List (Option (List Seg)))
  | [.v (.i .u64 ⟨_, x⟩), .v (.i .i64 ⟨true, .ofNat 8⟩)] => some ([], [.row (.ints .u8 (be8 x))], [])
  | _ => none
theorem numG_ok : CallOk Tryd.prog gh4 46 (genCtr [.v, .v] numG) := by
  refine call_gen (fn := Tryd.f46) Δ0_ok rfl glow4 rfl (by kernel_rfl) (by kernel_rfl) _ numG fun av p rvs fin hs hp hf => ?_
  unfold numG at hs
  split at hs
  · rename_i st x
    simp only [Option.some.injEq, Prod.mk.injEq] at hs
    obtain ⟨rfl, rfl, rfl⟩ := hs
    refine ⟨[.i .u64 ⟨false, x⟩, .i .i64 ⟨true, 8⟩], [], [], _, ?_, Nat.le_of_ble_eq_true (by kernel_rfl), vcG_noloops ?_⟩
    · exact ⟨rfl, rfl, trivial⟩
    show vc46 x _ _
    rw [vc46_eq]
    refine ⟨need_of (by omega), ?_⟩
    intro x1 e1 _
    subst e1
    intro x2 e2 _
    refine ⟨need_of (by simp), ?_⟩
    intro x3 e3 _ x4 e4 _
    refine ⟨need_of (by simp), ?_⟩
    intro x5 e5 _ x6 e6 _
    refine ⟨need_of (by simp), ?_⟩
    intro x7 e7 _ x8 e8 _
    refine ⟨need_of (by simp), ?_⟩
    intro x9 e9 _ x10 e10 _
    refine ⟨need_of (by simp), ?_⟩
    intro x11 e11 _ x12 e12 _
    refine ⟨need_of (by simp), ?_⟩
    intro x13 e13 _ x14 e14 _
    refine ⟨need_of (by simp), ?_⟩
    intro x15 e15 _ x16 e16 _
    refine ⟨need_of (by simp), ?_⟩
    intro x17 e17 _
    refine ⟨need_of (by simp), ⟨⟨rfl, ?_⟩, trivial⟩, trivial⟩
    show List.take 8 (List.drop 0 _) = be8 x
    have s0 := shr80 x
    rw [← s0] at e3 e2
    have e3 : x3 = shrI .u64 x (((8 : Nat)) : Int) := by rw [e3]; exact shr8 x 0 8
    have e5 : x5 = shrI .u64 x (((16 : Nat)) : Int) := by rw [e5, e3]; exact shr8 x 8 16
    have e7 : x7 = shrI .u64 x (((24 : Nat)) : Int) := by rw [e7, e5]; exact shr8 x 16 24
    have e9 : x9 = shrI .u64 x (((32 : Nat)) : Int) := by rw [e9, e7]; exact shr8 x 24 32
    have e11 : x11 = shrI .u64 x (((40 : Nat)) : Int) := by rw [e11, e9]; exact shr8 x 32 40
    have e13 : x13 = shrI .u64 x (((48 : Nat)) : Int) := by rw [e13, e11]; exact shr8 x 40 48
    have e15 : x15 = shrI .u64 x (((56 : Nat)) : Int) := by rw [e15, e13]; exact shr8 x 48 56
    rw [e2, e4, e6, e8, e10, e12, e14, e16, e15, e13, e11, e9, e7, e5, e3]
    rfl
  · cases hs
def lowG : List AV → Option (List Prop × List RV × List (Option (List Seg)))
  | [.v (.i .i64 ⟨_, x⟩)] => some ([], [.row (.ints .u8 (le8 x))], [])
  | _ => none
theorem lowG_ok : CallOk Tryd.prog gh4 44 (genCtr [.v] lowG) := by
  refine call_gen (fn := Tryd.f44) Δ0_ok rfl glow4 rfl (by kernel_rfl) (by kernel_rfl) _ lowG fun av p rvs fin hs hp hf => ?_
  unfold lowG at hs
  split at hs
  · rename_i st x
    simp only [Option.some.injEq, Prod.mk.injEq] at hs
    obtain ⟨rfl, rfl, rfl⟩ := hs
    refine ⟨[.i .i64 ⟨false, x⟩], [], [], _, ?_, Nat.le_of_ble_eq_true (by kernel_rfl), vcG_noloops ?_⟩
    · exact ⟨rfl, trivial⟩
    show vc44 x _ _
    rw [vc44_eq]
    refine ⟨need_of (by omega), ?_⟩
    intro x1 e1 _
    subst e1
    intro x2 e2 _
    refine ⟨need_of (by simp), ?_⟩
    intro x3 e3 _ x4 e4 _
    refine ⟨need_of (by simp), ?_⟩
    intro x5 e5 _ x6 e6 _
    refine ⟨need_of (by simp), ?_⟩
    intro x7 e7 _ x8 e8 _
    refine ⟨need_of (by simp), ?_⟩
    intro x9 e9 _ x10 e10 _
    refine ⟨need_of (by simp), ?_⟩
    intro x11 e11 _ x12 e12 _
    refine ⟨need_of (by simp), ?_⟩
    intro x13 e13 _ x14 e14 _
    refine ⟨need_of (by simp), ?_⟩
    intro x15 e15 _ x16 e16 _
    refine ⟨need_of (by simp), ?_⟩
    intro x17 e17 _
    refine ⟨need_of (by simp), ⟨⟨rfl, ?_⟩, trivial⟩, trivial⟩
    show List.take 8 (List.drop 0 _) = le8 x
    have s0 := shr8i0 x
    rw [← s0] at e3 e2
    have e3 : x3 = shrI .i64 x (((8 : Nat)) : Int) := by rw [e3]; exact shr8i x 0 8
    have e5 : x5 = shrI .i64 x (((16 : Nat)) : Int) := by rw [e5, e3]; exact shr8i x 8 16
    have e7 : x7 = shrI .i64 x (((24 : Nat)) : Int) := by rw [e7, e5]; exact shr8i x 16 24
    have e9 : x9 = shrI .i64 x (((32 : Nat)) : Int) := by rw [e9, e7]; exact shr8i x 24 32
    have e11 : x11 = shrI .i64 x (((40 : Nat)) : Int) := by rw [e11, e9]; exact shr8i x 32 40
    have e13 : x13 = shrI .i64 x (((48 : Nat)) : Int) := by rw [e13, e11]; exact shr8i x 40 48
    have e15 : x15 = shrI .i64 x (((56 : Nat)) : Int) := by rw [e15, e13]; exact shr8i x 48 56
    rw [e2, e4, e6, e8, e10, e12, e14, e16, e15, e13, e11, e9, e7, e5, e3]
    rfl
  · cases hs
def Δ1 : Tab := ⟨tys, (52, pureCtr rotrS) :: (51, genCtr [.d (.ints .u8), .v] wordG) :: (46, genCtr [.v, .v] numG) :: (44, genCtr [.v] lowG) :: Δ0.ctr, [0, 1, 2, 3], gh4⟩
theorem Δ1_ok : TabOk Tryd.prog Δ1 := (((Δ0_ok.cons lowG_ok).cons numG_ok).cons wordG_ok).cons rotr_ok
end Go.Gx

/- The reference's block. -/
namespace Go.Gx
open Go.Proofs Go.Sp
set_option linter.unusedVariables false
set_option maxRecDepth 100000

def A8 : SB := .segs false [.arr .u64 8 false []]
def A80 : SB := .segs false [.arr .u64 80 false []]
def L47 : Loops := [(3, ⟨[.any, .ro 490 (.ints .u8) (.l []), .i .i64 ⟨false, 0⟩, .p 1000 0, .any, .any, .p 1001 0, .p 1002 0, .i .i64 ⟨false, 0⟩] ++ reps .any 167, gh4 ++ [(490, .world), (1000, A8), (1001, A8), (1002, A80)], 2000⟩),
  (14, ⟨[.any, .any, .any, .p 1000 0, .any, .any, .p 1001 0, .p 1002 0] ++ reps .any 5 ++ [.p 1003 0, .i .i64 ⟨false, 0⟩] ++ reps .any 161, gh4 ++ [(490, .world), (1000, A8), (1001, A8), (1002, A80), (1003, A8)], 2000⟩)]
def vc47 (ws : List Int) (d : RO) (o : Int) (K : List RV → List (Option (List Seg)) → Prop) (Q : Nat → List Pv → Prop) : Prop := fnVcG 0 Δ1 Tryd.f47 L47 [.arr .u64 8 false ws, .ro 490 (.ints .u8) d, .i .i64 ⟨false, o⟩] (gh4 ++ (490, .world) :: []) K Q
def lc47a (d : RO) (o i : Int) (g g' ws r w : List Int) (K : List RV → List (Option (List Seg)) → Prop) (Q : Nat → List Pv → Prop) : Prop := loopVcG 0 Δ1 Tryd.f47 L47 3 [.ro d, .z o, .z i, .l g, .l g', .l ws, .l r, .l w] K Q
def lc47b (i : Int) (g g' ws r w s : List Int) (K : List RV → List (Option (List Seg)) → Prop) (Q : Nat → List Pv → Prop) : Prop := loopVcG 0 Δ1 Tryd.f47 L47 14 [.z i, .l g, .l g', .l ws, .l r, .l w, .l s] K Q
theorem vc47_eq : ∀ (ws : List Int) (d : RO) (o : Int) (K : List RV → List (Option (List Seg)) → Prop) (Q : Nat → List Pv → Prop), vc47 ws d o K Q = (Same Tryd.f47 (3 : Nat) (itemsOf Tryd.f47 (3 : Nat)) ∧ Q (3 : Nat) [Pv.ro d, Pv.z o, Pv.z (0 : Int), Pv.l K80, Pv.l K80, Pv.l ws, Pv.l [(0 : Int), (0 : Int), (0 : Int), (0 : Int), (0 : Int), (0 : Int), (0 : Int), (0 : Int)], Pv.l (List.replicate (80 : Nat) (0 : Int))]) := by
  intros
  kernel_rfl
theorem lc47a_eq : ∀ (d : RO) (o i : Int) (g g' ws r w : List Int) (K : List RV → List (Option (List Seg)) → Prop) (Q : Nat → List Pv → Prop), lc47a d o i g g' ws r w K Q = ((decide (i < (80 : Int)) = true → (decide (i < (16 : Int)) = true → ∀ (x1 : Int), x1 = IntKind.i64.wrap ((8 : Int) * i) → InR IntKind.i64 x1 → ∀ (x2 : Int), x2 = IntKind.i64.wrap (o + x1) → InR IntKind.i64 x2 → Need ((0 : Int) ≤ x2) ∧ Need (x2 + (8 : Int) ≤ ((roL d).length : Int)) ∧ ∀ (x3 : Int), x3 = wordL (roL d) x2.toNat → InR IntKind.u64 x3 → Need ((0 : Int) ≤ i ∧ i < (80 : Int)) ∧ Need ((0 : Int) ≤ i ∧ i < (80 : Int)) ∧ ∀ (x4 : List Int), x4 = w.set i.toNat x3 → x4.length = (80 : Nat) → AllR IntKind.u64 x4 → ∀ (x5 : Int), x5 = IntKind.i64.wrap (i + (1 : Int)) → InR IntKind.i64 x5 → Same Tryd.f47 (3 : Nat) (itemsOf Tryd.f47 (3 : Nat)) ∧ Q (3 : Nat) [Pv.ro d, Pv.z o, Pv.z x5, Pv.l g, Pv.l g', Pv.l ws, Pv.l r, Pv.l x4]) ∧ (decide (i < (16 : Int)) = false → ∀ (x6 : Int), x6 = IntKind.i64.wrap (i - (2 : Int)) → InR IntKind.i64 x6 → Need ((0 : Int) ≤ x6 ∧ x6 < (80 : Int)) ∧ Need ((0 : Int) ≤ x6 ∧ x6 < (80 : Int)) ∧ ∀ (x7 : Int), x7 = w.getD x6.toNat (0 : Int) → InR IntKind.u64 x7 → ∀ (x8 : Int), x8 = IntKind.i64.wrap (i - (15 : Int)) → InR IntKind.i64 x8 → Need ((0 : Int) ≤ x8 ∧ x8 < (80 : Int)) ∧ Need ((0 : Int) ≤ x8 ∧ x8 < (80 : Int)) ∧ ∀ (x9 : Int), x9 = w.getD x8.toNat (0 : Int) → InR IntKind.u64 x9 → Need ((1 : Int) ≤ (19 : Int) ∧ (19 : Int) ≤ (63 : Int)) ∧ ∀ (x10 : Int), x10 = rotL x7 (-19 : Int) → InR IntKind.u64 x10 → Need ((1 : Int) ≤ (61 : Int) ∧ (61 : Int) ≤ (63 : Int)) ∧ ∀ (x11 : Int), x11 = rotL x7 (-61 : Int) → InR IntKind.u64 x11 → ∀ (x12 : Int), x12 = xorI IntKind.u64 x10 x11 → InR IntKind.u64 x12 → ∀ (x13 : Int), x13 = shrI IntKind.u64 x7 (6 : Int) → InR IntKind.u64 x13 → ∀ (x14 : Int), x14 = xorI IntKind.u64 x12 x13 → InR IntKind.u64 x14 → Need ((1 : Int) ≤ (1 : Int) ∧ (1 : Int) ≤ (63 : Int)) ∧ ∀ (x15 : Int), x15 = rotL x9 (-1 : Int) → InR IntKind.u64 x15 → Need ((1 : Int) ≤ (8 : Int) ∧ (8 : Int) ≤ (63 : Int)) ∧ ∀ (x16 : Int), x16 = rotL x9 (-8 : Int) → InR IntKind.u64 x16 → ∀ (x17 : Int), x17 = xorI IntKind.u64 x15 x16 → InR IntKind.u64 x17 → ∀ (x18 : Int), x18 = shrI IntKind.u64 x9 (7 : Int) → InR IntKind.u64 x18 → ∀ (x19 : Int), x19 = xorI IntKind.u64 x17 x18 → InR IntKind.u64 x19 → ∀ (x20 : Int), x20 = IntKind.i64.wrap (i - (7 : Int)) → InR IntKind.i64 x20 → Need ((0 : Int) ≤ x20 ∧ x20 < (80 : Int)) ∧ Need ((0 : Int) ≤ x20 ∧ x20 < (80 : Int)) ∧ ∀ (x21 : Int), x21 = w.getD x20.toNat (0 : Int) → InR IntKind.u64 x21 → ∀ (x22 : Int), x22 = IntKind.u64.wrap (x14 + x21) → InR IntKind.u64 x22 → ∀ (x23 : Int), x23 = IntKind.u64.wrap (x22 + x19) → InR IntKind.u64 x23 → ∀ (x24 : Int), x24 = IntKind.i64.wrap (i - (16 : Int)) → InR IntKind.i64 x24 → Need ((0 : Int) ≤ x24 ∧ x24 < (80 : Int)) ∧ Need ((0 : Int) ≤ x24 ∧ x24 < (80 : Int)) ∧ ∀ (x25 : Int), x25 = w.getD x24.toNat (0 : Int) → InR IntKind.u64 x25 → ∀ (x26 : Int), x26 = IntKind.u64.wrap (x23 + x25) → InR IntKind.u64 x26 → Need ((0 : Int) ≤ i ∧ i < (80 : Int)) ∧ Need ((0 : Int) ≤ i ∧ i < (80 : Int)) ∧ ∀ (x27 : List Int), x27 = w.set i.toNat x26 → x27.length = (80 : Nat) → AllR IntKind.u64 x27 → ∀ (x28 : Int), x28 = IntKind.i64.wrap (i + (1 : Int)) → InR IntKind.i64 x28 → Same Tryd.f47 (3 : Nat) (itemsOf Tryd.f47 (3 : Nat)) ∧ Q (3 : Nat) [Pv.ro d, Pv.z o, Pv.z x28, Pv.l g, Pv.l g', Pv.l ws, Pv.l r, Pv.l x27])) ∧ (decide (i < (80 : Int)) = false → Same Tryd.f47 (14 : Nat) (itemsOf Tryd.f47 (14 : Nat)) ∧ Q (14 : Nat) [Pv.z (0 : Int), Pv.l g, Pv.l g', Pv.l ws, Pv.l r, Pv.l w, Pv.l ws])) := by
  intros
  kernel_rfl
theorem lc47b_eq : ∀ (i : Int) (g g' ws r w s : List Int) (K : List RV → List (Option (List Seg)) → Prop) (Q : Nat → List Pv → Prop), lc47b i g g' ws r w s K Q = ((decide (i < (80 : Int)) = true → ∀ (x1 : Int), x1 = andI IntKind.u64 (s.getD (4 : Nat) (0 : Int)) (s.getD (5 : Nat) (0 : Int)) → InR IntKind.u64 x1 → ∀ (x2 : Int), x2 = notI IntKind.u64 (s.getD (4 : Nat) (0 : Int)) → InR IntKind.u64 x2 → ∀ (x3 : Int), x3 = andI IntKind.u64 x2 (s.getD (6 : Nat) (0 : Int)) → InR IntKind.u64 x3 → ∀ (x4 : Int), x4 = xorI IntKind.u64 x1 x3 → InR IntKind.u64 x4 → ∀ (x5 : Int), x5 = andI IntKind.u64 (s.getD (0 : Nat) (0 : Int)) (s.getD (1 : Nat) (0 : Int)) → InR IntKind.u64 x5 → ∀ (x6 : Int), x6 = andI IntKind.u64 (s.getD (0 : Nat) (0 : Int)) (s.getD (2 : Nat) (0 : Int)) → InR IntKind.u64 x6 → ∀ (x7 : Int), x7 = xorI IntKind.u64 x5 x6 → InR IntKind.u64 x7 → ∀ (x8 : Int), x8 = andI IntKind.u64 (s.getD (1 : Nat) (0 : Int)) (s.getD (2 : Nat) (0 : Int)) → InR IntKind.u64 x8 → ∀ (x9 : Int), x9 = xorI IntKind.u64 x7 x8 → InR IntKind.u64 x9 → Need ((1 : Int) ≤ (14 : Int) ∧ (14 : Int) ≤ (63 : Int)) ∧ ∀ (x10 : Int), x10 = rotL (s.getD (4 : Nat) (0 : Int)) (-14 : Int) → InR IntKind.u64 x10 → Need ((1 : Int) ≤ (18 : Int) ∧ (18 : Int) ≤ (63 : Int)) ∧ ∀ (x11 : Int), x11 = rotL (s.getD (4 : Nat) (0 : Int)) (-18 : Int) → InR IntKind.u64 x11 → ∀ (x12 : Int), x12 = xorI IntKind.u64 x10 x11 → InR IntKind.u64 x12 → Need ((1 : Int) ≤ (41 : Int) ∧ (41 : Int) ≤ (63 : Int)) ∧ ∀ (x13 : Int), x13 = rotL (s.getD (4 : Nat) (0 : Int)) (-41 : Int) → InR IntKind.u64 x13 → ∀ (x14 : Int), x14 = xorI IntKind.u64 x12 x13 → InR IntKind.u64 x14 → Need ((1 : Int) ≤ (28 : Int) ∧ (28 : Int) ≤ (63 : Int)) ∧ ∀ (x15 : Int), x15 = rotL (s.getD (0 : Nat) (0 : Int)) (-28 : Int) → InR IntKind.u64 x15 → Need ((1 : Int) ≤ (34 : Int) ∧ (34 : Int) ≤ (63 : Int)) ∧ ∀ (x16 : Int), x16 = rotL (s.getD (0 : Nat) (0 : Int)) (-34 : Int) → InR IntKind.u64 x16 → ∀ (x17 : Int), x17 = xorI IntKind.u64 x15 x16 → InR IntKind.u64 x17 → Need ((1 : Int) ≤ (39 : Int) ∧ (39 : Int) ≤ (63 : Int)) ∧ ∀ (x18 : Int), x18 = rotL (s.getD (0 : Nat) (0 : Int)) (-39 : Int) → InR IntKind.u64 x18 → ∀ (x19 : Int), x19 = xorI IntKind.u64 x17 x18 → InR IntKind.u64 x19 → ∀ (x20 : Int), x20 = IntKind.u64.wrap (s.getD (7 : Nat) (0 : Int) + x14) → InR IntKind.u64 x20 → ∀ (x21 : Int), x21 = IntKind.u64.wrap (x20 + x4) → InR IntKind.u64 x21 → Need ((0 : Int) ≤ i ∧ i < (80 : Int)) ∧ Need ((0 : Int) ≤ i ∧ i < (80 : Int)) ∧ ∀ (x22 : Int), x22 = g'.getD i.toNat (0 : Int) → InR IntKind.u64 x22 → ∀ (x23 : Int), x23 = IntKind.u64.wrap (x21 + x22) → InR IntKind.u64 x23 → Need ((0 : Int) ≤ i ∧ i < (80 : Int)) ∧ Need ((0 : Int) ≤ i ∧ i < (80 : Int)) ∧ ∀ (x24 : Int), x24 = w.getD i.toNat (0 : Int) → InR IntKind.u64 x24 → ∀ (x25 : Int), x25 = IntKind.u64.wrap (x23 + x24) → InR IntKind.u64 x25 → ∀ (x26 : Int), x26 = IntKind.u64.wrap (x25 + x19) → InR IntKind.u64 x26 → ∀ (x27 : Int), x27 = IntKind.u64.wrap (x26 + x9) → InR IntKind.u64 x27 → ∀ (x28 : Int), x28 = IntKind.u64.wrap (s.getD (3 : Nat) (0 : Int) + x25) → InR IntKind.u64 x28 → ∀ (x29 : Int), x29 = IntKind.i64.wrap (i + (1 : Int)) → InR IntKind.i64 x29 → Same Tryd.f47 (14 : Nat) (itemsOf Tryd.f47 (14 : Nat)) ∧ Q (14 : Nat) [Pv.z x29, Pv.l g, Pv.l g', Pv.l ws, Pv.l r, Pv.l w, Pv.l [x27, s.getD (0 : Nat) (0 : Int), s.getD (1 : Nat) (0 : Int), s.getD (2 : Nat) (0 : Int), x28, s.getD (4 : Nat) (0 : Int), s.getD (5 : Nat) (0 : Int), s.getD (6 : Nat) (0 : Int)]]) ∧ (decide (i < (80 : Int)) = false → ∀ (x30 : Int), x30 = IntKind.u64.wrap (ws.getD (0 : Nat) (0 : Int) + s.getD (0 : Nat) (0 : Int)) → InR IntKind.u64 x30 → ∀ (x31 : Int), x31 = IntKind.u64.wrap ((ws.set (0 : Nat) x30).getD (1 : Nat) (0 : Int) + s.getD (1 : Nat) (0 : Int)) → InR IntKind.u64 x31 → ∀ (x32 : Int), x32 = IntKind.u64.wrap (((ws.set (0 : Nat) x30).set (1 : Nat) x31).getD (2 : Nat) (0 : Int) + s.getD (2 : Nat) (0 : Int)) → InR IntKind.u64 x32 → ∀ (x33 : Int), x33 = IntKind.u64.wrap ((((ws.set (0 : Nat) x30).set (1 : Nat) x31).set (2 : Nat) x32).getD (3 : Nat) (0 : Int) + s.getD (3 : Nat) (0 : Int)) → InR IntKind.u64 x33 → ∀ (x34 : Int), x34 = IntKind.u64.wrap (((((ws.set (0 : Nat) x30).set (1 : Nat) x31).set (2 : Nat) x32).set (3 : Nat) x33).getD (4 : Nat) (0 : Int) + s.getD (4 : Nat) (0 : Int)) → InR IntKind.u64 x34 → ∀ (x35 : Int), x35 = IntKind.u64.wrap ((((((ws.set (0 : Nat) x30).set (1 : Nat) x31).set (2 : Nat) x32).set (3 : Nat) x33).set (4 : Nat) x34).getD (5 : Nat) (0 : Int) + s.getD (5 : Nat) (0 : Int)) → InR IntKind.u64 x35 → ∀ (x36 : Int), x36 = IntKind.u64.wrap (((((((ws.set (0 : Nat) x30).set (1 : Nat) x31).set (2 : Nat) x32).set (3 : Nat) x33).set (4 : Nat) x34).set (5 : Nat) x35).getD (6 : Nat) (0 : Int) + s.getD (6 : Nat) (0 : Int)) → InR IntKind.u64 x36 → ∀ (x37 : Int), x37 = IntKind.u64.wrap ((((((((ws.set (0 : Nat) x30).set (1 : Nat) x31).set (2 : Nat) x32).set (3 : Nat) x33).set (4 : Nat) x34).set (5 : Nat) x35).set (6 : Nat) x36).getD (7 : Nat) (0 : Int) + s.getD (7 : Nat) (0 : Int)) → InR IntKind.u64 x37 → K [RV.v (SV.arr IntKind.u64 (8 : Nat) false ((((((((ws.set (0 : Nat) x30).set (1 : Nat) x31).set (2 : Nat) x32).set (3 : Nat) x33).set (4 : Nat) x34).set (5 : Nat) x35).set (6 : Nat) x36).set (7 : Nat) x37))] [])) := by
  intros
  kernel_rfl

theorem word_part (b : List Int) (o t : Nat) (ht : t < 16) : wordL b (o + 8 * t) = partw ((b.drop o).take 128) t 8 := by
  have h : ∀ k, k ≤ 8 → partw (b.drop (o + 8 * t)) 0 k = partw ((b.drop o).take 128) t k := by
    intro k
    induction k with
    | zero => intro _; rfl
    | succ k ih =>
      intro hk
      have e1 : (b.drop (o + 8 * t)).getD (8 * 0 + k) 0 = ((b.drop o).take 128).getD (8 * t + k) 0 := by
        rw [List.getD_eq_getElem?_getD, List.getD_eq_getElem?_getD, List.getElem?_drop, List.getElem?_take, if_pos (by omega), List.getElem?_drop]
        congr 2
        omega
      rw [partw, partw, ih (by omega), e1]
  exact h 8 (by omega)
def zero8 : List Int := [0, 0, 0, 0, 0, 0, 0, 0]
def inv47 (ws bl : List Int) (d : RO) (o : Int) (key : Nat) (ps : List Pv) (mm : Nat) : Prop :=
  (key = 3 ∧ ∃ t : Nat, t < 16 ∧ ps = [.ro d, .z o, .z (t : Int), .l K80, .l K80, .l ws, .l zero8, .l (prew bl t)] ∧ mm = 200 - t) ∨
  (key = 3 ∧ ∃ i : Nat, i ≤ 64 ∧ ps = [.ro d, .z o, .z ((16 + i : Nat) : Int), .l K80, .l K80, .l ws, .l zero8, .l (schs bl i)] ∧ mm = 184 - i) ∨
  (key = 14 ∧ ∃ t : Nat, t ≤ 80 ∧ ps = [.z (t : Int), .l K80, .l K80, .l ws, .l zero8, .l (schs bl 64), .l (rnds (schs bl 64) ws t)] ∧ mm = 80 - t)
def takeG : List AV → Option (List Prop × List RV × List (Option (List Seg)))
  | [.v (.arr .u64 8 _ ws), .d (.ints .u8) d, .v (.i .i64 ⟨_, o⟩)] => some ([0 ≤ o, o + 128 ≤ ((roL d).length : Int)], [.v (.arr .u64 8 false (compr ws (((roL d).drop o.toNat).take 128)))], [])
  | _ => none
set_option maxHeartbeats 2000000 in
theorem takeG_ok : CallOk Tryd.prog gh4 47 (genCtr [.v, .d (.ints .u8), .v] takeG) := by
  refine call_gen (fn := Tryd.f47) Δ1_ok rfl glow4 rfl (by kernel_rfl) (by kernel_rfl) _ takeG fun av p rvs fin hs hp hf => ?_
  unfold takeG at hs
  split at hs
  · rename_i e ws d st o
    simp only [Option.some.injEq, Prod.mk.injEq] at hs
    obtain ⟨rfl, rfl, rfl⟩ := hs
    have h0 : 0 ≤ o := hp.1
    have h1 : o + 128 ≤ ((roL d).length : Int) := hp.2.1
    obtain ⟨⟨hws, _⟩, ⟨_, hlen⟩, _⟩ := hf
    obtain ⟨bl, hbl⟩ : ∃ bl, ((roL d).drop o.toNat).take 128 = bl := ⟨_, rfl⟩
    rw [hbl]
    refine ⟨[.arr .u64 8 false ws, .ro 490 (.ints .u8) d, .i .i64 ⟨false, o⟩], [], L47, inv47 ws bl d o, ?okA, Nat.le_of_ble_eq_true (by kernel_rfl), ?_, ?_, ?_⟩
    case okA => exact ⟨rfl, rfl, rfl, trivial⟩
    · intro kk t ht g hg
      have hg : g ∈ [0, 1, 2, 3, 490] := hg
      simp only [List.mem_cons, List.not_mem_nil, or_false] at hg
      simp only [L47, List.mem_cons, List.not_mem_nil, or_false, Prod.mk.injEq] at ht
      obtain ⟨rfl, rfl⟩ | ⟨rfl, rfl⟩ := ht <;> rcases hg with rfl | rfl | rfl | rfl | rfl <;> exact ⟨by omega, rfl⟩
    · rintro vk t ps mm ht (⟨rfl, t', ht', rfl, rfl⟩ | ⟨rfl, i, hi, rfl, rfl⟩ | ⟨rfl, t', ht', rfl, rfl⟩)
      all_goals simp only [L47, List.mem_cons, List.not_mem_nil, or_false, Prod.mk.injEq, Nat.reduceEqDiff, false_and, true_and, false_or, or_false] at ht
      · subst ht
        show lc47a d o (t' : Int) K80 K80 ws zero8 (prew bl t') _ _
        rw [lc47a_eq]
        refine ⟨fun _ => ⟨fun _ => ?_, fun h => absurd (of_decide_eq_false h) (by omega)⟩, fun h => absurd (of_decide_eq_false h) (by omega)⟩
        intro x1 e1 _ x2 e2 _
        rw [wrap_i64 (by omega)] at e1
        rw [e1, wrap_i64 (by omega)] at e2
        refine ⟨need_of (by omega), need_of (by omega), ?_⟩
        intro x3 e3 _
        refine ⟨need_of (by omega), need_of (by omega), ?_⟩
        intro x4 e4 _ _ x5 e5 _
        rw [wrap_i64 (by omega)] at e5
        rw [show x2.toNat = o.toNat + 8 * t' by omega, word_part _ _ _ ht', hbl] at e3
        have e4 : x4 = prew bl (t' + 1) := by rw [e4, e3, Int.toNat_natCast]; rfl
        rw [e4, e5]
        by_cases hl : t' + 1 < 16
        · exact ⟨rfl, 200 - (t' + 1), by omega, Or.inl ⟨rfl, t' + 1, hl, rfl, rfl⟩⟩
        · obtain rfl : t' = 15 := by omega
          exact ⟨rfl, 184 - 0, by omega, Or.inr (Or.inl ⟨rfl, 0, by omega, rfl, rfl⟩)⟩
      · subst ht
        show lc47a d o ((16 + i : Nat) : Int) K80 K80 ws zero8 (schs bl i) _ _
        rw [lc47a_eq]
        refine ⟨fun hlt => ⟨fun h => absurd (of_decide_eq_true h) (by omega), fun _ => ?_⟩, fun hge => ?_⟩
        · have hlt := of_decide_eq_true hlt
          generalize hw : schs bl i = w
          intro x6 e6 _
          rw [wrap_i64 (by omega)] at e6
          refine ⟨need_of (by omega), need_of (by omega), ?_⟩
          intro x7 e7 _ x8 e8 _
          rw [wrap_i64 (by omega)] at e8
          refine ⟨need_of (by omega), need_of (by omega), ?_⟩
          intro x9 e9 _
          refine ⟨need_of (by omega), ?_⟩
          intro x10 e10 _
          refine ⟨need_of (by omega), ?_⟩
          intro x11 e11 _ x12 e12 _ x13 e13 _ x14 e14 _
          refine ⟨need_of (by omega), ?_⟩
          intro x15 e15 _
          refine ⟨need_of (by omega), ?_⟩
          intro x16 e16 _ x17 e17 _ x18 e18 _ x19 e19 _ x20 e20 _
          rw [wrap_i64 (by omega)] at e20
          refine ⟨need_of (by omega), need_of (by omega), ?_⟩
          intro x21 e21 _ x22 e22 _ x23 e23 _ x24 e24 _
          rw [wrap_i64 (by omega)] at e24
          refine ⟨need_of (by omega), need_of (by omega), ?_⟩
          intro x25 e25 _ x26 e26 _
          refine ⟨need_of (by omega), need_of (by omega), ?_⟩
          intro x27 e27 _ _ x28 e28 _
          rw [wrap_i64 (by omega)] at e28
          have i6 : x6.toNat = 16 + i - 2 := by omega
          have i8 : x8.toNat = 16 + i - 15 := by omega
          have i20 : x20.toNat = 16 + i - 7 := by omega
          have i24 : x24.toNat = 16 + i - 16 := by omega
          rw [i6] at e7
          rw [i8] at e9
          rw [i20] at e21
          rw [i24] at e25
          have hx : x26 = schw w (16 + i) := by
            rw [e26, e23, e22, e14, e12, e10, e11, e13, e19, e17, e15, e16, e18, e7, e9, e21, e25]; rfl
          have e27 : x27 = schs bl (i + 1) := by
            rw [e27, hx, Int.toNat_natCast, ← hw]; rfl
          rw [e27]
          refine ⟨rfl, 184 - (i + 1), by omega, Or.inr (Or.inl ⟨rfl, i + 1, by omega, ?_, rfl⟩)⟩
          rw [show x28 = ((16 + (i + 1) : Nat) : Int) by omega]
        · have hge := of_decide_eq_false hge
          obtain rfl : i = 64 := by omega
          exact ⟨rfl, 80 - 0, by omega, Or.inr (Or.inr ⟨rfl, 0, by omega, rfl, rfl⟩)⟩
      · subst ht
        show lc47b (t' : Int) K80 K80 ws zero8 (schs bl 64) (rnds (schs bl 64) ws t') _ _
        rw [lc47b_eq]
        obtain ⟨a, b, c, d', e, f, g, h, hst⟩ := len8 (rnds_len (schs bl 64) ws hws t')
        refine ⟨fun hlt => ?_, fun hge => ?_⟩
        · have hlt := of_decide_eq_true hlt
          rw [hst]
          generalize hw : schs bl 64 = w at *
          intro x1 e1 _ x2 e2 _ x3 e3 _ x4 e4 _ x5 e5 _ x6 e6 _ x7 e7 _ x8 e8 _ x9 e9 _
          refine ⟨need_of (by omega), ?_⟩
          intro x10 e10 _
          refine ⟨need_of (by omega), ?_⟩
          intro x11 e11 _ x12 e12 _
          refine ⟨need_of (by omega), ?_⟩
          intro x13 e13 _ x14 e14 _
          refine ⟨need_of (by omega), ?_⟩
          intro x15 e15 _
          refine ⟨need_of (by omega), ?_⟩
          intro x16 e16 _ x17 e17 _
          refine ⟨need_of (by omega), ?_⟩
          intro x18 e18 _ x19 e19 _ x20 e20 _ x21 e21 _
          refine ⟨need_of (by omega), need_of (by omega), ?_⟩
          intro x22 e22 _ x23 e23 _
          refine ⟨need_of (by omega), need_of (by omega), ?_⟩
          intro x24 e24 _ x25 e25 _ x26 e26 _ x27 e27 _ x28 e28 _ x29 e29 _
          rw [wrap_i64 (by omega)] at e29
          rw [Int.toNat_natCast] at e22 e24
          have hu : x25 = rndu (K80.getD t' 0) (w.getD t' 0) e f g h := by
            rw [e25, e23, e21, e20, e14, e12, e10, e11, e13, e4, e1, e3, e2, e22, e24]; rfl
          have ha : x27 = rnda (rndu (K80.getD t' 0) (w.getD t' 0) e f g h) a b c := by
            rw [e27, e26, e19, e17, e15, e16, e18, e9, e7, e5, e6, e8, hu]; rfl
          have hd : x28 = IntKind.u64.wrap (d' + rndu (K80.getD t' 0) (w.getD t' 0) e f g h) := by
            rw [e28, hu]; rfl
          refine ⟨rfl, 80 - (t' + 1), by omega, Or.inr (Or.inr ⟨rfl, t' + 1, by omega, ?_, rfl⟩)⟩
          rw [hw, rnds, hst, ha, hd, e29]
          rfl
        · have hge := of_decide_eq_false hge
          obtain rfl : t' = 80 := by omega
          rw [hst]
          obtain ⟨w0, w1, w2, w3, w4, w5, w6, w7, rfl⟩ := len8 hws
          intro x30 e30 _ x31 e31 _ x32 e32 _ x33 e33 _ x34 e34 _ x35 e35 _ x36 e36 _ x37 e37 _
          refine ⟨⟨?_, trivial⟩, trivial⟩
          show _ = compr _ _
          have e30 : x30 = IntKind.u64.wrap (w0 + a) := e30
          have e31 : x31 = IntKind.u64.wrap (w1 + b) := e31
          have e32 : x32 = IntKind.u64.wrap (w2 + c) := e32
          have e33 : x33 = IntKind.u64.wrap (w3 + d') := e33
          have e34 : x34 = IntKind.u64.wrap (w4 + e) := e34
          have e35 : x35 = IntKind.u64.wrap (w5 + f) := e35
          have e36 : x36 = IntKind.u64.wrap (w6 + g) := e36
          have e37 : x37 = IntKind.u64.wrap (w7 + h) := e37
          rw [compr, hst, e30, e31, e32, e33, e34, e35, e36, e37]
          rfl
    · show vc47 ws d o _ _
      rw [vc47_eq]
      exact ⟨rfl, 200 - 0, Or.inl ⟨rfl, 0, by omega, rfl, rfl⟩⟩
  · cases hs
def Δ2 : Tab := ⟨tys, (47, genCtr [.v, .d (.ints .u8), .v] takeG) :: Δ1.ctr, [0, 1, 2, 3], gh4⟩
theorem Δ2_ok : TabOk Tryd.prog Δ2 := Δ1_ok.cons takeG_ok
end Go.Gx

/- The hash of bytes, by blocks of the padded message. -/
namespace Go.Sp
open Go.Gx
def padK0 (n : Nat) : Nat := (239 - n % 128) % 128
/-- What is put behind n bytes. -/
def padT (n : Nat) : List Int := 128 :: (List.replicate (padK0 n) 0 ++ (be8 0 ++ be8 (8 * (n : Int))))
end Go.Sp
namespace Go.Gx
open Go.Proofs Go.Sp
set_option linter.unusedVariables false
set_option maxRecDepth 100000

theorem be8_len (x : Int) : (be8 x).length = 8 := rfl
theorem padT_len (n : Nat) : (padT n).length = padK0 n + 17 := by
  unfold padT
  simp only [List.length_cons, List.length_append, List.length_replicate, be8_len]
theorem pad_mult (n : Nat) : (n + (padT n).length) % 128 = 0 := by
  rw [padT_len]
  unfold padK0
  omega
theorem splice_full (l t : List Int) (j : Nat) (h : l.length ≤ j + t.length) : splice l j t = l.take j ++ t := by
  unfold splice
  rw [List.drop_of_length_le (by omega), List.append_nil]
theorem set_right (A B : List Int) (j : Nat) (v : Int) (i : Nat) (hi : i = A.length + j) : (A ++ B).set i v = A ++ B.set j v := by
  subst hi
  rw [List.set_append_right _ _ (by omega), Nat.add_sub_cancel_left]
theorem setlen_app (A : List Int) (hA : A.length = 112) (n : Int) : setlen (A ++ List.replicate 16 0) n = A ++ (be8 (hin n) ++ be8 (lon n)) := by
  unfold setlen
  rw [set_right A _ 7 _ 119 (by omega), set_right A _ 15 _ 127 (by omega), set_right A _ 6 _ 118 (by omega), set_right A _ 14 _ 126 (by omega),
    set_right A _ 5 _ 117 (by omega), set_right A _ 13 _ 125 (by omega), set_right A _ 4 _ 116 (by omega), set_right A _ 12 _ 124 (by omega),
    set_right A _ 3 _ 115 (by omega), set_right A _ 11 _ 123 (by omega), set_right A _ 2 _ 114 (by omega), set_right A _ 10 _ 122 (by omega),
    set_right A _ 1 _ 113 (by omega), set_right A _ 9 _ 121 (by omega), set_right A _ 0 _ 112 (by omega), set_right A _ 8 _ 120 (by omega)]
  rfl
theorem hin_of (n : Nat) (h : n ≤ 1152921504606846976) : hin (n : Int) = 0 ∧ lon (n : Int) = 8 * (n : Int) := by
  have hw : IntKind.u64.wrap (n : Int) = (n : Int) := wrap_of_InR (show 0 ≤ (n : Int) ∧ (n : Int) < 18446744073709551616 by omega)
  unfold hin lon
  rw [hw]
  omega
theorem endb_of (bl : List Int) (hbl : bl.length = 128) (n r : Nat) (hr : r = n % 128) : endb bl (n : Int) = bl.take r ++ (128 :: List.replicate (127 - r) 0) := by
  have h1 : ((n : Int).tmod 128).toNat = r := by
    rw [Int.tmod_eq_emod_of_nonneg (by omega)]; omega
  have h2 : (128 - (n : Int).tmod 128).toNat = 127 - r + 1 := by
    rw [Int.tmod_eq_emod_of_nonneg (by omega)]; omega
  have h3 : (bl.take r).length = r := by rw [List.length_take]; omega
  unfold endb
  rw [h1, h2, splice_full _ _ _ (by rw [List.length_replicate]; omega), set_right _ _ 0 _ r (by omega), List.replicate_succ, List.set_cons_zero]
theorem rep_add (a b : Nat) : List.replicate (a + b) (0 : Int) = List.replicate a 0 ++ List.replicate b 0 := List.replicate_append_replicate.symm
/-- The last blocks. -/
theorem finw_feed (s : HS) (n : Nat) (hn : s.n = (n : Int)) (hbl : s.bl.length = 128) (h : n ≤ 1152921504606846976) : finw s.ws s.bl (n : Int) = (feed (padT n) s).ws := by
  obtain ⟨hh, hl⟩ := hin_of n h
  have hm : (s.n % 128).toNat = n % 128 := by rw [hn]; omega
  have hE := endb_of s.bl hbl n (n % 128) rfl
  have h3 : (s.bl.take (n % 128)).length = n % 128 := by rw [List.length_take]; omega
  have hlt : n % 128 < 128 := Nat.mod_lt _ (by omega)
  have htm : (n : Int).tmod 128 = ((n % 128 : Nat) : Int) := by rw [Int.tmod_eq_emod_of_nonneg (by omega)]; omega
  generalize hr : n % 128 = r at *
  unfold finw
  rw [htm, hE]
  by_cases hc : r < 112
  · rw [if_neg (by omega)]
    have hk : padK0 n = 111 - r := by unfold padK0; rw [hr]; omega
    have hpl : (padT n).length = 128 - r := by rw [padT_len, hk]; omega
    rw [feed_chunk (padT n) s (by omega) hbl (by omega) (by unfold padT; simp), hm, if_pos (by omega), splice_full _ _ _ (by omega)]
    rw [show 127 - r = (111 - r) + 16 by omega, rep_add, ← List.cons_append, ← List.append_assoc, setlen_app _ (by simp; omega), hh, hl]
    unfold padT
    rw [hk]
    simp only [List.append_assoc, List.cons_append]
  · rw [if_pos (by omega)]
    have hk : padK0 n = (127 - r) + 112 := by unfold padK0; rw [hr]; omega
    have hsplit : padT n = (128 :: List.replicate (127 - r) 0) ++ (List.replicate 112 0 ++ (be8 0 ++ be8 (8 * (n : Int)))) := by
      unfold padT
      rw [hk, rep_add]
      simp only [List.append_assoc, List.cons_append]
    have hl1 : (128 :: List.replicate (127 - r) (0 : Int)).length = 128 - r := by simp; omega
    have hl2 : (List.replicate 112 (0 : Int) ++ (be8 0 ++ be8 (8 * (n : Int)))).length = 128 := by
      simp only [List.length_append, List.length_replicate, be8_len]
    have hs1 : splice s.bl r (128 :: List.replicate (127 - r) (0 : Int)) = s.bl.take r ++ 128 :: List.replicate (127 - r) 0 := splice_full _ _ _ (by omega)
    have hs2 : (s.bl.take r ++ 128 :: List.replicate (127 - r) (0 : Int)).length = 128 := by rw [List.length_append]; omega
    rw [hsplit, feed_append, feed_chunk (128 :: List.replicate (127 - r) 0) s (by omega) hbl (by omega) (by simp), hm, if_pos (by omega), hs1]
    rw [feed_chunk _ _ (by dsimp only; omega) hs2 (by dsimp only; omega) (by simp)]
    dsimp only
    have h0 : ((s.n + ((128 :: List.replicate (127 - r) (0 : Int)).length : Int)) % 128).toNat = 0 := by rw [hn, hl1]; omega
    rw [h0, if_pos (by omega), splice_full _ (List.replicate 112 (0 : Int) ++ (be8 0 ++ be8 (8 * (n : Int)))) 0 (by omega), List.take_zero, List.nil_append]
    have h9 : splice (s.bl.take r ++ 128 :: List.replicate (127 - r) (0 : Int)) 0 (List.replicate 128 0) = List.replicate 112 0 ++ List.replicate 16 0 := by
      rw [splice_full _ _ _ (by rw [hs2]; simp), ← rep_add]; rfl
    rw [h9, setlen_app _ (by simp), hh, hl]
theorem feed_bl0 (b : List Int) : (feed b st0).bl.length = 128 := by rw [feed_bl]; simp [st0]
theorem sha_pad (b : List Int) (h : b.length ≤ 1152921504606846976) : sha b = outb (feed (b ++ padT b.length) st0).ws := by
  have hn := feed_st0 b
  unfold sha sumL
  rw [if_pos rfl, feed_append, hn, finw_feed (feed b st0) b.length hn (feed_bl0 b) h]
/-- One block more. -/
theorem feed_block (p : List Int) (j : Nat) (h : 128 * j + 128 ≤ p.length) : (feed (p.take (128 * (j + 1))) st0).ws = compr (feed (p.take (128 * j)) st0).ws ((p.drop (128 * j)).take 128) := by
  have hs : p.take (128 * (j + 1)) = p.take (128 * j) ++ (p.drop (128 * j)).take 128 := by
    rw [show 128 * (j + 1) = 128 * j + 128 by omega, List.take_add]
  have hl : ((p.drop (128 * j)).take 128).length = 128 := by rw [List.length_take, List.length_drop]; omega
  have hl1 : (p.take (128 * j)).length = 128 * j := by rw [List.length_take]; omega
  have hn := feed_st0 (p.take (128 * j))
  have hb := feed_bl0 (p.take (128 * j))
  rw [hl1] at hn
  have hm : ((feed (p.take (128 * j)) st0).n % 128).toNat = 0 := by rw [hn]; omega
  rw [hs, feed_append, feed_chunk _ _ (by omega) hb (by omega) (by intro e; rw [e] at hl; simp at hl), hm, if_pos (by omega), splice_full _ _ _ (by omega), List.take_zero, List.nil_append]
end Go.Gx

/- The reference's hash. -/
namespace Go.Gx
open Go.Proofs Go.Sp
set_option linter.unusedVariables false
set_option maxRecDepth 100000

def L43 : Loops := [(3, ⟨[.any, .p 1000 0, .nsl, .sl 1001 0 1 ⟨true, 0⟩ ⟨true, 64⟩, .i .i64 ⟨false, 0⟩] ++ reps .any 12, gh4 ++ [(490, .world), (1000, .segs false [.arr .u8 64 false []]), (1001, .segs false [.rowI .u8 []])], 2000⟩)]
def vc43 (a : List Int) (K : List RV → List (Option (List Seg)) → Prop) (Q : Nat → List Pv → Prop) : Prop := fnVcG 0 Δ2 Tryd.f43 L43 [.arr .u8 64 false a] (gh4 ++ (490, .world) :: []) K Q
def lc43 (i : Int) (g g' a l : List Int) (K : List RV → List (Option (List Seg)) → Prop) (Q : Nat → List Pv → Prop) : Prop := loopVcG 0 Δ2 Tryd.f43 L43 3 [.z i, .l g, .l g', .l a, .l l] K Q
def L37 : Loops := [(3, ⟨[.ro 490 (.ints .u8) (.l []), .any, .p 1000 0, .sl 1001 0 1 ⟨true, 0⟩ ⟨false, 0⟩] ++ reps .any 61, gh4 ++ [(490, .world), (1000, .segs false [.arr .u8 64 false []]), (1001, .segs false [.rowI .u8 []])], 2000⟩),
  (9, ⟨[.any, .any, .p 1000 0, .sl 1001 0 1 ⟨true, 0⟩ ⟨false, 0⟩, .p 1002 0, .i .i64 ⟨false, 0⟩] ++ reps .any 59, gh4 ++ [(490, .world), (1000, .segs false [.arr .u8 64 false []]), (1001, .segs false [.rowI .u8 []]), (1002, .segs false [.arr .u64 8 false []])], 2000⟩)]
def vc37 (d : RO) (K : List RV → List (Option (List Seg)) → Prop) (Q : Nat → List Pv → Prop) : Prop := fnVcG 0 Δ2 Tryd.f37 L37 [.ro 490 (.ints .u8) d] (gh4 ++ (490, .world) :: []) K Q
def lc37a (d : RO) (z : Int) (g g' r l : List Int) (K : List RV → List (Option (List Seg)) → Prop) (Q : Nat → List Pv → Prop) : Prop := loopVcG 0 Δ2 Tryd.f37 L37 3 [.ro d, .z z, .l g, .l g', .l r, .l l] K Q
def lc37b (z i : Int) (g g' r l s : List Int) (K : List RV → List (Option (List Seg)) → Prop) (Q : Nat → List Pv → Prop) : Prop := loopVcG 0 Δ2 Tryd.f37 L37 9 [.z z, .z i, .l g, .l g', .l r, .l l, .l s] K Q
theorem vc43_eq : ∀ (a : List Int) (K : List RV → List (Option (List Seg)) → Prop) (Q : Nat → List Pv → Prop), vc43 a K Q = (Need ((0 : Int) ≤ (64 : Int) ∧ (64 : Int) ≤ (64 : Int) ∧ (64 : Int) ≤ (70368744177664 : Int)) ∧ ∀ (x1 : List Int), x1 = List.replicate (64 : Nat) (0 : Int) → AllR IntKind.u8 x1 → Same Tryd.f43 (3 : Nat) (itemsOf Tryd.f43 (3 : Nat)) ∧ Q (3 : Nat) [Pv.z (0 : Int), Pv.l K80, Pv.l K80, Pv.l a, Pv.l x1]) := by
  intros
  kernel_rfl
theorem lc43_eq : ∀ (i : Int) (g g' a l : List Int) (K : List RV → List (Option (List Seg)) → Prop) (Q : Nat → List Pv → Prop), lc43 i g g' a l K Q = ((decide (i < (64 : Int)) = true → Need ((0 : Int) ≤ i ∧ i < (64 : Int)) ∧ Need ((0 : Int) ≤ i ∧ i < (64 : Int)) ∧ ∀ (x1 : Int), x1 = a.getD i.toNat (0 : Int) → InR IntKind.u8 x1 → Need ((0 : Int) ≤ i ∧ i < (64 : Int)) ∧ Need ((0 : Int) ≤ i ∧ i < ↑l.length) ∧ ∀ (x2 : List Int), x2 = l.set i.toNat x1 → AllR IntKind.u8 x2 → ∀ (x3 : Int), x3 = IntKind.i64.wrap (i + (1 : Int)) → InR IntKind.i64 x3 → Same Tryd.f43 (3 : Nat) (itemsOf Tryd.f43 (3 : Nat)) ∧ Q (3 : Nat) [Pv.z x3, Pv.l g, Pv.l g', Pv.l a, Pv.l x2]) ∧ (decide (i < (64 : Int)) = false → Need ((64 : Int) ≤ ↑l.length) ∧ K [RV.row (Con.ints IntKind.u8 (List.take (64 : Nat) (List.drop (0 : Nat) l)))] [])) := by
  intros
  kernel_rfl
theorem vc37_eq : ∀ (d : RO) (K : List RV → List (Option (List Seg)) → Prop) (Q : Nat → List Pv → Prop), vc37 d K Q = (Need ((([] ++ roL d).length : Int) * (1 : Int) ≤ (70368744177664 : Int)) ∧ ∀ (x1 : List Int), x1 = [] ++ roL d → AllR IntKind.u8 x1 → ∀ (x2 : Int), x2 = (([] ++ roL d).length : Int) → (0 : Int) ≤ x2 → InR IntKind.i64 x2 → Need (↑(x1 ++ List.take (1 : Nat) (List.drop (0 : Nat) [(128 : Int)])).length * (1 : Int) ≤ (70368744177664 : Int)) ∧ Need (x2 = ↑x1.length) ∧ Need ((1 : Int) ≤ (1 : Int)) ∧ ∀ (x3 : List Int), x3 = x1 ++ List.take (1 : Nat) (List.drop (0 : Nat) [(128 : Int)]) → AllR IntKind.u8 x3 → ∀ (x4 : Int), x4 = ↑(x1 ++ List.take (1 : Nat) (List.drop (0 : Nat) [(128 : Int)])).length → (0 : Int) ≤ x4 → InR IntKind.i64 x4 → Same Tryd.f37 (3 : Nat) (itemsOf Tryd.f37 (3 : Nat)) ∧ Q (3 : Nat) [Pv.ro d, Pv.z x4, Pv.l K80, Pv.l K80, Pv.l (List.replicate (64 : Nat) (0 : Int)), Pv.l x3]) := by
  intros
  kernel_rfl
theorem lc37a_eq : ∀ (d : RO) (z : Int) (g g' r l : List Int) (K : List RV → List (Option (List Seg)) → Prop) (Q : Nat → List Pv → Prop), lc37a d z g g' r l K Q = ∀ (x1 : Int), x1 = z.tmod (128 : Int) → InR IntKind.i64 x1 → ((x1 != (112 : Int)) = true → Need (↑(l ++ List.take (1 : Nat) (List.drop (0 : Nat) [(0 : Int)])).length * (1 : Int) ≤ (70368744177664 : Int)) ∧ Need (z = ↑l.length) ∧ Need ((1 : Int) ≤ (1 : Int)) ∧ ∀ (x2 : List Int), x2 = l ++ List.take (1 : Nat) (List.drop (0 : Nat) [(0 : Int)]) → AllR IntKind.u8 x2 → ∀ (x3 : Int), x3 = ↑(l ++ List.take (1 : Nat) (List.drop (0 : Nat) [(0 : Int)])).length → (0 : Int) ≤ x3 → InR IntKind.i64 x3 → Same Tryd.f37 (3 : Nat) (itemsOf Tryd.f37 (3 : Nat)) ∧ Q (3 : Nat) [Pv.ro d, Pv.z x3, Pv.l g, Pv.l g', Pv.l r, Pv.l x2]) ∧ ((x1 != (112 : Int)) = false → ∀ (x4 : List Int), x4 = be8 (0 : Int) → AllR IntKind.u8 x4 → ∀ (x5 : Int), x5 = (8 : Int) → (0 : Int) ≤ x5 → InR IntKind.i64 x5 → Need (↑(l ++ List.take x5.toNat (List.drop (0 : Nat) x4)).length * (1 : Int) ≤ (70368744177664 : Int)) ∧ Need (z = ↑l.length) ∧ Need ((0 : Int) + x5 ≤ ↑x4.length) ∧ ∀ (x6 : List Int), x6 = l ++ List.take x5.toNat (List.drop (0 : Nat) x4) → AllR IntKind.u8 x6 → ∀ (x7 : Int), x7 = ↑(l ++ List.take x5.toNat (List.drop (0 : Nat) x4)).length → (0 : Int) ≤ x7 → InR IntKind.i64 x7 → ∀ (x8 : Int), x8 = IntKind.u64.wrap ((roL d).length : Int) → InR IntKind.u64 x8 → ∀ (x9 : Int), x9 = IntKind.u64.wrap ((8 : Int) * x8) → InR IntKind.u64 x9 → ∀ (x10 : List Int), x10 = be8 x9 → AllR IntKind.u8 x10 → ∀ (x11 : Int), x11 = ((be8 x9).length : Int) → (0 : Int) ≤ x11 → InR IntKind.i64 x11 → Need (↑(x6 ++ List.take x11.toNat (List.drop (0 : Nat) x10)).length * (1 : Int) ≤ (70368744177664 : Int)) ∧ Need (x7 = ↑x6.length) ∧ Need ((0 : Int) + x11 ≤ ↑x10.length) ∧ ∀ (x12 : List Int), x12 = x6 ++ List.take x11.toNat (List.drop (0 : Nat) x10) → AllR IntKind.u8 x12 → ∀ (x13 : Int), x13 = ↑(x6 ++ List.take x11.toNat (List.drop (0 : Nat) x10)).length → (0 : Int) ≤ x13 → InR IntKind.i64 x13 → Same Tryd.f37 (9 : Nat) (itemsOf Tryd.f37 (9 : Nat)) ∧ Q (9 : Nat) [Pv.z x13, Pv.z (0 : Int), Pv.l g, Pv.l g', Pv.l r, Pv.l x12, Pv.l [(7640891576956012808 : Int), (13503953896175478587 : Int), (4354685564936845355 : Int), (11912009170470909681 : Int), (5840696475078001361 : Int), (11170449401992604703 : Int), (2270897969802886507 : Int), (6620516959819538809 : Int)]]) := by
  intros
  kernel_rfl
theorem lc37b_eq : ∀ (z i : Int) (g g' r l s : List Int) (K : List RV → List (Option (List Seg)) → Prop) (Q : Nat → List Pv → Prop), lc37b z i g g' r l s K Q = ((decide (i < z) = true → Need ((0 : Int) + z ≤ ↑l.length) ∧ Need ((0 : Int) ≤ i) ∧ Need (i + (128 : Int) ≤ ↑(roL (RO.l (List.take z.toNat (List.drop (0 : Nat) l)))).length) ∧ ∀ (x1 : List Int), x1 = compr s (List.take (128 : Nat) (List.drop i.toNat (roL (RO.l (List.take z.toNat (List.drop (0 : Nat) l)))))) → x1.length = (8 : Nat) → AllR IntKind.u64 x1 → ∀ (x2 : Int), x2 = IntKind.i64.wrap (i + (128 : Int)) → InR IntKind.i64 x2 → Same Tryd.f37 (9 : Nat) (itemsOf Tryd.f37 (9 : Nat)) ∧ Q (9 : Nat) [Pv.z z, Pv.z x2, Pv.l g, Pv.l g', Pv.l r, Pv.l l, Pv.l x1]) ∧ (decide (i < z) = false → ∀ (x3 : List Int), x3 = be8 (s.getD (0 : Nat) (0 : Int)) → AllR IntKind.u8 x3 → ∀ (x4 : Int), x4 = ↑(be8 (s.getD (0 : Nat) (0 : Int))).length → (0 : Int) ≤ x4 → InR IntKind.i64 x4 → Need ((0 : Int) ≤ (0 : Int) ∧ (0 : Int) < x4) ∧ Need ((0 : Nat) + (1 : Nat) * (0 : Nat) < x3.length) ∧ Need ((0 : Int) ≤ (1 : Int) ∧ (1 : Int) < x4) ∧ Need ((0 : Nat) + (1 : Nat) * (1 : Nat) < x3.length) ∧ Need ((0 : Int) ≤ (2 : Int) ∧ (2 : Int) < x4) ∧ Need ((0 : Nat) + (1 : Nat) * (2 : Nat) < x3.length) ∧ Need ((0 : Int) ≤ (3 : Int) ∧ (3 : Int) < x4) ∧ Need ((0 : Nat) + (1 : Nat) * (3 : Nat) < x3.length) ∧ Need ((0 : Int) ≤ (4 : Int) ∧ (4 : Int) < x4) ∧ Need ((0 : Nat) + (1 : Nat) * (4 : Nat) < x3.length) ∧ Need ((0 : Int) ≤ (5 : Int) ∧ (5 : Int) < x4) ∧ Need ((0 : Nat) + (1 : Nat) * (5 : Nat) < x3.length) ∧ Need ((0 : Int) ≤ (6 : Int) ∧ (6 : Int) < x4) ∧ Need ((0 : Nat) + (1 : Nat) * (6 : Nat) < x3.length) ∧ Need ((0 : Int) ≤ (7 : Int) ∧ (7 : Int) < x4) ∧ Need ((0 : Nat) + (1 : Nat) * (7 : Nat) < x3.length) ∧ ∀ (x5 : List Int), x5 = be8 (s.getD (1 : Nat) (0 : Int)) → AllR IntKind.u8 x5 → ∀ (x6 : Int), x6 = ↑(be8 (s.getD (1 : Nat) (0 : Int))).length → (0 : Int) ≤ x6 → InR IntKind.i64 x6 → Need ((0 : Int) ≤ (0 : Int) ∧ (0 : Int) < x6) ∧ Need ((0 : Nat) + (1 : Nat) * (0 : Nat) < x5.length) ∧ Need ((0 : Int) ≤ (1 : Int) ∧ (1 : Int) < x6) ∧ Need ((0 : Nat) + (1 : Nat) * (1 : Nat) < x5.length) ∧ Need ((0 : Int) ≤ (2 : Int) ∧ (2 : Int) < x6) ∧ Need ((0 : Nat) + (1 : Nat) * (2 : Nat) < x5.length) ∧ Need ((0 : Int) ≤ (3 : Int) ∧ (3 : Int) < x6) ∧ Need ((0 : Nat) + (1 : Nat) * (3 : Nat) < x5.length) ∧ Need ((0 : Int) ≤ (4 : Int) ∧ (4 : Int) < x6) ∧ Need ((0 : Nat) + (1 : Nat) * (4 : Nat) < x5.length) ∧ Need ((0 : Int) ≤ (5 : Int) ∧ (5 : Int) < x6) ∧ Need ((0 : Nat) + (1 : Nat) * (5 : Nat) < x5.length) ∧ Need ((0 : Int) ≤ (6 : Int) ∧ (6 : Int) < x6) ∧ Need ((0 : Nat) + (1 : Nat) * (6 : Nat) < x5.length) ∧ Need ((0 : Int) ≤ (7 : Int) ∧ (7 : Int) < x6) ∧ Need ((0 : Nat) + (1 : Nat) * (7 : Nat) < x5.length) ∧ ∀ (x7 : List Int), x7 = be8 (s.getD (2 : Nat) (0 : Int)) → AllR IntKind.u8 x7 → ∀ (x8 : Int), x8 = ↑(be8 (s.getD (2 : Nat) (0 : Int))).length → (0 : Int) ≤ x8 → InR IntKind.i64 x8 → Need ((0 : Int) ≤ (0 : Int) ∧ (0 : Int) < x8) ∧ Need ((0 : Nat) + (1 : Nat) * (0 : Nat) < x7.length) ∧ Need ((0 : Int) ≤ (1 : Int) ∧ (1 : Int) < x8) ∧ Need ((0 : Nat) + (1 : Nat) * (1 : Nat) < x7.length) ∧ Need ((0 : Int) ≤ (2 : Int) ∧ (2 : Int) < x8) ∧ Need ((0 : Nat) + (1 : Nat) * (2 : Nat) < x7.length) ∧ Need ((0 : Int) ≤ (3 : Int) ∧ (3 : Int) < x8) ∧ Need ((0 : Nat) + (1 : Nat) * (3 : Nat) < x7.length) ∧ Need ((0 : Int) ≤ (4 : Int) ∧ (4 : Int) < x8) ∧ Need ((0 : Nat) + (1 : Nat) * (4 : Nat) < x7.length) ∧ Need ((0 : Int) ≤ (5 : Int) ∧ (5 : Int) < x8) ∧ Need ((0 : Nat) + (1 : Nat) * (5 : Nat) < x7.length) ∧ Need ((0 : Int) ≤ (6 : Int) ∧ (6 : Int) < x8) ∧ Need ((0 : Nat) + (1 : Nat) * (6 : Nat) < x7.length) ∧ Need ((0 : Int) ≤ (7 : Int) ∧ (7 : Int) < x8) ∧ Need ((0 : Nat) + (1 : Nat) * (7 : Nat) < x7.length) ∧ ∀ (x9 : List Int), x9 = be8 (s.getD (3 : Nat) (0 : Int)) → AllR IntKind.u8 x9 → ∀ (x10 : Int), x10 = ↑(be8 (s.getD (3 : Nat) (0 : Int))).length → (0 : Int) ≤ x10 → InR IntKind.i64 x10 → Need ((0 : Int) ≤ (0 : Int) ∧ (0 : Int) < x10) ∧ Need ((0 : Nat) + (1 : Nat) * (0 : Nat) < x9.length) ∧ Need ((0 : Int) ≤ (1 : Int) ∧ (1 : Int) < x10) ∧ Need ((0 : Nat) + (1 : Nat) * (1 : Nat) < x9.length) ∧ Need ((0 : Int) ≤ (2 : Int) ∧ (2 : Int) < x10) ∧ Need ((0 : Nat) + (1 : Nat) * (2 : Nat) < x9.length) ∧ Need ((0 : Int) ≤ (3 : Int) ∧ (3 : Int) < x10) ∧ Need ((0 : Nat) + (1 : Nat) * (3 : Nat) < x9.length) ∧ Need ((0 : Int) ≤ (4 : Int) ∧ (4 : Int) < x10) ∧ Need ((0 : Nat) + (1 : Nat) * (4 : Nat) < x9.length) ∧ Need ((0 : Int) ≤ (5 : Int) ∧ (5 : Int) < x10) ∧ Need ((0 : Nat) + (1 : Nat) * (5 : Nat) < x9.length) ∧ Need ((0 : Int) ≤ (6 : Int) ∧ (6 : Int) < x10) ∧ Need ((0 : Nat) + (1 : Nat) * (6 : Nat) < x9.length) ∧ Need ((0 : Int) ≤ (7 : Int) ∧ (7 : Int) < x10) ∧ Need ((0 : Nat) + (1 : Nat) * (7 : Nat) < x9.length) ∧ ∀ (x11 : List Int), x11 = be8 (s.getD (4 : Nat) (0 : Int)) → AllR IntKind.u8 x11 → ∀ (x12 : Int), x12 = ↑(be8 (s.getD (4 : Nat) (0 : Int))).length → (0 : Int) ≤ x12 → InR IntKind.i64 x12 → Need ((0 : Int) ≤ (0 : Int) ∧ (0 : Int) < x12) ∧ Need ((0 : Nat) + (1 : Nat) * (0 : Nat) < x11.length) ∧ Need ((0 : Int) ≤ (1 : Int) ∧ (1 : Int) < x12) ∧ Need ((0 : Nat) + (1 : Nat) * (1 : Nat) < x11.length) ∧ Need ((0 : Int) ≤ (2 : Int) ∧ (2 : Int) < x12) ∧ Need ((0 : Nat) + (1 : Nat) * (2 : Nat) < x11.length) ∧ Need ((0 : Int) ≤ (3 : Int) ∧ (3 : Int) < x12) ∧ Need ((0 : Nat) + (1 : Nat) * (3 : Nat) < x11.length) ∧ Need ((0 : Int) ≤ (4 : Int) ∧ (4 : Int) < x12) ∧ Need ((0 : Nat) + (1 : Nat) * (4 : Nat) < x11.length) ∧ Need ((0 : Int) ≤ (5 : Int) ∧ (5 : Int) < x12) ∧ Need ((0 : Nat) + (1 : Nat) * (5 : Nat) < x11.length) ∧ Need ((0 : Int) ≤ (6 : Int) ∧ (6 : Int) < x12) ∧ Need ((0 : Nat) + (1 : Nat) * (6 : Nat) < x11.length) ∧ Need ((0 : Int) ≤ (7 : Int) ∧ (7 : Int) < x12) ∧ Need ((0 : Nat) + (1 : Nat) * (7 : Nat) < x11.length) ∧ ∀ (x13 : List Int), x13 = be8 (s.getD (5 : Nat) (0 : Int)) → AllR IntKind.u8 x13 → ∀ (x14 : Int), x14 = ↑(be8 (s.getD (5 : Nat) (0 : Int))).length → (0 : Int) ≤ x14 → InR IntKind.i64 x14 → Need ((0 : Int) ≤ (0 : Int) ∧ (0 : Int) < x14) ∧ Need ((0 : Nat) + (1 : Nat) * (0 : Nat) < x13.length) ∧ Need ((0 : Int) ≤ (1 : Int) ∧ (1 : Int) < x14) ∧ Need ((0 : Nat) + (1 : Nat) * (1 : Nat) < x13.length) ∧ Need ((0 : Int) ≤ (2 : Int) ∧ (2 : Int) < x14) ∧ Need ((0 : Nat) + (1 : Nat) * (2 : Nat) < x13.length) ∧ Need ((0 : Int) ≤ (3 : Int) ∧ (3 : Int) < x14) ∧ Need ((0 : Nat) + (1 : Nat) * (3 : Nat) < x13.length) ∧ Need ((0 : Int) ≤ (4 : Int) ∧ (4 : Int) < x14) ∧ Need ((0 : Nat) + (1 : Nat) * (4 : Nat) < x13.length) ∧ Need ((0 : Int) ≤ (5 : Int) ∧ (5 : Int) < x14) ∧ Need ((0 : Nat) + (1 : Nat) * (5 : Nat) < x13.length) ∧ Need ((0 : Int) ≤ (6 : Int) ∧ (6 : Int) < x14) ∧ Need ((0 : Nat) + (1 : Nat) * (6 : Nat) < x13.length) ∧ Need ((0 : Int) ≤ (7 : Int) ∧ (7 : Int) < x14) ∧ Need ((0 : Nat) + (1 : Nat) * (7 : Nat) < x13.length) ∧ ∀ (x15 : List Int), x15 = be8 (s.getD (6 : Nat) (0 : Int)) → AllR IntKind.u8 x15 → ∀ (x16 : Int), x16 = ↑(be8 (s.getD (6 : Nat) (0 : Int))).length → (0 : Int) ≤ x16 → InR IntKind.i64 x16 → Need ((0 : Int) ≤ (0 : Int) ∧ (0 : Int) < x16) ∧ Need ((0 : Nat) + (1 : Nat) * (0 : Nat) < x15.length) ∧ Need ((0 : Int) ≤ (1 : Int) ∧ (1 : Int) < x16) ∧ Need ((0 : Nat) + (1 : Nat) * (1 : Nat) < x15.length) ∧ Need ((0 : Int) ≤ (2 : Int) ∧ (2 : Int) < x16) ∧ Need ((0 : Nat) + (1 : Nat) * (2 : Nat) < x15.length) ∧ Need ((0 : Int) ≤ (3 : Int) ∧ (3 : Int) < x16) ∧ Need ((0 : Nat) + (1 : Nat) * (3 : Nat) < x15.length) ∧ Need ((0 : Int) ≤ (4 : Int) ∧ (4 : Int) < x16) ∧ Need ((0 : Nat) + (1 : Nat) * (4 : Nat) < x15.length) ∧ Need ((0 : Int) ≤ (5 : Int) ∧ (5 : Int) < x16) ∧ Need ((0 : Nat) + (1 : Nat) * (5 : Nat) < x15.length) ∧ Need ((0 : Int) ≤ (6 : Int) ∧ (6 : Int) < x16) ∧ Need ((0 : Nat) + (1 : Nat) * (6 : Nat) < x15.length) ∧ Need ((0 : Int) ≤ (7 : Int) ∧ (7 : Int) < x16) ∧ Need ((0 : Nat) + (1 : Nat) * (7 : Nat) < x15.length) ∧ ∀ (x17 : List Int), x17 = be8 (s.getD (7 : Nat) (0 : Int)) → AllR IntKind.u8 x17 → ∀ (x18 : Int), x18 = ↑(be8 (s.getD (7 : Nat) (0 : Int))).length → (0 : Int) ≤ x18 → InR IntKind.i64 x18 → Need ((0 : Int) ≤ (0 : Int) ∧ (0 : Int) < x18) ∧ Need ((0 : Nat) + (1 : Nat) * (0 : Nat) < x17.length) ∧ Need ((0 : Int) ≤ (1 : Int) ∧ (1 : Int) < x18) ∧ Need ((0 : Nat) + (1 : Nat) * (1 : Nat) < x17.length) ∧ Need ((0 : Int) ≤ (2 : Int) ∧ (2 : Int) < x18) ∧ Need ((0 : Nat) + (1 : Nat) * (2 : Nat) < x17.length) ∧ Need ((0 : Int) ≤ (3 : Int) ∧ (3 : Int) < x18) ∧ Need ((0 : Nat) + (1 : Nat) * (3 : Nat) < x17.length) ∧ Need ((0 : Int) ≤ (4 : Int) ∧ (4 : Int) < x18) ∧ Need ((0 : Nat) + (1 : Nat) * (4 : Nat) < x17.length) ∧ Need ((0 : Int) ≤ (5 : Int) ∧ (5 : Int) < x18) ∧ Need ((0 : Nat) + (1 : Nat) * (5 : Nat) < x17.length) ∧ Need ((0 : Int) ≤ (6 : Int) ∧ (6 : Int) < x18) ∧ Need ((0 : Nat) + (1 : Nat) * (6 : Nat) < x17.length) ∧ Need ((0 : Int) ≤ (7 : Int) ∧ (7 : Int) < x18) ∧ Need ((0 : Nat) + (1 : Nat) * (7 : Nat) < x17.length) ∧ K [RV.v (SV.arr IntKind.u8 (64 : Nat) false (((((((((((((((((((((((((((((((((((((((((((((((((((((((((((((((((List.replicate (64 : Nat) (0 : Int)).set (0 : Nat) (x3.getD ((0 : Nat) + (1 : Nat) * (0 : Nat)) (0 : Int))).set (1 : Nat) (x3.getD ((0 : Nat) + (1 : Nat) * (1 : Nat)) (0 : Int))).set (2 : Nat) (x3.getD ((0 : Nat) + (1 : Nat) * (2 : Nat)) (0 : Int))).set (3 : Nat) (x3.getD ((0 : Nat) + (1 : Nat) * (3 : Nat)) (0 : Int))).set (4 : Nat) (x3.getD ((0 : Nat) + (1 : Nat) * (4 : Nat)) (0 : Int))).set (5 : Nat) (x3.getD ((0 : Nat) + (1 : Nat) * (5 : Nat)) (0 : Int))).set (6 : Nat) (x3.getD ((0 : Nat) + (1 : Nat) * (6 : Nat)) (0 : Int))).set (7 : Nat) (x3.getD ((0 : Nat) + (1 : Nat) * (7 : Nat)) (0 : Int))).set (8 : Nat) (x5.getD ((0 : Nat) + (1 : Nat) * (0 : Nat)) (0 : Int))).set (9 : Nat) (x5.getD ((0 : Nat) + (1 : Nat) * (1 : Nat)) (0 : Int))).set (10 : Nat) (x5.getD ((0 : Nat) + (1 : Nat) * (2 : Nat)) (0 : Int))).set (11 : Nat) (x5.getD ((0 : Nat) + (1 : Nat) * (3 : Nat)) (0 : Int))).set (12 : Nat) (x5.getD ((0 : Nat) + (1 : Nat) * (4 : Nat)) (0 : Int))).set (13 : Nat) (x5.getD ((0 : Nat) + (1 : Nat) * (5 : Nat)) (0 : Int))).set (14 : Nat) (x5.getD ((0 : Nat) + (1 : Nat) * (6 : Nat)) (0 : Int))).set (15 : Nat) (x5.getD ((0 : Nat) + (1 : Nat) * (7 : Nat)) (0 : Int))).set (16 : Nat) (x7.getD ((0 : Nat) + (1 : Nat) * (0 : Nat)) (0 : Int))).set (17 : Nat) (x7.getD ((0 : Nat) + (1 : Nat) * (1 : Nat)) (0 : Int))).set (18 : Nat) (x7.getD ((0 : Nat) + (1 : Nat) * (2 : Nat)) (0 : Int))).set (19 : Nat) (x7.getD ((0 : Nat) + (1 : Nat) * (3 : Nat)) (0 : Int))).set (20 : Nat) (x7.getD ((0 : Nat) + (1 : Nat) * (4 : Nat)) (0 : Int))).set (21 : Nat) (x7.getD ((0 : Nat) + (1 : Nat) * (5 : Nat)) (0 : Int))).set (22 : Nat) (x7.getD ((0 : Nat) + (1 : Nat) * (6 : Nat)) (0 : Int))).set (23 : Nat) (x7.getD ((0 : Nat) + (1 : Nat) * (7 : Nat)) (0 : Int))).set (24 : Nat) (x9.getD ((0 : Nat) + (1 : Nat) * (0 : Nat)) (0 : Int))).set (25 : Nat) (x9.getD ((0 : Nat) + (1 : Nat) * (1 : Nat)) (0 : Int))).set (26 : Nat) (x9.getD ((0 : Nat) + (1 : Nat) * (2 : Nat)) (0 : Int))).set (27 : Nat) (x9.getD ((0 : Nat) + (1 : Nat) * (3 : Nat)) (0 : Int))).set (28 : Nat) (x9.getD ((0 : Nat) + (1 : Nat) * (4 : Nat)) (0 : Int))).set (29 : Nat) (x9.getD ((0 : Nat) + (1 : Nat) * (5 : Nat)) (0 : Int))).set (30 : Nat) (x9.getD ((0 : Nat) + (1 : Nat) * (6 : Nat)) (0 : Int))).set (31 : Nat) (x9.getD ((0 : Nat) + (1 : Nat) * (7 : Nat)) (0 : Int))).set (32 : Nat) (x11.getD ((0 : Nat) + (1 : Nat) * (0 : Nat)) (0 : Int))).set (33 : Nat) (x11.getD ((0 : Nat) + (1 : Nat) * (1 : Nat)) (0 : Int))).set (34 : Nat) (x11.getD ((0 : Nat) + (1 : Nat) * (2 : Nat)) (0 : Int))).set (35 : Nat) (x11.getD ((0 : Nat) + (1 : Nat) * (3 : Nat)) (0 : Int))).set (36 : Nat) (x11.getD ((0 : Nat) + (1 : Nat) * (4 : Nat)) (0 : Int))).set (37 : Nat) (x11.getD ((0 : Nat) + (1 : Nat) * (5 : Nat)) (0 : Int))).set (38 : Nat) (x11.getD ((0 : Nat) + (1 : Nat) * (6 : Nat)) (0 : Int))).set (39 : Nat) (x11.getD ((0 : Nat) + (1 : Nat) * (7 : Nat)) (0 : Int))).set (40 : Nat) (x13.getD ((0 : Nat) + (1 : Nat) * (0 : Nat)) (0 : Int))).set (41 : Nat) (x13.getD ((0 : Nat) + (1 : Nat) * (1 : Nat)) (0 : Int))).set (42 : Nat) (x13.getD ((0 : Nat) + (1 : Nat) * (2 : Nat)) (0 : Int))).set (43 : Nat) (x13.getD ((0 : Nat) + (1 : Nat) * (3 : Nat)) (0 : Int))).set (44 : Nat) (x13.getD ((0 : Nat) + (1 : Nat) * (4 : Nat)) (0 : Int))).set (45 : Nat) (x13.getD ((0 : Nat) + (1 : Nat) * (5 : Nat)) (0 : Int))).set (46 : Nat) (x13.getD ((0 : Nat) + (1 : Nat) * (6 : Nat)) (0 : Int))).set (47 : Nat) (x13.getD ((0 : Nat) + (1 : Nat) * (7 : Nat)) (0 : Int))).set (48 : Nat) (x15.getD ((0 : Nat) + (1 : Nat) * (0 : Nat)) (0 : Int))).set (49 : Nat) (x15.getD ((0 : Nat) + (1 : Nat) * (1 : Nat)) (0 : Int))).set (50 : Nat) (x15.getD ((0 : Nat) + (1 : Nat) * (2 : Nat)) (0 : Int))).set (51 : Nat) (x15.getD ((0 : Nat) + (1 : Nat) * (3 : Nat)) (0 : Int))).set (52 : Nat) (x15.getD ((0 : Nat) + (1 : Nat) * (4 : Nat)) (0 : Int))).set (53 : Nat) (x15.getD ((0 : Nat) + (1 : Nat) * (5 : Nat)) (0 : Int))).set (54 : Nat) (x15.getD ((0 : Nat) + (1 : Nat) * (6 : Nat)) (0 : Int))).set (55 : Nat) (x15.getD ((0 : Nat) + (1 : Nat) * (7 : Nat)) (0 : Int))).set (56 : Nat) (x17.getD ((0 : Nat) + (1 : Nat) * (0 : Nat)) (0 : Int))).set (57 : Nat) (x17.getD ((0 : Nat) + (1 : Nat) * (1 : Nat)) (0 : Int))).set (58 : Nat) (x17.getD ((0 : Nat) + (1 : Nat) * (2 : Nat)) (0 : Int))).set (59 : Nat) (x17.getD ((0 : Nat) + (1 : Nat) * (3 : Nat)) (0 : Int))).set (60 : Nat) (x17.getD ((0 : Nat) + (1 : Nat) * (4 : Nat)) (0 : Int))).set (61 : Nat) (x17.getD ((0 : Nat) + (1 : Nat) * (5 : Nat)) (0 : Int))).set (62 : Nat) (x17.getD ((0 : Nat) + (1 : Nat) * (6 : Nat)) (0 : Int))).set (63 : Nat) (x17.getD ((0 : Nat) + (1 : Nat) * (7 : Nat)) (0 : Int))))] [])) := by
  intros
  kernel_rfl

theorem copy_set (a z : List Int) (i : Nat) (h : i < a.length) (hz : i < z.length) : (a.take i ++ z.drop i).set i (a.getD i 0) = a.take (i + 1) ++ z.drop (i + 1) := by
  have h1 : (a.take i).length = i := by rw [List.length_take]; omega
  rw [set_right _ _ 0 _ i (by omega), List.drop_eq_getElem_cons hz, List.set_cons_zero, List.take_add_one, List.getElem?_eq_getElem h, List.append_assoc]
  simp [List.getD, h]
def inv43 (a : List Int) (key : Nat) (ps : List Pv) (mm : Nat) : Prop :=
  key = 3 ∧ ∃ i : Nat, i ≤ 64 ∧ ps = [.z (i : Int), .l K80, .l K80, .l a, .l (a.take i ++ (List.replicate 64 0).drop i)] ∧ mm = 64 - i
def bytesG : List AV → Option (List Prop × List RV × List (Option (List Seg)))
  | [.v (.arr .u8 64 _ a)] => some ([], [.row (.ints .u8 a)], [])
  | _ => none
theorem bytesG_ok : CallOk Tryd.prog gh4 43 (genCtr [.v] bytesG) := by
  refine call_gen (fn := Tryd.f43) Δ2_ok rfl glow4 rfl (by kernel_rfl) (by kernel_rfl) _ bytesG fun av p rvs fin hs hp hf => ?_
  unfold bytesG at hs
  split at hs
  · rename_i e a
    simp only [Option.some.injEq, Prod.mk.injEq] at hs
    obtain ⟨rfl, rfl, rfl⟩ := hs
    obtain ⟨⟨ha, _⟩, _⟩ := hf
    refine ⟨[.arr .u8 64 false a], [], L43, inv43 a, ⟨rfl, trivial⟩, Nat.le_of_ble_eq_true (by kernel_rfl), ?_, ?_, ?_⟩
    · intro kk t ht g hg
      have hg : g ∈ [0, 1, 2, 3, 490] := hg
      simp only [List.mem_cons, List.not_mem_nil, or_false] at hg
      simp only [L43, List.mem_cons, List.not_mem_nil, or_false, Prod.mk.injEq] at ht
      obtain ⟨rfl, rfl⟩ := ht
      rcases hg with rfl | rfl | rfl | rfl | rfl <;> exact ⟨by omega, rfl⟩
    · rintro vk t ps mm ht ⟨rfl, i, hi, rfl, rfl⟩
      simp only [L43, List.mem_cons, List.not_mem_nil, or_false, Prod.mk.injEq] at ht
      obtain ⟨_, rfl⟩ := ht
      show lc43 (i : Int) K80 K80 a (a.take i ++ (List.replicate 64 0).drop i) _ _
      rw [lc43_eq]
      have hl : (a.take i ++ (List.replicate 64 (0 : Int)).drop i).length = 64 := by
        rw [List.length_append, List.length_take, List.length_drop, List.length_replicate]; omega
      refine ⟨fun hlt => ?_, fun hge => ?_⟩
      · have hlt := of_decide_eq_true hlt
        refine ⟨need_of (by omega), need_of (by omega), ?_⟩
        intro x1 e1 _
        refine ⟨need_of (by omega), need_of (by omega), ?_⟩
        intro x2 e2 _ x3 e3 _
        rw [wrap_i64 (by omega)] at e3
        rw [e1, Int.toNat_natCast, copy_set a _ i (by omega) (by simp; omega)] at e2
        rw [e2, e3]
        exact ⟨rfl, 64 - (i + 1), by omega, rfl, i + 1, by omega, rfl, rfl⟩
      · have hge := of_decide_eq_false hge
        obtain rfl : i = 64 := by omega
        refine ⟨need_of (by omega), ⟨⟨rfl, ?_⟩, trivial⟩, trivial⟩
        show List.take 64 (List.drop 0 _) = a
        rw [List.drop_zero, List.drop_of_length_le (by simp), List.append_nil, List.take_take, List.take_of_length_le (by omega)]
    · show vc43 a _ _
      rw [vc43_eq]
      refine ⟨need_of (by omega), ?_⟩
      intro x1 e1 _
      rw [e1]
      exact ⟨rfl, 64 - 0, rfl, 0, by omega, rfl, rfl⟩
  · cases hs
def padP (b : List Int) (k : Nat) : List Int := b ++ 128 :: List.replicate k 0
theorem padP_len (b : List Int) (k : Nat) : (padP b k).length = b.length + 1 + k := by
  unfold padP
  rw [List.length_append, List.length_cons, List.length_replicate]; omega
theorem padP_succ (b : List Int) (k : Nat) : padP b k ++ [0] = padP b (k + 1) := by
  unfold padP
  rw [List.append_assoc, List.cons_append, show [(0 : Int)] = List.replicate 1 0 from rfl, List.replicate_append_replicate]
theorem padP_full (b : List Int) : padP b (padK0 b.length) ++ be8 0 ++ be8 (8 * (b.length : Int)) = b ++ padT b.length := by
  unfold padP padT
  simp only [List.append_assoc, List.cons_append]
def inv37 (d : RO) (p : List Int) (key : Nat) (ps : List Pv) (mm : Nat) : Prop :=
  (key = 3 ∧ ∃ k : Nat, k ≤ padK0 (roL d).length ∧ ps = [.ro d, .z ((padP (roL d) k).length : Int), .l K80, .l K80, .l (List.replicate 64 0), .l (padP (roL d) k)] ∧ mm = p.length + 1 + (padK0 (roL d).length - k)) ∨
  (key = 9 ∧ ∃ j : Nat, 128 * j ≤ p.length ∧ ps = [.z (p.length : Int), .z ((128 * j : Nat) : Int), .l K80, .l K80, .l (List.replicate 64 0), .l p, .l (feed (p.take (128 * j)) st0).ws] ∧ mm = p.length - 128 * j)
def hashG : List AV → Option (List Prop × List RV × List (Option (List Seg)))
  | [.d (.ints .u8) d] => some ([((roL d).length : Int) ≤ 70368744177000], [.v (.arr .u8 64 false (sha (roL d)))], [])
  | _ => none
set_option maxHeartbeats 2000000 in
theorem hashG_ok : CallOk Tryd.prog gh4 37 (genCtr [.d (.ints .u8)] hashG) := by
  refine call_gen (fn := Tryd.f37) Δ2_ok rfl glow4 rfl (by kernel_rfl) (by kernel_rfl) _ hashG fun av p rvs fin hs hp hf => ?_
  unfold hashG at hs
  split at hs
  · rename_i d
    simp only [Option.some.injEq, Prod.mk.injEq] at hs
    obtain ⟨rfl, rfl, rfl⟩ := hs
    have hd : ((roL d).length : Int) ≤ 70368744177000 := hp.1
    obtain ⟨p, hpp⟩ : ∃ p, roL d ++ padT (roL d).length = p := ⟨_, rfl⟩
    have hk128 : padK0 (roL d).length < 128 := Nat.mod_lt _ (by omega)
    have hk112 : ((roL d).length + 1 + padK0 (roL d).length) % 128 = 112 := by unfold padK0; omega
    have hpl : p.length = (roL d).length + (padK0 (roL d).length + 17) := by rw [← hpp, List.length_append, padT_len]
    have hp128 : p.length % 128 = 0 := by omega
    refine ⟨[.ro 490 (.ints .u8) d], [], L37, inv37 d p, ⟨rfl, trivial⟩, Nat.le_of_ble_eq_true (by kernel_rfl), ?_, ?_, ?_⟩
    · intro kk t ht g hg
      have hg : g ∈ [0, 1, 2, 3, 490] := hg
      simp only [List.mem_cons, List.not_mem_nil, or_false] at hg
      simp only [L37, List.mem_cons, List.not_mem_nil, or_false, Prod.mk.injEq] at ht
      obtain ⟨rfl, rfl⟩ | ⟨rfl, rfl⟩ := ht <;> rcases hg with rfl | rfl | rfl | rfl | rfl <;> exact ⟨by omega, rfl⟩
    · rintro vk t ps mm ht (⟨rfl, k, hk, rfl, rfl⟩ | ⟨rfl, j, hj, rfl, rfl⟩)
      all_goals simp only [L37, List.mem_cons, List.not_mem_nil, or_false, Prod.mk.injEq, Nat.reduceEqDiff, false_and, true_and, false_or, or_false] at ht
      · subst ht
        have hl := padP_len (roL d) k
        have hl2 := padP_len (roL d) (k + 1)
        show lc37a d ((padP (roL d) k).length : Int) K80 K80 (List.replicate 64 0) (padP (roL d) k) _ _
        rw [lc37a_eq]
        intro x1 e1 _
        rw [Int.tmod_eq_emod_of_nonneg (by omega)] at e1
        rw [show List.take 1 (List.drop 0 [(0 : Int)]) = [0] from rfl, padP_succ]
        refine ⟨fun h => ?_, fun h => ?_⟩
        · have h : x1 ≠ 112 := by simpa using h
          have hk' : k < padK0 (roL d).length := by
            rcases Nat.lt_or_ge k (padK0 (roL d).length) with h9 | h9
            · exact h9
            · exfalso
              obtain rfl : k = padK0 (roL d).length := by omega
              omega
          refine ⟨need_of (by omega), need_of rfl, need_of (by omega), ?_⟩
          intro x2 e2 _ x3 e3 _ _
          subst e2; subst e3
          exact ⟨rfl, p.length + 1 + (padK0 (roL d).length - (k + 1)), by omega, Or.inl ⟨rfl, k + 1, by omega, rfl, rfl⟩⟩
        · have h : x1 = 112 := by simpa using h
          have hk' : k = padK0 (roL d).length := by omega
          intro x4 e4 _ x5 e5 _ _
          subst e4; subst e5
          rw [show List.take (8 : Int).toNat (List.drop 0 (be8 0)) = be8 0 from rfl]
          have hl6 : (padP (roL d) k ++ be8 0).length = (padP (roL d) k).length + 8 := by rw [List.length_append, be8_len]
          refine ⟨need_of (by omega), need_of rfl, need_of (by rw [be8_len]; omega), ?_⟩
          intro x6 e6 _ x7 e7 _ _ x8 e8 _ x9 e9 _ x10 e10 _ x11 e11 _ _
          subst e6; subst e7
          have hw : IntKind.u64.wrap (((roL d).length : Nat) : Int) = ((roL d).length : Int) := wrap_of_InR (show 0 ≤ (((roL d).length : Nat) : Int) ∧ (((roL d).length : Nat) : Int) < 18446744073709551616 by omega)
          rw [hw] at e8
          have hw2 : IntKind.u64.wrap (8 * x8) = 8 * x8 := wrap_of_InR (show 0 ≤ 8 * x8 ∧ 8 * x8 < 18446744073709551616 by omega)
          rw [hw2, e8] at e9
          rw [e9] at e10
          rw [be8_len] at e11
          subst e11; subst e10
          rw [show List.take (((8 : Nat) : Int)).toNat (List.drop 0 (be8 (8 * ((roL d).length : Int)))) = be8 (8 * ((roL d).length : Int)) from rfl]
          have hfull : padP (roL d) k ++ be8 0 ++ be8 (8 * ((roL d).length : Int)) = p := by rw [hk', padP_full, hpp]
          rw [hfull]
          refine ⟨need_of (by omega), need_of rfl, need_of (by rw [be8_len]; omega), ?_⟩
          intro x12 e12 _ x13 e13 _ _
          rw [e13, e12]
          exact ⟨rfl, p.length - 128 * 0, by omega, Or.inr ⟨rfl, 0, by omega, rfl, rfl⟩⟩
      · subst ht
        show lc37b (p.length : Int) ((128 * j : Nat) : Int) K80 K80 (List.replicate 64 0) p (feed (p.take (128 * j)) st0).ws _ _
        rw [lc37b_eq]
        refine ⟨fun hlt => ?_, fun hge => ?_⟩
        · have hlt := of_decide_eq_true hlt
          have hj1 : 128 * j + 128 ≤ p.length := by omega
          have hb := feed_block p j hj1
          rw [roL_l, List.drop_zero, Int.toNat_natCast, Int.toNat_natCast, List.take_of_length_le (Nat.le_refl p.length), ← hb]
          refine ⟨need_of (by omega), need_of (by omega), need_of (by omega), ?_⟩
          intro x1 e1 _ _ x2 e2 _
          rw [wrap_i64 (by omega)] at e2
          refine ⟨rfl, p.length - 128 * (j + 1), by omega, Or.inr ⟨rfl, j + 1, by omega, ?_, rfl⟩⟩
          rw [e1, show x2 = ((128 * (j + 1) : Nat) : Int) by omega]
        · have hge := of_decide_eq_false hge
          have hj2 : 128 * j = p.length := by omega
          have hfin : outb (feed (p.take (128 * j)) st0).ws = sha (roL d) := by
            rw [hj2, List.take_of_length_le (Nat.le_refl _), sha_pad (roL d) (by omega), hpp]
          generalize (feed (p.take (128 * j)) st0).ws = s at *
          intro x3 e3 _ x4 e4 _ _
          rw [be8_len] at e4
          subst e3
          subst e4
          refine ⟨need_of (by omega), need_of (by rw [be8_len]; omega), need_of (by omega), need_of (by rw [be8_len]; omega), need_of (by omega), need_of (by rw [be8_len]; omega), need_of (by omega), need_of (by rw [be8_len]; omega), need_of (by omega), need_of (by rw [be8_len]; omega), need_of (by omega), need_of (by rw [be8_len]; omega), need_of (by omega), need_of (by rw [be8_len]; omega), need_of (by omega), need_of (by rw [be8_len]; omega), ?_⟩
          intro x5 e5 _ x6 e6 _ _
          rw [be8_len] at e6
          subst e5
          subst e6
          refine ⟨need_of (by omega), need_of (by rw [be8_len]; omega), need_of (by omega), need_of (by rw [be8_len]; omega), need_of (by omega), need_of (by rw [be8_len]; omega), need_of (by omega), need_of (by rw [be8_len]; omega), need_of (by omega), need_of (by rw [be8_len]; omega), need_of (by omega), need_of (by rw [be8_len]; omega), need_of (by omega), need_of (by rw [be8_len]; omega), need_of (by omega), need_of (by rw [be8_len]; omega), ?_⟩
          intro x7 e7 _ x8 e8 _ _
          rw [be8_len] at e8
          subst e7
          subst e8
          refine ⟨need_of (by omega), need_of (by rw [be8_len]; omega), need_of (by omega), need_of (by rw [be8_len]; omega), need_of (by omega), need_of (by rw [be8_len]; omega), need_of (by omega), need_of (by rw [be8_len]; omega), need_of (by omega), need_of (by rw [be8_len]; omega), need_of (by omega), need_of (by rw [be8_len]; omega), need_of (by omega), need_of (by rw [be8_len]; omega), need_of (by omega), need_of (by rw [be8_len]; omega), ?_⟩
          intro x9 e9 _ x10 e10 _ _
          rw [be8_len] at e10
          subst e9
          subst e10
          refine ⟨need_of (by omega), need_of (by rw [be8_len]; omega), need_of (by omega), need_of (by rw [be8_len]; omega), need_of (by omega), need_of (by rw [be8_len]; omega), need_of (by omega), need_of (by rw [be8_len]; omega), need_of (by omega), need_of (by rw [be8_len]; omega), need_of (by omega), need_of (by rw [be8_len]; omega), need_of (by omega), need_of (by rw [be8_len]; omega), need_of (by omega), need_of (by rw [be8_len]; omega), ?_⟩
          intro x11 e11 _ x12 e12 _ _
          rw [be8_len] at e12
          subst e11
          subst e12
          refine ⟨need_of (by omega), need_of (by rw [be8_len]; omega), need_of (by omega), need_of (by rw [be8_len]; omega), need_of (by omega), need_of (by rw [be8_len]; omega), need_of (by omega), need_of (by rw [be8_len]; omega), need_of (by omega), need_of (by rw [be8_len]; omega), need_of (by omega), need_of (by rw [be8_len]; omega), need_of (by omega), need_of (by rw [be8_len]; omega), need_of (by omega), need_of (by rw [be8_len]; omega), ?_⟩
          intro x13 e13 _ x14 e14 _ _
          rw [be8_len] at e14
          subst e13
          subst e14
          refine ⟨need_of (by omega), need_of (by rw [be8_len]; omega), need_of (by omega), need_of (by rw [be8_len]; omega), need_of (by omega), need_of (by rw [be8_len]; omega), need_of (by omega), need_of (by rw [be8_len]; omega), need_of (by omega), need_of (by rw [be8_len]; omega), need_of (by omega), need_of (by rw [be8_len]; omega), need_of (by omega), need_of (by rw [be8_len]; omega), need_of (by omega), need_of (by rw [be8_len]; omega), ?_⟩
          intro x15 e15 _ x16 e16 _ _
          rw [be8_len] at e16
          subst e15
          subst e16
          refine ⟨need_of (by omega), need_of (by rw [be8_len]; omega), need_of (by omega), need_of (by rw [be8_len]; omega), need_of (by omega), need_of (by rw [be8_len]; omega), need_of (by omega), need_of (by rw [be8_len]; omega), need_of (by omega), need_of (by rw [be8_len]; omega), need_of (by omega), need_of (by rw [be8_len]; omega), need_of (by omega), need_of (by rw [be8_len]; omega), need_of (by omega), need_of (by rw [be8_len]; omega), ?_⟩
          intro x17 e17 _ x18 e18 _ _
          rw [be8_len] at e18
          subst e17
          subst e18
          refine ⟨need_of (by omega), need_of (by rw [be8_len]; omega), need_of (by omega), need_of (by rw [be8_len]; omega), need_of (by omega), need_of (by rw [be8_len]; omega), need_of (by omega), need_of (by rw [be8_len]; omega), need_of (by omega), need_of (by rw [be8_len]; omega), need_of (by omega), need_of (by rw [be8_len]; omega), need_of (by omega), need_of (by rw [be8_len]; omega), need_of (by omega), need_of (by rw [be8_len]; omega), ?_⟩
          refine ⟨⟨?_, trivial⟩, trivial⟩
          show _ = sha (roL d)
          rw [← hfin]
          rfl
    · show vc37 d _ _
      rw [vc37_eq, List.nil_append, show List.take 1 (List.drop 0 [(128 : Int)]) = [128] from rfl]
      have hl := padP_len (roL d) 0
      have hp0 : roL d ++ [128] = padP (roL d) 0 := rfl
      refine ⟨need_of (by omega), ?_⟩
      intro x1 e1 _ x2 e2 _ _
      subst e1; subst e2
      rw [hp0]
      refine ⟨need_of (by omega), need_of rfl, need_of (by omega), ?_⟩
      intro x3 e3 _ x4 e4 _ _
      subst e3; subst e4
      exact ⟨rfl, p.length + 1 + (padK0 (roL d).length - 0), Or.inl ⟨rfl, 0, by omega, rfl, rfl⟩⟩
  · cases hs
def Δ3 : Tab := ⟨tys, (37, genCtr [.d (.ints .u8)] hashG) :: (43, genCtr [.v] bytesG) :: Δ2.ctr, [0, 1, 2, 3], gh4⟩
theorem Δ3_ok : TabOk Tryd.prog Δ3 := (Δ2_ok.cons bytesG_ok).cons hashG_ok
end Go.Gx

/- The reference's hash of parts, and its keyed hash. -/
namespace Go.Gx
open Go.Proofs Go.Sp
set_option linter.unusedVariables false
set_option maxRecDepth 100000

def vc18 (d : RO) (K : List RV → List (Option (List Seg)) → Prop) (Q : Nat → List Pv → Prop) : Prop := fnVcG 0 Δ3 Tryd.f18 [] [.ro 490 (.l (.ints .u8)) d] (gh4 ++ (490, .world) :: []) K Q
def L31 : Loops := [(4, ⟨[.any, .ro 490 (.l (.ints .u8)) (.r []), .any, .any, .p 1000 0, .sl 1001 0 1 ⟨true, 0⟩ ⟨false, 0⟩] ++ reps .any 50, gh4 ++ [(490, .world), (1000, .segs false [.arr .u8 64 false []]), (1001, .segs false [.rowI .u8 []])], 2000⟩),
  (9, ⟨[.any, .ro 490 (.l (.ints .u8)) (.r []), .any, .any, .p 1000 0, .sl 1001 0 1 ⟨true, 0⟩ ⟨false, 0⟩, .sl 1002 0 1 ⟨true, 0⟩ ⟨true, 128⟩, .sl 1003 0 1 ⟨true, 0⟩ ⟨true, 128⟩, .i .i64 ⟨false, 0⟩] ++ reps .any 47, gh4 ++ [(490, .world), (1000, .segs false [.arr .u8 64 false []]), (1001, .segs false [.rowI .u8 []]), (1002, .segs false [.rowI .u8 []]), (1003, .segs false [.rowI .u8 []])], 2000⟩)]
def vc31 (k d : RO) (K : List RV → List (Option (List Seg)) → Prop) (Q : Nat → List Pv → Prop) : Prop := fnVcG 0 Δ3 Tryd.f31 L31 [.ro 490 (.ints .u8) k, .ro 490 (.l (.ints .u8)) d] (gh4 ++ (490, .world) :: []) K Q
def lc31a (d : RO) (z : Int) (g g' r l : List Int) (K : List RV → List (Option (List Seg)) → Prop) (Q : Nat → List Pv → Prop) : Prop := loopVcG 0 Δ3 Tryd.f31 L31 4 [.ro d, .z z, .l g, .l g', .l r, .l l] K Q
def lc31b (d : RO) (z i : Int) (g g' r l a b : List Int) (K : List RV → List (Option (List Seg)) → Prop) (Q : Nat → List Pv → Prop) : Prop := loopVcG 0 Δ3 Tryd.f31 L31 9 [.ro d, .z z, .z i, .l g, .l g', .l r, .l l, .l a, .l b] K Q
theorem vc18_eq : ∀ (d : RO) (K : List RV → List (Option (List Seg)) → Prop) (Q : Nat → List Pv → Prop), vc18 d K Q = (Need (((roJ d).length : Int) ≤ (70368744177664 : Int)) ∧ ∀ (x1 : List Int), x1 = roJ d → AllR IntKind.u8 x1 → ∀ (x2 : Int), x2 = ((roJ d).length : Int) → (0 : Int) ≤ x2 → InR IntKind.i64 x2 → Need ((0 : Int) + x2 ≤ ↑x1.length) ∧ Need (↑(roL (RO.l (List.take x2.toNat (List.drop (0 : Nat) x1)))).length ≤ (70368744177000 : Int)) ∧ ∀ (x3 : List Int), x3 = sha (roL (RO.l (List.take x2.toNat (List.drop (0 : Nat) x1)))) → x3.length = (64 : Nat) → AllR IntKind.u8 x3 → K [RV.v (SV.arr IntKind.u8 (64 : Nat) false x3)] []) := by
  intros
  kernel_rfl
theorem vc31_eq : ∀ (k d : RO) (K : List RV → List (Option (List Seg)) → Prop) (Q : Nat → List Pv → Prop), vc31 k d K Q = (Need ((([] ++ roL k).length : Int) * (1 : Int) ≤ (70368744177664 : Int)) ∧ ∀ (x1 : List Int), x1 = [] ++ roL k → AllR IntKind.u8 x1 → ∀ (x2 : Int), x2 = (([] ++ roL k).length : Int) → (0 : Int) ≤ x2 → InR IntKind.i64 x2 → (decide (x2 > (128 : Int)) = true → Need ((0 : Int) + x2 ≤ ↑x1.length) ∧ Need (↑(roL (RO.l (List.take x2.toNat (List.drop (0 : Nat) x1)))).length ≤ (70368744177000 : Int)) ∧ ∀ (x3 : List Int), x3 = sha (roL (RO.l (List.take x2.toNat (List.drop (0 : Nat) x1)))) → x3.length = (64 : Nat) → AllR IntKind.u8 x3 → ∀ (x4 : List Int), x4 = x3 → AllR IntKind.u8 x4 → ∀ (x5 : Int), x5 = ↑x3.length → (0 : Int) ≤ x5 → InR IntKind.i64 x5 → Same Tryd.f31 (4 : Nat) (itemsOf Tryd.f31 (4 : Nat)) ∧ Q (4 : Nat) [Pv.ro d, Pv.z x5, Pv.l K80, Pv.l K80, Pv.l (List.replicate (64 : Nat) (0 : Int)), Pv.l x4]) ∧ (decide (x2 > (128 : Int)) = false → Same Tryd.f31 (4 : Nat) (itemsOf Tryd.f31 (4 : Nat)) ∧ Q (4 : Nat) [Pv.ro d, Pv.z x2, Pv.l K80, Pv.l K80, Pv.l (List.replicate (64 : Nat) (0 : Int)), Pv.l x1])) := by
  intros
  kernel_rfl
theorem lc31a_eq : ∀ (d : RO) (z : Int) (g g' r l : List Int) (K : List RV → List (Option (List Seg)) → Prop) (Q : Nat → List Pv → Prop), lc31a d z g g' r l K Q = ((decide (z < (128 : Int)) = true → Need (↑(l ++ List.take (1 : Nat) (List.drop (0 : Nat) [(0 : Int)])).length * (1 : Int) ≤ (70368744177664 : Int)) ∧ Need (z = ↑l.length) ∧ Need ((1 : Int) ≤ (1 : Int)) ∧ ∀ (x1 : List Int), x1 = l ++ List.take (1 : Nat) (List.drop (0 : Nat) [(0 : Int)]) → AllR IntKind.u8 x1 → ∀ (x2 : Int), x2 = ↑(l ++ List.take (1 : Nat) (List.drop (0 : Nat) [(0 : Int)])).length → (0 : Int) ≤ x2 → InR IntKind.i64 x2 → Same Tryd.f31 (4 : Nat) (itemsOf Tryd.f31 (4 : Nat)) ∧ Q (4 : Nat) [Pv.ro d, Pv.z x2, Pv.l g, Pv.l g', Pv.l r, Pv.l x1]) ∧ (decide (z < (128 : Int)) = false → Need ((0 : Int) ≤ (128 : Int) ∧ (128 : Int) ≤ (128 : Int) ∧ (128 : Int) ≤ (70368744177664 : Int)) ∧ ∀ (x3 : List Int), x3 = List.replicate (128 : Nat) (0 : Int) → AllR IntKind.u8 x3 → Need ((0 : Int) ≤ (128 : Int) ∧ (128 : Int) ≤ (128 : Int) ∧ (128 : Int) ≤ (70368744177664 : Int)) ∧ ∀ (x4 : List Int), x4 = List.replicate (128 : Nat) (0 : Int) → AllR IntKind.u8 x4 → Same Tryd.f31 (9 : Nat) (itemsOf Tryd.f31 (9 : Nat)) ∧ Q (9 : Nat) [Pv.ro d, Pv.z z, Pv.z (0 : Int), Pv.l g, Pv.l g', Pv.l r, Pv.l l, Pv.l x3, Pv.l x4])) := by
  intros
  kernel_rfl
theorem lc31b_eq : ∀ (d : RO) (z i : Int) (g g' r l a b : List Int) (K : List RV → List (Option (List Seg)) → Prop) (Q : Nat → List Pv → Prop), lc31b d z i g g' r l a b K Q = ((decide (i < (128 : Int)) = true → Need ((0 : Int) ≤ i ∧ i < z) ∧ Need ((0 : Int) ≤ i ∧ i < ↑l.length) ∧ ∀ (x1 : Int), x1 = l.getD i.toNat (0 : Int) → InR IntKind.u8 x1 → ∀ (x2 : Int), x2 = xorI IntKind.u8 x1 (54 : Int) → InR IntKind.u8 x2 → Need ((0 : Int) ≤ i ∧ i < (128 : Int)) ∧ Need ((0 : Int) ≤ i ∧ i < ↑a.length) ∧ ∀ (x3 : List Int), x3 = a.set i.toNat x2 → AllR IntKind.u8 x3 → Need ((0 : Int) ≤ i ∧ i < z) ∧ Need ((0 : Int) ≤ i ∧ i < ↑l.length) ∧ ∀ (x4 : Int), x4 = l.getD i.toNat (0 : Int) → InR IntKind.u8 x4 → ∀ (x5 : Int), x5 = xorI IntKind.u8 x4 (92 : Int) → InR IntKind.u8 x5 → Need ((0 : Int) ≤ i ∧ i < (128 : Int)) ∧ Need ((0 : Int) ≤ i ∧ i < ↑b.length) ∧ ∀ (x6 : List Int), x6 = b.set i.toNat x5 → AllR IntKind.u8 x6 → ∀ (x7 : Int), x7 = IntKind.i64.wrap (i + (1 : Int)) → InR IntKind.i64 x7 → Same Tryd.f31 (9 : Nat) (itemsOf Tryd.f31 (9 : Nat)) ∧ Q (9 : Nat) [Pv.ro d, Pv.z z, Pv.z x7, Pv.l g, Pv.l g', Pv.l r, Pv.l l, Pv.l x3, Pv.l x6]) ∧ (decide (i < (128 : Int)) = false → Need (((roJ d).length : Int) ≤ (70368744177664 : Int)) ∧ ∀ (x8 : List Int), x8 = roJ d → AllR IntKind.u8 x8 → ∀ (x9 : Int), x9 = ((roJ d).length : Int) → (0 : Int) ≤ x9 → InR IntKind.i64 x9 → Need (↑(a ++ List.take x9.toNat (List.drop (0 : Nat) x8)).length * (1 : Int) ≤ (70368744177664 : Int)) ∧ Need ((128 : Int) = ↑a.length) ∧ Need ((0 : Int) + x9 ≤ ↑x8.length) ∧ ∀ (x10 : List Int), x10 = a ++ List.take x9.toNat (List.drop (0 : Nat) x8) → AllR IntKind.u8 x10 → ∀ (x11 : Int), x11 = ↑(a ++ List.take x9.toNat (List.drop (0 : Nat) x8)).length → (0 : Int) ≤ x11 → InR IntKind.i64 x11 → Need ((0 : Int) + x11 ≤ ↑x10.length) ∧ Need (↑(roL (RO.l (List.take x11.toNat (List.drop (0 : Nat) x10)))).length ≤ (70368744177000 : Int)) ∧ ∀ (x12 : List Int), x12 = sha (roL (RO.l (List.take x11.toNat (List.drop (0 : Nat) x10)))) → x12.length = (64 : Nat) → AllR IntKind.u8 x12 → ∀ (x13 : List Int), x13 = x12 → AllR IntKind.u8 x13 → ∀ (x14 : Int), x14 = ↑x12.length → (0 : Int) ≤ x14 → InR IntKind.i64 x14 → Need (↑(b ++ List.take x14.toNat (List.drop (0 : Nat) x13)).length * (1 : Int) ≤ (70368744177664 : Int)) ∧ Need ((128 : Int) = ↑b.length) ∧ Need ((0 : Int) + x14 ≤ ↑x13.length) ∧ ∀ (x15 : List Int), x15 = b ++ List.take x14.toNat (List.drop (0 : Nat) x13) → AllR IntKind.u8 x15 → ∀ (x16 : Int), x16 = ↑(b ++ List.take x14.toNat (List.drop (0 : Nat) x13)).length → (0 : Int) ≤ x16 → InR IntKind.i64 x16 → Need ((0 : Int) + x16 ≤ ↑x15.length) ∧ Need (↑(roL (RO.l (List.take x16.toNat (List.drop (0 : Nat) x15)))).length ≤ (70368744177000 : Int)) ∧ ∀ (x17 : List Int), x17 = sha (roL (RO.l (List.take x16.toNat (List.drop (0 : Nat) x15)))) → x17.length = (64 : Nat) → AllR IntKind.u8 x17 → K [RV.v (SV.arr IntKind.u8 (64 : Nat) false x17)] [])) := by
  intros
  kernel_rfl

def rsumG : List AV → Option (List Prop × List RV × List (Option (List Seg)))
  | [.d (.l (.ints .u8)) d] => some ([((roJ d).length : Int) ≤ 70368744177000], [.v (.arr .u8 64 false (sha (roJ d)))], [])
  | _ => none
theorem rsumG_ok : CallOk Tryd.prog gh4 18 (genCtr [.d (.l (.ints .u8))] rsumG) := by
  refine call_gen (fn := Tryd.f18) Δ3_ok rfl glow4 rfl (by kernel_rfl) (by kernel_rfl) _ rsumG fun av p rvs fin hs hp hf => ?_
  unfold rsumG at hs
  split at hs
  · rename_i d
    simp only [Option.some.injEq, Prod.mk.injEq] at hs
    obtain ⟨rfl, rfl, rfl⟩ := hs
    have hd : ((roJ d).length : Int) ≤ 70368744177000 := hp.1
    refine ⟨[.ro 490 (.l (.ints .u8)) d], [], [], _, ⟨rfl, trivial⟩, Nat.le_of_ble_eq_true (by kernel_rfl), vcG_noloops ?_⟩
    show vc18 d _ _
    rw [vc18_eq]
    refine ⟨need_of (by omega), ?_⟩
    intro x1 e1 _ x2 e2 _ _
    subst e1; subst e2
    rw [roL_l, List.drop_zero, List.take_of_length_le (by omega)]
    refine ⟨need_of (by omega), need_of hd, ?_⟩
    intro x3 e3 _ _
    refine ⟨⟨?_, trivial⟩, trivial⟩
    exact e3
  · cases hs
def keyK (k : List Int) : List Int := if 128 < k.length then sha k else k
theorem keyK_len (k : List Int) : (keyK k).length ≤ 128 := by
  unfold keyK
  split
  · rw [sha_len]; omega
  · omega
theorem padL_key (k : List Int) : padL k = keyK k ++ List.replicate (128 - (keyK k).length) 0 := by
  have h : ∀ q : List Int, q.length ≤ 128 → padK q = q ++ List.replicate (128 - q.length) 0 := fun q hq => by
    unfold padK splice
    rw [List.take_of_length_le hq]
    simp only [List.take_zero, List.nil_append, Nat.zero_add, List.drop_replicate]
  have hl := keyK_len k
  have e : padL k = padK (keyK k) := by
    unfold padL keyK
    split <;> rfl
  rw [e, h _ hl]
theorem rep_one (q : List Int) (j : Nat) : (q ++ List.replicate j (0 : Int)) ++ [0] = q ++ List.replicate (j + 1) 0 := by
  rw [List.append_assoc, show [(0 : Int)] = List.replicate 1 0 from rfl, List.replicate_append_replicate]
theorem fold_set (f : Int → Int) (p z : List Int) (i : Nat) (h : i < p.length) (hz : i < z.length) : ((p.take i).map f ++ z.drop i).set i (f (p.getD i 0)) = (p.take (i + 1)).map f ++ z.drop (i + 1) := by
  have h1 : ((p.take i).map f).length = i := by rw [List.length_map, List.length_take]; omega
  rw [set_right _ _ 0 _ i (by omega), List.drop_eq_getElem_cons hz, List.set_cons_zero, List.take_add_one, List.getElem?_eq_getElem h, List.map_append, List.append_assoc]
  simp [List.getD, h]
def z128 : List Int := List.replicate 128 0
def inv31 (k d : RO) (p : List Int) (key : Nat) (ps : List Pv) (mm : Nat) : Prop :=
  (key = 4 ∧ ∃ j : Nat, (keyK (roL k)).length + j ≤ 128 ∧ ps = [.ro d, .z ((keyK (roL k) ++ List.replicate j (0 : Int)).length : Int), .l K80, .l K80, .l (List.replicate 64 0), .l (keyK (roL k) ++ List.replicate j 0)] ∧ mm = 300 - j) ∨
  (key = 9 ∧ ∃ i : Nat, i ≤ 128 ∧ ps = [.ro d, .z 128, .z (i : Int), .l K80, .l K80, .l (List.replicate 64 0), .l p, .l ((p.take i).map (fun x => xorI .u8 x 54) ++ z128.drop i), .l ((p.take i).map (fun x => xorI .u8 x 92) ++ z128.drop i)] ∧ mm = 128 - i)
def rmacG : List AV → Option (List Prop × List RV × List (Option (List Seg)))
  | [.d (.ints .u8) k, .d (.l (.ints .u8)) d] => some ([((roL k).length : Int) ≤ 70368744177000, ((roJ d).length : Int) + 128 ≤ 70368744177000], [.v (.arr .u8 64 false (macL (roL k) (roJ d)))], [])
  | _ => none
theorem rmacG_ok : CallOk Tryd.prog gh4 31 (genCtr [.d (.ints .u8), .d (.l (.ints .u8))] rmacG) := by
  refine call_gen (fn := Tryd.f31) Δ3_ok rfl glow4 rfl (by kernel_rfl) (by kernel_rfl) _ rmacG fun av p rvs fin hs hp hf => ?_
  unfold rmacG at hs
  split at hs
  · rename_i k d
    simp only [Option.some.injEq, Prod.mk.injEq] at hs
    obtain ⟨rfl, rfl, rfl⟩ := hs
    have hk : ((roL k).length : Int) ≤ 70368744177000 := hp.1
    have hd : ((roJ d).length : Int) + 128 ≤ 70368744177000 := hp.2.1
    obtain ⟨p, hpp⟩ : ∃ p, padL (roL k) = p := ⟨_, rfl⟩
    have hpl : p.length = 128 := hpp ▸ padL_len (roL k)
    have hkl := keyK_len (roL k)
    have hz : z128.length = 128 := by simp [z128]
    refine ⟨[.ro 490 (.ints .u8) k, .ro 490 (.l (.ints .u8)) d], [], L31, inv31 k d p, ⟨rfl, rfl, trivial⟩, Nat.le_of_ble_eq_true (by kernel_rfl), ?_, ?_, ?_⟩
    · intro kk t ht g hg
      have hg : g ∈ [0, 1, 2, 3, 490] := hg
      simp only [List.mem_cons, List.not_mem_nil, or_false] at hg
      simp only [L31, List.mem_cons, List.not_mem_nil, or_false, Prod.mk.injEq] at ht
      obtain ⟨rfl, rfl⟩ | ⟨rfl, rfl⟩ := ht <;> rcases hg with rfl | rfl | rfl | rfl | rfl <;> exact ⟨by omega, rfl⟩
    · rintro vk t ps mm ht (⟨rfl, j, hj, rfl, rfl⟩ | ⟨rfl, i, hi, rfl, rfl⟩)
      all_goals simp only [L31, List.mem_cons, List.not_mem_nil, or_false, Prod.mk.injEq, Nat.reduceEqDiff, false_and, true_and, false_or, or_false] at ht
      · subst ht
        have hl : (keyK (roL k) ++ List.replicate j (0 : Int)).length = (keyK (roL k)).length + j := by rw [List.length_append, List.length_replicate]
        have hl1 : (keyK (roL k) ++ List.replicate (j + 1) (0 : Int)).length = (keyK (roL k)).length + (j + 1) := by rw [List.length_append, List.length_replicate]
        show lc31a d ((keyK (roL k) ++ List.replicate j (0 : Int)).length : Int) K80 K80 (List.replicate 64 0) (keyK (roL k) ++ List.replicate j 0) _ _
        rw [lc31a_eq, show List.take 1 (List.drop 0 [(0 : Int)]) = [0] from rfl, rep_one]
        refine ⟨fun hlt => ?_, fun hge => ?_⟩
        · have hlt := of_decide_eq_true hlt
          refine ⟨need_of (by omega), need_of rfl, need_of (by omega), ?_⟩
          intro x1 e1 _ x2 e2 _ _
          rw [e1, e2]
          exact ⟨rfl, 300 - (j + 1), by omega, Or.inl ⟨rfl, j + 1, by omega, rfl, rfl⟩⟩
        · have hge := of_decide_eq_false hge
          refine ⟨need_of (by omega), ?_⟩
          intro x3 e3 _
          refine ⟨need_of (by omega), ?_⟩
          intro x4 e4 _
          rw [e3, e4]
          refine ⟨rfl, 128 - 0, by omega, Or.inr ⟨rfl, 0, by omega, ?_, rfl⟩⟩
          have h128 : ((keyK (roL k) ++ List.replicate j (0 : Int)).length : Int) = 128 := by omega
          have hq : keyK (roL k) ++ List.replicate j (0 : Int) = p := by
            rw [← hpp, padL_key, show j = 128 - (keyK (roL k)).length by omega]
          rw [h128, hq]; rfl
      · subst ht
        show lc31b d 128 (i : Int) K80 K80 (List.replicate 64 0) p ((p.take i).map (fun x => xorI .u8 x 54) ++ z128.drop i) ((p.take i).map (fun x => xorI .u8 x 92) ++ z128.drop i) _ _
        rw [lc31b_eq]
        have hA : ∀ f : Int → Int, ((p.take i).map f ++ z128.drop i).length = 128 := fun f => by
          rw [List.length_append, List.length_map, List.length_take, List.length_drop, hz]; omega
        refine ⟨fun hlt => ?_, fun hge => ?_⟩
        · have hlt := of_decide_eq_true hlt
          have s1 := fold_set (fun x => xorI .u8 x 54) p z128 i (by omega) (by omega)
          have s2 := fold_set (fun x => xorI .u8 x 92) p z128 i (by omega) (by omega)
          rw [Int.toNat_natCast, hA, hA]
          refine ⟨need_of (by omega), need_of (by omega), ?_⟩
          intro x1 e1 _ x2 e2 _
          refine ⟨need_of (by omega), need_of (by omega), ?_⟩
          intro x3 e3 _
          refine ⟨need_of (by omega), need_of (by omega), ?_⟩
          intro x4 e4 _ x5 e5 _
          refine ⟨need_of (by omega), need_of (by omega), ?_⟩
          intro x6 e6 _ x7 e7 _
          rw [wrap_i64 (by omega)] at e7
          rw [e2, e1, s1] at e3
          rw [e5, e4, s2] at e6
          refine ⟨rfl, 128 - (i + 1), by omega, Or.inr ⟨rfl, i + 1, by omega, ?_, rfl⟩⟩
          rw [e3, e6, e7]
          rfl
        · have hge := of_decide_eq_false hge
          obtain rfl : i = 128 := by omega
          have hB : ∀ f : Int → Int, (p.take 128).map f ++ z128.drop 128 = p.map f := fun f => by rw [List.take_of_length_le (by omega), List.drop_of_length_le (by omega), List.append_nil]
          rw [hB, hB] at *
          have hx : (p.map (fun x => xorI .u8 x 54)).length = 128 := by rw [List.length_map, hpl]
          have hy : (p.map (fun x => xorI .u8 x 92)).length = 128 := by rw [List.length_map, hpl]
          refine ⟨need_of (by omega), ?_⟩
          intro x8 e8 _ x9 e9 _ _
          subst e8; subst e9
          rw [List.drop_zero, Int.toNat_natCast, List.take_of_length_le (l := roJ d) (Nat.le_refl _)]
          have hxl : (p.map (fun x => xorI .u8 x 54) ++ roJ d).length = 128 + (roJ d).length := by rw [List.length_append, hx]
          refine ⟨need_of (by omega), need_of (by omega), need_of (by omega), ?_⟩
          intro x10 e10 _ x11 e11 _ _
          subst e10; subst e11
          rw [roL_l, List.drop_zero, Int.toNat_natCast, List.take_of_length_le (Nat.le_refl _)]
          refine ⟨need_of (by omega), need_of (by omega), ?_⟩
          intro x12 e12 h12 _ x13 e13 _ x14 e14 _ _
          subst e13; subst e14
          rw [List.drop_zero, Int.toNat_natCast, List.take_of_length_le (l := x13) (Nat.le_refl _)]
          have hyl : (p.map (fun x => xorI .u8 x 92) ++ x13).length = 128 + 64 := by rw [List.length_append, hy, h12]
          refine ⟨need_of (by omega), need_of (by omega), need_of (by omega), ?_⟩
          intro x15 e15 _ x16 e16 _ _
          subst e15; subst e16
          rw [roL_l, List.drop_zero, Int.toNat_natCast, List.take_of_length_le (Nat.le_refl _)]
          refine ⟨need_of (by omega), need_of (by omega), ?_⟩
          intro x17 e17 _ _
          refine ⟨⟨?_, trivial⟩, trivial⟩
          show x17 = macL (roL k) (roJ d)
          rw [e17, e12]
          unfold macL
          rw [hpp]
          rfl
    · show vc31 k d _ _
      rw [vc31_eq, List.nil_append]
      refine ⟨need_of (by omega), ?_⟩
      intro x1 e1 _ x2 e2 _ _
      subst e1; subst e2
      refine ⟨fun h => ?_, fun h => ?_⟩
      · have h := of_decide_eq_true h
        rw [roL_l, List.drop_zero, Int.toNat_natCast, List.take_of_length_le (Nat.le_refl _)]
        refine ⟨need_of (by omega), need_of (by omega), ?_⟩
        intro x3 e3 _ _ x4 e4 _ x5 e5 _ _
        have hq : keyK (roL k) = x3 := by unfold keyK; rw [if_pos (by omega), e3]
        rw [e4, e5, ← hq]
        refine ⟨rfl, 300 - 0, Or.inl ⟨rfl, 0, by omega, ?_, rfl⟩⟩
        rw [List.replicate_zero, List.append_nil]
      · have h := of_decide_eq_false h
        have hq : keyK (roL k) = roL k := by unfold keyK; rw [if_neg (by omega)]
        refine ⟨rfl, 300 - 0, Or.inl ⟨rfl, 0, by omega, ?_, rfl⟩⟩
        rw [List.replicate_zero, List.append_nil, hq]
  · cases hs
def Δ4 : Tab := ⟨tys, (31, genCtr [.d (.ints .u8), .d (.l (.ints .u8))] rmacG) :: (18, genCtr [.d (.l (.ints .u8))] rsumG) :: Δ3.ctr, [0, 1, 2, 3], gh4⟩
theorem Δ4_ok : TabOk Tryd.prog Δ4 := (Δ3_ok.cons rsumG_ok).cons rmacG_ok
end Go.Gx

/- The reference's stretched key. -/
namespace Go.Gx
open Go.Proofs Go.Sp
set_option linter.unusedVariables false
set_option maxRecDepth 100000

def L34 : Loops := [(5, ⟨[.ro 490 (.ints .u8) (.l []), .i .i64 ⟨false, 0⟩, .any, .any, .any, .any, .nsl, .i .i64 ⟨false, 0⟩] ++ reps .any 27, gh4 ++ [(490, .world)], 2000⟩),
  (1005, ⟨[.ro 490 (.ints .u8) (.l []), .i .i64 ⟨false, 0⟩, .any, .any, .any, .any, .sl 1001 0 1 ⟨true, 0⟩ ⟨false, 0⟩, .i .i64 ⟨false, 0⟩] ++ reps .any 27, gh4 ++ [(490, .world), (1001, .segs false [.rowI .u8 []])], 2000⟩)]
def vc34 (k : RO) (n : Int) (K : List RV → List (Option (List Seg)) → Prop) (Q : Nat → List Pv → Prop) : Prop := fnVcG 0 Δ4 Tryd.f34 L34 [.ro 490 (.ints .u8) k, .i .i64 ⟨false, n⟩] (gh4 ++ (490, .world) :: []) K Q
def lc34a (k : RO) (n i : Int) (g g' : List Int) (K : List RV → List (Option (List Seg)) → Prop) (Q : Nat → List Pv → Prop) : Prop := loopVcG 0 Δ4 Tryd.f34 L34 5 [.ro k, .z n, .z i, .l g, .l g'] K Q
def lc34b (k : RO) (n z i : Int) (g g' l : List Int) (K : List RV → List (Option (List Seg)) → Prop) (Q : Nat → List Pv → Prop) : Prop := loopVcG 0 Δ4 Tryd.f34 L34 1005 [.ro k, .z n, .z z, .z i, .l g, .l g', .l l] K Q
theorem vc34_eq : ∀ (k : RO) (n : Int) (K : List RV → List (Option (List Seg)) → Prop) (Q : Nat → List Pv → Prop), vc34 k n K Q = ((decide (n < (0 : Int)) = true → K [RV.v SV.nsl, RV.v (SV.b true false)] []) ∧ (decide (n < (0 : Int)) = false → (decide (n > (1048576 : Int)) = true → K [RV.v SV.nsl, RV.v (SV.b true false)] []) ∧ (decide (n > (1048576 : Int)) = false → Same Tryd.f34 (5 : Nat) (itemsOf Tryd.f34 (5 : Nat)) ∧ Q (5 : Nat) [Pv.ro k, Pv.z n, Pv.z (0 : Int), Pv.l K80, Pv.l K80]))) := by
  intros
  kernel_rfl
theorem lc34a_eq : ∀ (k : RO) (n i : Int) (g g' : List Int) (K : List RV → List (Option (List Seg)) → Prop) (Q : Nat → List Pv → Prop), lc34a k n i g g' K Q = ((decide ((0 : Int) < n) = true → ∀ (x1 : List Int), x1 = le8 i → AllR IntKind.u8 x1 → ∀ (x2 : Int), x2 = ((le8 i).length : Int) → (0 : Int) ≤ x2 → InR IntKind.i64 x2 → Need ((7 : Int) ≤ (7 : Int)) ∧ Need ((0 : Int) + x2 ≤ ↑x1.length) ∧ Need (((roL k).length : Int) ≤ (70368744177000 : Int)) ∧ Need (↑(roJ (RO.r [RO.l (List.take (7 : Nat) (List.drop (0 : Nat) [(115 : Int), (116 : Int), (114 : Int), (101 : Int), (116 : Int), (99 : Int), (104 : Int)])), RO.l (List.take x2.toNat (List.drop (0 : Nat) x1))])).length + (128 : Int) ≤ (70368744177000 : Int)) ∧ ∀ (x3 : List Int), x3 = macL (roL k) (roJ (RO.r [RO.l (List.take (7 : Nat) (List.drop (0 : Nat) [(115 : Int), (116 : Int), (114 : Int), (101 : Int), (116 : Int), (99 : Int), (104 : Int)])), RO.l (List.take x2.toNat (List.drop (0 : Nat) x1))])) → x3.length = (64 : Nat) → AllR IntKind.u8 x3 → ∀ (x4 : List Int), x4 = x3 → AllR IntKind.u8 x4 → ∀ (x5 : Int), x5 = ↑x3.length → (0 : Int) ≤ x5 → InR IntKind.i64 x5 → Need (↑([] ++ List.take x5.toNat (List.drop (0 : Nat) x4)).length * (1 : Int) ≤ (70368744177664 : Int)) ∧ Need ((0 : Int) + x5 ≤ ↑x4.length) ∧ ∀ (x6 : List Int), x6 = [] ++ List.take x5.toNat (List.drop (0 : Nat) x4) → AllR IntKind.u8 x6 → ∀ (x7 : Int), x7 = ↑([] ++ List.take x5.toNat (List.drop (0 : Nat) x4)).length → (0 : Int) ≤ x7 → InR IntKind.i64 x7 → ∀ (x8 : Int), x8 = IntKind.i64.wrap (i + (1 : Int)) → InR IntKind.i64 x8 → Same Tryd.f34 (5 : Nat) (itemsOf Tryd.f34 (5 : Nat)) ∧ Q (1005 : Nat) [Pv.ro k, Pv.z n, Pv.z x7, Pv.z x8, Pv.l g, Pv.l g', Pv.l x6]) ∧ (decide ((0 : Int) < n) = false → Need ((0 : Int) ≤ (0 : Int) ∧ (0 : Int) ≤ n ∧ n ≤ (0 : Int)) ∧ K [RV.v SV.nsl, RV.v (SV.b true true)] [])) := by
  intros
  kernel_rfl
theorem lc34b_eq : ∀ (k : RO) (n z i : Int) (g g' l : List Int) (K : List RV → List (Option (List Seg)) → Prop) (Q : Nat → List Pv → Prop), lc34b k n z i g g' l K Q = ((decide (z < n) = true → ∀ (x1 : List Int), x1 = le8 i → AllR IntKind.u8 x1 → ∀ (x2 : Int), x2 = ((le8 i).length : Int) → (0 : Int) ≤ x2 → InR IntKind.i64 x2 → Need ((7 : Int) ≤ (7 : Int)) ∧ Need ((0 : Int) + x2 ≤ ↑x1.length) ∧ Need (((roL k).length : Int) ≤ (70368744177000 : Int)) ∧ Need (↑(roJ (RO.r [RO.l (List.take (7 : Nat) (List.drop (0 : Nat) [(115 : Int), (116 : Int), (114 : Int), (101 : Int), (116 : Int), (99 : Int), (104 : Int)])), RO.l (List.take x2.toNat (List.drop (0 : Nat) x1))])).length + (128 : Int) ≤ (70368744177000 : Int)) ∧ ∀ (x3 : List Int), x3 = macL (roL k) (roJ (RO.r [RO.l (List.take (7 : Nat) (List.drop (0 : Nat) [(115 : Int), (116 : Int), (114 : Int), (101 : Int), (116 : Int), (99 : Int), (104 : Int)])), RO.l (List.take x2.toNat (List.drop (0 : Nat) x1))])) → x3.length = (64 : Nat) → AllR IntKind.u8 x3 → ∀ (x4 : List Int), x4 = x3 → AllR IntKind.u8 x4 → ∀ (x5 : Int), x5 = ↑x3.length → (0 : Int) ≤ x5 → InR IntKind.i64 x5 → Need (↑(l ++ List.take x5.toNat (List.drop (0 : Nat) x4)).length * (1 : Int) ≤ (70368744177664 : Int)) ∧ Need (z = ↑l.length) ∧ Need ((0 : Int) + x5 ≤ ↑x4.length) ∧ ∀ (x6 : List Int), x6 = l ++ List.take x5.toNat (List.drop (0 : Nat) x4) → AllR IntKind.u8 x6 → ∀ (x7 : Int), x7 = ↑(l ++ List.take x5.toNat (List.drop (0 : Nat) x4)).length → (0 : Int) ≤ x7 → InR IntKind.i64 x7 → ∀ (x8 : Int), x8 = IntKind.i64.wrap (i + (1 : Int)) → InR IntKind.i64 x8 → Same Tryd.f34 (5 : Nat) (itemsOf Tryd.f34 (5 : Nat)) ∧ Q (1005 : Nat) [Pv.ro k, Pv.z n, Pv.z x7, Pv.z x8, Pv.l g, Pv.l g', Pv.l x6]) ∧ (decide (z < n) = false → Need ((0 : Int) ≤ (0 : Int) ∧ (0 : Int) ≤ n ∧ n ≤ z) ∧ Need ((0 : Int) + n ≤ ↑l.length) ∧ K [RV.row (Con.ints IntKind.u8 (List.take n.toNat (List.drop (0 : Nat) l))), RV.v (SV.b true true)] [])) := by
  intros
  kernel_rfl

def inv34 (k : RO) (n : Int) (key : Nat) (ps : List Pv) (mm : Nat) : Prop :=
  0 ≤ n ∧ n ≤ 1048576 ∧ ((key = 5 ∧ ps = [.ro k, .z n, .z 0, .l K80, .l K80] ∧ mm = n.toNat + 1) ∨
  (key = 1005 ∧ ∃ j : Nat, 0 < j ∧ 64 * (j : Int) < n + 64 ∧ ps = [.ro k, .z n, .z ((64 * j : Nat) : Int), .z (j : Int), .l K80, .l K80, .l (strB (roL k) j)] ∧ mm = n.toNat - 64 * j))
def rstrG : List AV → Option (List Prop × List RV × List (Option (List Seg)))
  | [.d (.ints .u8) k, .v (.i .i64 ⟨_, n⟩)] => some ([((roL k).length : Int) ≤ 70368744177000], [.row (.ints .u8 (strL (roL k) n)), .v (.b false (decide (0 ≤ n) && decide (n ≤ 1048576)))], [])
  | _ => none
theorem rstrG_ok : CallOk Tryd.prog gh4 34 (genCtr [.d (.ints .u8), .v] rstrG) := by
  refine call_gen (fn := Tryd.f34) Δ4_ok rfl glow4 rfl (by kernel_rfl) (by kernel_rfl) _ rstrG fun av p rvs fin hs hp hf => ?_
  unfold rstrG at hs
  split at hs
  · rename_i k st n
    simp only [Option.some.injEq, Prod.mk.injEq] at hs
    obtain ⟨rfl, rfl, rfl⟩ := hs
    have hk : ((roL k).length : Int) ≤ 70368744177000 := hp.1
    refine ⟨[.ro 490 (.ints .u8) k, .i .i64 ⟨false, n⟩], [], L34, inv34 k n, ?okA, Nat.le_of_ble_eq_true (by kernel_rfl), ?_, ?_, ?_⟩
    case okA => exact ⟨rfl, rfl, trivial⟩
    · intro kk t ht g hg
      have hg : g ∈ [0, 1, 2, 3, 490] := hg
      simp only [List.mem_cons, List.not_mem_nil, or_false] at hg
      simp only [L34, List.mem_cons, List.not_mem_nil, or_false, Prod.mk.injEq] at ht
      obtain ⟨rfl, rfl⟩ | ⟨rfl, rfl⟩ := ht <;> rcases hg with rfl | rfl | rfl | rfl | rfl <;> exact ⟨by omega, rfl⟩
    · rintro vk t ps mm ht ⟨hn0, hn1, ⟨rfl, rfl, rfl⟩ | ⟨rfl, j, hj0, hj, rfl, rfl⟩⟩
      all_goals simp only [L34, List.mem_cons, List.not_mem_nil, or_false, Prod.mk.injEq, Nat.reduceEqDiff, false_and, true_and, false_or, or_false] at ht
      · subst ht
        show lc34a k n 0 K80 K80 _ _
        rw [lc34a_eq]
        refine ⟨fun hlt => ?_, fun hge => ?_⟩
        · have hlt := of_decide_eq_true hlt
          intro x1 e1 _ x2 e2 _ _
          subst e1
          have e2 : x2 = 8 := e2
          subst e2
          rw [List.drop_zero, List.drop_zero, show List.take (8 : Int).toNat (le8 (0 : Int)) = le8 (0 : Int) from rfl, show List.take 7 [(115 : Int), 116, 114, 101, 116, 99, 104] = strT from rfl, sha_pair]
          refine ⟨need_of (by omega), need_of (by simp [le8]), need_of (by omega), need_of (by simp [strT, le8]), ?_⟩
          intro x3 e3 h3 _ x4 e4 _ x5 e5 _ _
          subst e4; subst e5
          rw [List.drop_zero, Int.toNat_natCast, List.take_of_length_le (Nat.le_refl _)]
          have hl2 : ([] ++ x4).length = 64 * (0 + 1) := by rw [List.length_append, h3]; rfl
          refine ⟨need_of (by omega), need_of (by omega), ?_⟩
          intro x6 e6 _ x7 e7 _ _ x8 e8 _
          rw [wrap_i64 (by omega)] at e8
          rw [hl2] at e7
          rw [e3] at e6
          refine ⟨rfl, n.toNat - 64 * (0 + 1), by omega, hn0, hn1, Or.inr ⟨rfl, 0 + 1, by omega, by omega, ?_, rfl⟩⟩
          rw [e6, e7, e8]
          rfl
        · have hge := of_decide_eq_false hge
          obtain rfl : n = 0 := by omega
          refine ⟨need_of (by omega), ⟨⟨rfl, ?_⟩, ?_, trivial⟩, trivial⟩
          · exact fun x hx => by cases hx
          · rfl
      · subst ht
        have hl := strB_len (roL k) j
        show lc34b k n ((64 * j : Nat) : Int) (j : Int) K80 K80 (strB (roL k) j) _ _
        rw [lc34b_eq]
        refine ⟨fun hlt => ?_, fun hge => ?_⟩
        · have hlt := of_decide_eq_true hlt
          intro x1 e1 _ x2 e2 _ _
          subst e1
          have e2 : x2 = 8 := e2
          subst e2
          rw [List.drop_zero, List.drop_zero, show List.take (8 : Int).toNat (le8 (j : Int)) = le8 (j : Int) from rfl, show List.take 7 [(115 : Int), 116, 114, 101, 116, 99, 104] = strT from rfl, sha_pair]
          refine ⟨need_of (by omega), need_of (by simp [le8]), need_of (by omega), need_of (by simp [strT, le8]), ?_⟩
          intro x3 e3 h3 _ x4 e4 _ x5 e5 _ _
          subst e4; subst e5
          rw [List.drop_zero, Int.toNat_natCast, List.take_of_length_le (Nat.le_refl _)]
          have hl2 : (strB (roL k) j ++ x4).length = 64 * (j + 1) := by rw [List.length_append, h3, hl]; omega
          refine ⟨need_of (by omega), need_of (by omega), need_of (by omega), ?_⟩
          intro x6 e6 _ x7 e7 _ _ x8 e8 _
          rw [wrap_i64 (by omega)] at e8
          rw [hl2] at e7
          rw [e3] at e6
          refine ⟨rfl, n.toNat - 64 * (j + 1), by omega, hn0, hn1, Or.inr ⟨rfl, j + 1, by omega, by omega, ?_, rfl⟩⟩
          rw [e6, e7, e8]
          rfl
        · have hge := of_decide_eq_false hge
          refine ⟨need_of (by omega), need_of (by omega), ⟨⟨rfl, ?_⟩, ?_, trivial⟩, trivial⟩
          · show ((strB (roL k) j).drop 0).take n.toNat = strL (roL k) n
            unfold strL
            rw [if_pos hn1, List.drop_zero]
            have q := fun a b => strB_take (roL k) n.toNat a b
            have h1 := q j (by omega) (j + n.toNat) (by omega)
            have h2 := q n.toNat (by omega) (j + n.toNat) (by omega)
            rw [← h1, h2]
          · show true = (decide (0 ≤ n) && decide (n ≤ 1048576))
            simp [hn0, hn1]
    · show vc34 k n _ _
      rw [vc34_eq]
      have hnil : n < 0 ∨ n > 1048576 → strL (roL k) n = [] := fun h => by
        unfold strL
        rcases h with h | h
        · rw [show n.toNat = 0 by omega, List.take_zero]
        · rw [if_neg (by omega), strB, List.take_nil]
      have hno : n < 0 ∨ n > 1048576 → false = (decide (0 ≤ n) && decide (n ≤ 1048576)) := fun h => by
        rcases h with h | h
        · rw [show decide (0 ≤ n) = false from decide_eq_false (by omega), Bool.false_and]
        · rw [show decide (n ≤ 1048576) = false from decide_eq_false (by omega), Bool.and_false]
      refine ⟨fun h => ⟨⟨?_, ?_, trivial⟩, trivial⟩, fun h => ⟨fun h2 => ⟨⟨?_, ?_, trivial⟩, trivial⟩, fun h2 => ⟨rfl, n.toNat + 1, ?_⟩⟩⟩
      · have h := of_decide_eq_true h
        have e := hnil (Or.inl h)
        exact ⟨by show (strL (roL k) n).length = 0; rw [e]; rfl, fun x hx => by rw [e] at hx; cases hx⟩
      · exact hno (Or.inl (of_decide_eq_true h))
      · have h2 := of_decide_eq_true h2
        have e := hnil (Or.inr h2)
        exact ⟨by show (strL (roL k) n).length = 0; rw [e]; rfl, fun x hx => by rw [e] at hx; cases hx⟩
      · exact hno (Or.inr (of_decide_eq_true h2))
      · have h := of_decide_eq_false h
        have h2 := of_decide_eq_false h2
        exact ⟨by omega, by omega, Or.inl ⟨rfl, rfl, rfl⟩⟩
  · cases hs
def Δ5 : Tab := ⟨tys, (34, genCtr [.d (.ints .u8), .v] rstrG) :: Δ4.ctr, [0, 1, 2, 3], gh4⟩
theorem Δ5_ok : TabOk Tryd.prog Δ5 := Δ4_ok.cons rstrG_ok
end Go.Gx

/- What the reference's root of a tree promises, for lists of fewer than m leaves. -/
namespace Go.Gx
open Go.Proofs Go.Sp
set_option linter.unusedVariables false
set_option maxRecDepth 100000
def rrootG (m : Nat) : List AV → Option (List Prop × List RV × List (Option (List Seg)))
  | [.d (.l (.ints .u8)) d] => some ([(roX d).length < m, ((roX d).length : Int) ≤ 140737488355328, ∀ x ∈ roX d, ((roL x).length : Int) ≤ 70368744170000], [.v (.arr .u8 64 false (rootL ((roX d).map roL)))], [])
  | _ => none
end Go.Gx

/- The reference's root of a tree. -/
namespace Go.Gx
open Go.Proofs Go.Sp
set_option linter.unusedVariables false
set_option maxRecDepth 100000

def ΔR (m : Nat) : Tab := ⟨tys, (36, genCtr [.d (.l (.ints .u8))] (rrootG m)) :: Δ5.ctr, [0, 1, 2, 3], gh4⟩
def L36 : Loops := [(7, ⟨[.ro 490 (.l (.ints .u8)) (.r []), .any, .p 1000 0, .i .i64 ⟨false, 0⟩, .i .i64 ⟨false, 0⟩] ++ reps .any 39, gh4 ++ [(490, .world), (1000, .segs false [.arr .u8 64 false []])], 2000⟩)]
def vc36 (m : Nat) (d : RO) (K : List RV → List (Option (List Seg)) → Prop) (Q : Nat → List Pv → Prop) : Prop := fnVcG 0 (ΔR m) Tryd.f36 L36 [.ro 490 (.l (.ints .u8)) d] (gh4 ++ (490, .world) :: []) K Q
def lc36 (m : Nat) (d : RO) (n k : Int) (g g' r : List Int) (K : List RV → List (Option (List Seg)) → Prop) (Q : Nat → List Pv → Prop) : Prop := loopVcG 0 (ΔR m) Tryd.f36 L36 7 [.ro d, .z n, .z k, .l g, .l g', .l r] K Q
theorem vc36_eq : ∀ (m : Nat) (d : RO) (K : List RV → List (Option (List Seg)) → Prop) (Q : Nat → List Pv → Prop), vc36 m d K Q = (((((roX d).length : Int) == (0 : Int)) = true → Need ((0 : Int) ≤ (70368744177000 : Int)) ∧ ∀ (x1 : List Int), x1 = sha (roL (RO.l [])) → x1.length = (64 : Nat) → AllR IntKind.u8 x1 → K [RV.v (SV.arr IntKind.u8 (64 : Nat) false x1)] []) ∧ ((((roX d).length : Int) == (0 : Int)) = false → ((((roX d).length : Int) == (1 : Int)) = true → Need ((0 : Int) ≤ (0 : Int) ∧ (0 : Int) < ((roX d).length : Int)) ∧ Need (↑([(0 : Int)] ++ roL (roN d (0 : Nat))).length * (1 : Int) ≤ (70368744177664 : Int)) ∧ Need ((1 : Int) = (1 : Int)) ∧ ∀ (x2 : List Int), x2 = [(0 : Int)] ++ roL (roN d (0 : Nat)) → AllR IntKind.u8 x2 → ∀ (x3 : Int), x3 = ↑([(0 : Int)] ++ roL (roN d (0 : Nat))).length → (0 : Int) ≤ x3 → InR IntKind.i64 x3 → Need ((0 : Int) + x3 ≤ ↑x2.length) ∧ Need (↑(roL (RO.l (List.take x3.toNat (List.drop (0 : Nat) x2)))).length ≤ (70368744177000 : Int)) ∧ ∀ (x4 : List Int), x4 = sha (roL (RO.l (List.take x3.toNat (List.drop (0 : Nat) x2)))) → x4.length = (64 : Nat) → AllR IntKind.u8 x4 → K [RV.v (SV.arr IntKind.u8 (64 : Nat) false x4)] []) ∧ ((((roX d).length : Int) == (1 : Int)) = false → Same Tryd.f36 (7 : Nat) (itemsOf Tryd.f36 (7 : Nat)) ∧ Q (7 : Nat) [Pv.ro d, Pv.z ((roX d).length : Int), Pv.z (1 : Int), Pv.l K80, Pv.l K80, Pv.l (List.replicate (64 : Nat) (0 : Int))]))) := by
  intros
  kernel_rfl
theorem lc36_eq : ∀ (m : Nat) (d : RO) (n k : Int) (g g' r : List Int) (K : List RV → List (Option (List Seg)) → Prop) (Q : Nat → List Pv → Prop), lc36 m d n k g g' r K Q = ∀ (x1 : Int), x1 = IntKind.i64.wrap ((2 : Int) * k) → InR IntKind.i64 x1 → (decide (x1 < n) = true → ∀ (x2 : Int), x2 = IntKind.i64.wrap ((2 : Int) * k) → InR IntKind.i64 x2 → Same Tryd.f36 (7 : Nat) (itemsOf Tryd.f36 (7 : Nat)) ∧ Q (7 : Nat) [Pv.ro d, Pv.z n, Pv.z x2, Pv.l g, Pv.l g', Pv.l r]) ∧ (decide (x1 < n) = false → Need ((0 : Int) ≤ (0 : Int) ∧ (0 : Int) ≤ k ∧ k ≤ ((roX d).length : Int)) ∧ Need ((roX (RO.r (List.take (k - (0 : Int)).toNat (List.drop (0 : Nat) (roX d))))).length < m) ∧ Need (↑(roX (RO.r (List.take (k - (0 : Int)).toNat (List.drop (0 : Nat) (roX d))))).length ≤ (140737488355328 : Int)) ∧ Need (∀ (x : RO), x ∈ roX (RO.r (List.take (k - (0 : Int)).toNat (List.drop (0 : Nat) (roX d)))) → ((roL x).length : Int) ≤ (70368744170000 : Int)) ∧ ∀ (x3 : List Int), x3 = rootL (List.map roL (roX (RO.r (List.take (k - (0 : Int)).toNat (List.drop (0 : Nat) (roX d)))))) → x3.length = (64 : Nat) → AllR IntKind.u8 x3 → Need ((0 : Int) ≤ k ∧ k ≤ ((roX d).length : Int) ∧ ((roX d).length : Int) ≤ ((roX d).length : Int)) ∧ Need ((roX (RO.r (List.take (((roX d).length : Int) - k).toNat (List.drop k.toNat (roX d))))).length < m) ∧ Need (↑(roX (RO.r (List.take (((roX d).length : Int) - k).toNat (List.drop k.toNat (roX d))))).length ≤ (140737488355328 : Int)) ∧ Need (∀ (x : RO), x ∈ roX (RO.r (List.take (((roX d).length : Int) - k).toNat (List.drop k.toNat (roX d)))) → ((roL x).length : Int) ≤ (70368744170000 : Int)) ∧ ∀ (x4 : List Int), x4 = rootL (List.map roL (roX (RO.r (List.take (((roX d).length : Int) - k).toNat (List.drop k.toNat (roX d)))))) → x4.length = (64 : Nat) → AllR IntKind.u8 x4 → ∀ (x5 : List Int), x5 = x3 → AllR IntKind.u8 x5 → ∀ (x6 : Int), x6 = ↑x3.length → (0 : Int) ≤ x6 → InR IntKind.i64 x6 → Need (↑([(1 : Int)] ++ List.take x6.toNat (List.drop (0 : Nat) x5)).length * (1 : Int) ≤ (70368744177664 : Int)) ∧ Need ((1 : Int) = (1 : Int)) ∧ Need ((0 : Int) + x6 ≤ ↑x5.length) ∧ ∀ (x7 : List Int), x7 = [(1 : Int)] ++ List.take x6.toNat (List.drop (0 : Nat) x5) → AllR IntKind.u8 x7 → ∀ (x8 : Int), x8 = ↑([(1 : Int)] ++ List.take x6.toNat (List.drop (0 : Nat) x5)).length → (0 : Int) ≤ x8 → InR IntKind.i64 x8 → ∀ (x9 : List Int), x9 = x4 → AllR IntKind.u8 x9 → ∀ (x10 : Int), x10 = ↑x4.length → (0 : Int) ≤ x10 → InR IntKind.i64 x10 → Need (↑(x7 ++ List.take x10.toNat (List.drop (0 : Nat) x9)).length * (1 : Int) ≤ (70368744177664 : Int)) ∧ Need (x8 = ↑x7.length) ∧ Need ((0 : Int) + x10 ≤ ↑x9.length) ∧ ∀ (x11 : List Int), x11 = x7 ++ List.take x10.toNat (List.drop (0 : Nat) x9) → AllR IntKind.u8 x11 → ∀ (x12 : Int), x12 = ↑(x7 ++ List.take x10.toNat (List.drop (0 : Nat) x9)).length → (0 : Int) ≤ x12 → InR IntKind.i64 x12 → Need ((0 : Int) + x12 ≤ ↑x11.length) ∧ Need (↑(roL (RO.l (List.take x12.toNat (List.drop (0 : Nat) x11)))).length ≤ (70368744177000 : Int)) ∧ ∀ (x13 : List Int), x13 = sha (roL (RO.l (List.take x12.toNat (List.drop (0 : Nat) x11)))) → x13.length = (64 : Nat) → AllR IntKind.u8 x13 → K [RV.v (SV.arr IntKind.u8 (64 : Nat) false x13)] []) := by
  intros
  kernel_rfl

theorem log2_pow {n j : Nat} (h1 : 2 ^ j < n) (h2 : n ≤ 2 * 2 ^ j) : (n - 1).log2 = j := by
  have hp : 0 < 2 ^ j := Nat.pow_pos (by omega)
  have hne : n - 1 ≠ 0 := by omega
  have a1 : j ≤ (n - 1).log2 := (Nat.le_log2 hne).2 (by omega)
  have a2 : (n - 1).log2 < j + 1 := (Nat.log2_lt hne).2 (by rw [Nat.pow_succ]; omega)
  omega
def inv36 (d : RO) (key : Nat) (ps : List Pv) (mm : Nat) : Prop :=
  key = 7 ∧ ∃ j : Nat, 2 ^ j < (roX d).length ∧ ps = [.ro d, .z ((roX d).length : Int), .z ((2 ^ j : Nat) : Int), .l K80, .l K80, .l (List.replicate 64 0)] ∧ mm = (roX d).length - 2 ^ j
theorem rrootG_ok : ∀ m, CallOk Tryd.prog gh4 36 (genCtr [.d (.l (.ints .u8))] (rrootG m))
  | 0 => by
    refine call_gen (fn := Tryd.f36) Δ5_ok rfl glow4 rfl (by kernel_rfl) (by kernel_rfl) _ (rrootG 0) fun av p rvs fin hs hp hf => ?_
    unfold rrootG at hs
    split at hs
    · rename_i d
      simp only [Option.some.injEq, Prod.mk.injEq] at hs
      obtain ⟨rfl, rfl, rfl⟩ := hs
      exact absurd hp.1 (Nat.not_lt_zero _)
    · cases hs
  | m + 1 => by
    have hΓ : TabOk Tryd.prog (ΔR m) := Δ5_ok.cons (rrootG_ok m)
    refine call_gen (fn := Tryd.f36) hΓ rfl glow4 rfl (by kernel_rfl) (by kernel_rfl) _ (rrootG (m + 1)) fun av p rvs fin hs hp hf => ?_
    unfold rrootG at hs
    split at hs
    · rename_i d
      simp only [Option.some.injEq, Prod.mk.injEq] at hs
      obtain ⟨rfl, rfl, rfl⟩ := hs
      obtain ⟨hm, hlen, hx, _⟩ := hp
      refine ⟨[.ro 490 (.l (.ints .u8)) d], [], L36, inv36 d, ⟨rfl, trivial⟩, Nat.le_of_ble_eq_true (by kernel_rfl), ?_, ?_, ?_⟩
      · intro kk t ht g hg
        have hg : g ∈ [0, 1, 2, 3, 490] := hg
        simp only [List.mem_cons, List.not_mem_nil, or_false] at hg
        simp only [L36, List.mem_cons, List.not_mem_nil, or_false, Prod.mk.injEq] at ht
        obtain ⟨rfl, rfl⟩ := ht
        rcases hg with rfl | rfl | rfl | rfl | rfl <;> exact ⟨by omega, rfl⟩
      · rintro vk t ps mm ht ⟨rfl, j, hj, rfl, rfl⟩
        simp only [L36, List.mem_cons, List.not_mem_nil, or_false, Prod.mk.injEq] at ht
        obtain ⟨_, rfl⟩ := ht
        show lc36 m d ((roX d).length : Int) ((2 ^ j : Nat) : Int) K80 K80 (List.replicate 64 0) _ _
        rw [lc36_eq]
        simp only [roX_r]
        have hp : 0 < 2 ^ j := Nat.pow_pos (by omega)
        intro x1 e1 _
        rw [wrap_i64 (by omega)] at e1
        refine ⟨fun h => ?_, fun h => ?_⟩
        · have h := of_decide_eq_true h
          intro x2 e2 _
          rw [wrap_i64 (by omega)] at e2
          refine ⟨rfl, (roX d).length - 2 ^ (j + 1), by rw [Nat.pow_succ]; omega, rfl, j + 1, by rw [Nat.pow_succ]; omega, ?_, rfl⟩
          rw [e2, Nat.pow_succ]
          simp only [List.cons.injEq, Pv.z.injEq, and_true, true_and]
          push_cast; omega
        · have h := of_decide_eq_false h
          have hlog := log2_pow hj (by omega)
          have hv := rootL_two ((roX d).map roL) (by rw [List.length_map]; omega)
          rw [List.length_map, hlog] at hv
          generalize hxs : roX d = xs at *
          generalize 2 ^ j = k at *
          have t1 : ((k : Int) - 0).toNat = k := by omega
          have t2 : ((xs.length : Int) - (k : Int)).toNat = xs.length - k := by omega
          have t3 : (xs.drop k).take (xs.length - k) = xs.drop k := List.take_of_length_le (by rw [List.length_drop]; omega)
          rw [t1, t2, Int.toNat_natCast, t3, List.drop_zero]
          have l1 : (xs.take k).length = k := by rw [List.length_take]; omega
          have l2 : (xs.drop k).length = xs.length - k := by rw [List.length_drop]
          refine ⟨need_of (by omega), need_of (by omega), need_of (by omega), need_of (fun x hx' => hx x (List.mem_of_mem_take hx')), ?_⟩
          intro x3 e3 h3 _
          refine ⟨need_of (by omega), need_of (by omega), need_of (by omega), need_of (fun x hx' => hx x (List.mem_of_mem_drop hx')), ?_⟩
          intro x4 e4 h4 _ x5 e5 _ x6 e6 _ _
          subst e5; subst e6
          rw [List.drop_zero, Int.toNat_natCast, List.take_of_length_le (Nat.le_refl _)]
          have hl7 : ([(1 : Int)] ++ x5).length = 65 := by rw [List.length_append, h3]; rfl
          refine ⟨need_of (by omega), need_of (by first | trivial | rfl), need_of (by omega), ?_⟩
          intro x7 e7 _ x8 e8 _ _ x9 e9 _ x10 e10 _ _
          rw [← e7] at hl7 e8
          subst e9; subst e10; subst e8
          rw [List.drop_zero, Int.toNat_natCast, List.take_of_length_le (Nat.le_refl _)]
          have hl11 : (x7 ++ x9).length = 129 := by rw [List.length_append, hl7, h4]
          refine ⟨need_of (by omega), need_of (by first | trivial | rfl), need_of (by omega), ?_⟩
          intro x11 e11 _ x12 e12 _ _
          rw [← e11] at hl11 e12
          subst e12
          rw [List.drop_zero, Int.toNat_natCast, List.take_of_length_le (Nat.le_refl _), roL_l]
          refine ⟨need_of (by omega), need_of (by omega), ?_⟩
          intro x13 e13 _ _
          refine ⟨⟨?_, trivial⟩, trivial⟩
          show x13 = rootL (xs.map roL)
          rw [e13, e11, e7, hv, ← List.map_take, ← List.map_drop, ← e3, ← e4]
          rfl
      · show vc36 m d _ _
        rw [vc36_eq]
        simp only [roL_l, List.drop_zero]
        refine ⟨fun h0 => ?_, fun h0 => ⟨fun h1 => ?_, fun h1 => ?_⟩⟩
        · have h0 : (roX d).length = 0 := by simpa using h0
          have hxs := List.eq_nil_of_length_eq_zero h0
          refine ⟨need_of (by omega), ?_⟩
          intro x1 e1 _ _
          refine ⟨⟨?_, trivial⟩, trivial⟩
          show x1 = rootL ((roX d).map roL)
          rw [e1, hxs]; rfl
        · have h1 : (roX d).length = 1 := by
            have h1 : (((roX d).length : Nat) : Int) = 1 := by simpa using h1
            omega
          obtain ⟨a, ha⟩ := List.length_eq_one_iff.1 h1
          have hr : roN d 0 = a := by unfold roN; rw [ha]; rfl
          have hxa := hx a (by rw [ha]; simp)
          rw [hr]
          have hl2 : ([(0 : Int)] ++ roL a).length = 1 + (roL a).length := by rw [List.length_append]; rfl
          refine ⟨need_of (by omega), need_of (by omega), need_of (by first | trivial | rfl), ?_⟩
          intro x2 e2 _ x3 e3 _ _
          rw [← e2] at hl2 e3
          subst e3
          rw [Int.toNat_natCast, List.take_of_length_le (Nat.le_refl _)]
          refine ⟨need_of (by omega), need_of (by omega), ?_⟩
          intro x4 e4 _ _
          refine ⟨⟨?_, trivial⟩, trivial⟩
          show x4 = rootL ((roX d).map roL)
          rw [e4, e2, ha]; rfl
        · have h0 : (roX d).length ≠ 0 := by
            intro h; rw [h] at h0; simp at h0
          have h1 : (roX d).length ≠ 1 := by
            intro h; rw [h] at h1; simp at h1
          exact ⟨rfl, _, rfl, 0, by simp; omega, rfl, rfl⟩
    · cases hs
def rrootF : List AV → Option (List Prop × List RV × List (Option (List Seg)))
  | [.d (.l (.ints .u8)) d] => some ([((roX d).length : Int) ≤ 140737488355328, ∀ x ∈ roX d, ((roL x).length : Int) ≤ 70368744170000], [.v (.arr .u8 64 false (rootL ((roX d).map roL)))], [])
  | _ => none
theorem rrootF_ok : CallOk Tryd.prog gh4 36 (genCtr [.d (.l (.ints .u8))] rrootF) := by
  refine gen_weaken fun av p rvs fin hs hp => ?_
  unfold rrootF at hs
  split at hs
  · rename_i d
    simp only [Option.some.injEq, Prod.mk.injEq] at hs
    obtain ⟨rfl, rfl, rfl⟩ := hs
    exact ⟨_, _, rrootG_ok ((roX d).length + 1), rfl, Nat.lt_succ_self _, hp.1, hp.2.1, trivial⟩
  · cases hs
def Δ6 : Tab := ⟨tys, (36, genCtr [.d (.l (.ints .u8))] rrootF) :: Δ5.ctr, [0, 1, 2, 3], gh4⟩
theorem Δ6_ok : TabOk Tryd.prog Δ6 := Δ5_ok.cons rrootF_ok
end Go.Gx

/- Contracts whose answers are lists of rows that the call has made: a pool, and rows of headers. -/
namespace Go.Gx
open Go.RowKit
set_option linter.unusedVariables false

def noPl : Pl := { blk := 0, off := 0, cap := 0 }

/-- What a call has made or turned, under the caller's keys. -/
theorem Mem.import {w0 : World} {M : Nat → Prop} {ρ ρ' ρn : Nat → Pl} {H H' Hn : Nat → Option SB} {w w' : World} {M' : Nat → Prop} (hm : Mem w0 M ρ H w) (hr : Mem w M' ρ' H' w') {im : Nat → Option (Option Nat)}
    (hN : ∀ k, im k = none → Hn k = H k ∧ (dmOf H k → ρn k = ρ k))
    (hT : ∀ k c, im k = some (some c) → ρn k = ρ' c ∧ (Hn k = some .gone ∨ (∃ kd ms, Hn k = some (.pool kd ms) ∧ H' c = some (.pool kd ms)) ∨ ∃ l l0, Hn k = some (.segs false l) ∧ H' c = some (.segs false l0) ∧ ∀ cs, SegsD (dmOf H') ρ' l0 cs → SegsD (dmOf Hn) ρn l cs))
    (hV : ∀ k, im k = some none → ρn k = noPl ∧ (Hn k = some .gone ∨ (∃ kd, Hn k = some (.pool kd [])) ∨ ∃ l, Hn k = some (.segs false l) ∧ SegsD (dmOf Hn) ρn l []))
    (hinj : ∀ k k' c, im k = some (some c) → im k' = some (some c) → k = k')
    (hle : ∀ k, dmOf H k → dmOf Hn k ∧ PlLe (ρ k) (ρn k)) (hM : ∀ b, M' b → w0.heap.size ≤ b ∨ M b)
    (hs : ∀ k ro l, im k = none → H k = some (.segs ro l) → 0 < (ρ k).cap → ¬ M' (ρ k).blk)
    (hp : ∀ k kd ms i, im k = none → H k = some (.pool kd ms) → i < ms.length → 0 < (ρ k).pc i → ¬ M' ((ρ k).pb i)) : Mem w0 M ρn Hn w' := by
  have seg : ∀ k ro l, Hn k = some (.segs ro l) → 0 < (ρn k).cap → (im k = none ∧ H k = some (.segs ro l) ∧ ρn k = ρ k ∧ (ρn k).blk < w.heap.size ∧ ¬ M' (ρn k).blk) ∨ (∃ c l0, im k = some (some c) ∧ ro = false ∧ H' c = some (.segs false l0) ∧ ρn k = ρ' c ∧ (w.heap.size ≤ (ρn k).blk ∨ M' (ρn k).blk)) := fun k ro l h c0 => by
    cases e : im k with
    | none =>
      obtain ⟨a, b⟩ := hN k e
      rw [a] at h
      have b := b (dm_of h)
      rw [b] at c0 ⊢
      exact .inl ⟨rfl, h, rfl, hm.heap.lt k ro l h c0, hs k ro l e h c0⟩
    | some o =>
      cases o with
      | none => rw [(hV k e).1] at c0; exact absurd c0 (by simp [noPl])
      | some c =>
        obtain ⟨a, b | ⟨kd, ms, b, _⟩ | ⟨l1, l0, b, b2, _⟩⟩ := hT k c e
        · rw [b] at h; cases h
        · rw [b] at h; cases h
        · rw [b] at h
          simp only [Option.some.injEq, SB.segs.injEq] at h
          rw [a] at c0 ⊢
          exact .inr ⟨c, l0, rfl, h.1.symm, b2, rfl, hr.own c l0 b2 c0⟩
  have pool : ∀ k kd ms, Hn k = some (.pool kd ms) → (im k = none ∧ H k = some (.pool kd ms) ∧ ρn k = ρ k) ∨ (∃ c, im k = some (some c) ∧ H' c = some (.pool kd ms) ∧ ρn k = ρ' c) ∨ (ms = [] ∧ ρn k = noPl) := fun k kd ms h => by
    cases e : im k with
    | none =>
      obtain ⟨a, b⟩ := hN k e
      rw [a] at h
      exact .inl ⟨rfl, h, b (dm_of h)⟩
    | some o =>
      cases o with
      | none =>
        obtain ⟨a, b | ⟨kd', b⟩ | ⟨l, b, _⟩⟩ := hV k e
        · rw [b] at h; cases h
        · rw [b] at h
          simp only [Option.some.injEq, SB.pool.injEq] at h
          exact .inr (.inr ⟨h.2.symm, a⟩)
        · rw [b] at h; cases h
      | some c =>
        obtain ⟨a, b | ⟨kd', ms', b, b2⟩ | ⟨l1, l0, b, _⟩⟩ := hT k c e
        · rw [b] at h; cases h
        · rw [b] at h
          simp only [Option.some.injEq, SB.pool.injEq] at h
          rw [h.1, h.2] at b2
          exact .inr (.inl ⟨c, rfl, b2, a⟩)
        · rw [b] at h; cases h
  have row : ∀ k kd ms i, Hn k = some (.pool kd ms) → i < ms.length → 0 < (ρn k).pc i → (im k = none ∧ H k = some (.pool kd ms) ∧ ρn k = ρ k ∧ (ρn k).pb i < w.heap.size ∧ ¬ M' ((ρn k).pb i)) ∨ (∃ c, im k = some (some c) ∧ H' c = some (.pool kd ms) ∧ ρn k = ρ' c ∧ (w.heap.size ≤ (ρn k).pb i ∨ M' ((ρn k).pb i))) := fun k kd ms i h hi c0 => by
    rcases pool k kd ms h with ⟨a, b, c⟩ | ⟨c, a, b, d⟩ | ⟨rfl, _⟩
    · rw [c] at c0 ⊢
      exact .inl ⟨a, b, rfl, (hm.pools.pool k kd ms b).lt i hi c0, hp k kd ms i a b hi c0⟩
    · rw [d] at c0 ⊢
      exact .inr ⟨c, a, b, rfl, (hr.pools.pool c kd ms b).own i hi c0⟩
    · exact absurd hi (by simp)
  refine ⟨⟨fun k b hb => ?_, fun k k' ro ro' l l' h1 h2 hkk hro c1 c2 => ?_, fun k ro l h1 c1 => ?_⟩, ⟨hr.frame.os.trans hm.frame.os, hr.frame.tape.trans hm.frame.tape, hr.frame.output.trans hm.frame.output, Nat.le_trans hm.frame.size hr.frame.size, fun k hk1 hk2 => ?_⟩, fun k l h1 c1 => ?_, fun k h1 => ?_, fun k l h1 c1 => ?_, ⟨fun k kd ms hk => ?_, fun k kd ms k' ro l i h1 h2 c1 hi c2 => ?_, fun k kd ms k' kd' ms' i j h1 h2 hkk hi hj c1 c2 => ?_⟩⟩
  · cases e : im k with
    | none =>
      obtain ⟨a, e2⟩ := hN k e
      rw [a] at hb
      exact (hm.heap.blk k b hb).of_block (fun a ha => (hle a ha).1) (fun a ha => (hle a ha).2) (e2 (dm_of hb)) fun ro l e3 c => by
        subst e3
        exact hr.frame.block _ (hm.heap.lt k ro l hb c) (hs k ro l e hb c)
    | some o =>
      cases o with
      | none =>
        obtain ⟨a, d | ⟨kd', d⟩ | ⟨l, d, d2⟩⟩ := hV k e
        · rw [d] at hb; simp only [Option.some.injEq] at hb; subst hb; trivial
        · rw [d] at hb; simp only [Option.some.injEq] at hb; subst hb; trivial
        · rw [d] at hb; simp only [Option.some.injEq] at hb; subst hb
          exact ⟨[], d2, by simp, rangeAt_nil _ _ _, fun _ => by rw [a]; exact there_zero _ _ _⟩
      | some c =>
        obtain ⟨a, d | ⟨kd', ms', d, _⟩ | ⟨l1, l0, d, d2, d3⟩⟩ := hT k c e
        · rw [d] at hb; simp only [Option.some.injEq] at hb; subst hb; trivial
        · rw [d] at hb; simp only [Option.some.injEq] at hb; subst hb; trivial
        · rw [d] at hb; simp only [Option.some.injEq] at hb; subst hb
          obtain ⟨vs, s1, s2, s3, s4⟩ := hr.heap.blk c _ d2
          exact ⟨vs, d3 vs s1, by rw [a]; exact s2, by rw [a]; exact s3, fun h => by rw [a]; exact s4 h⟩
  · rcases seg k ro l h1 c1 with ⟨a1, a2, a3, a4, a5⟩ | ⟨c, l0, a1, rfl, a2, a3, a4⟩
    · rcases seg k' ro' l' h2 c2 with ⟨b1, b2, b3, b4, b5⟩ | ⟨c', l0', b1, rfl, b2, b3, b4⟩
      · rw [a3] at c1 ⊢; rw [b3] at c2 ⊢
        exact hm.heap.sep k k' ro ro' l l' a2 b2 hkk hro c1 c2
      · intro e
        rcases b4 with b4 | b4
        · omega
        · rw [e] at a5; exact a5 b4
    · rcases seg k' ro' l' h2 c2 with ⟨b1, b2, b3, b4, b5⟩ | ⟨c', l0', b1, rfl, b2, b3, b4⟩
      · intro e
        rcases a4 with a4 | a4
        · omega
        · rw [← e] at b5; exact b5 a4
      · rw [a3] at c1 ⊢; rw [b3] at c2 ⊢
        exact hr.heap.sep c c' false false l0 l0' a2 b2 (fun e => by subst e; exact hkk (hinj k k' c a1 b1)) (.inl rfl) c1 c2
  · rcases seg k ro l h1 c1 with ⟨a1, a2, a3, a4, a5⟩ | ⟨c, l0, a1, rfl, a2, a3, a4⟩
    · exact Nat.lt_of_lt_of_le a4 hr.frame.size
    · rw [a3] at c1 ⊢; exact hr.heap.lt c false l0 a2 c1
  · have hn : ¬ M' k := fun h => by
      rcases hM k h with h | h
      · omega
      · exact hk2 h
    rw [hr.frame.block k (Nat.lt_of_lt_of_le hk1 hm.frame.size) hn]
    exact hm.frame.block k hk1 hk2
  · rcases seg k false l h1 c1 with ⟨a1, a2, a3, a4, a5⟩ | ⟨c, l0, a1, _, a2, a3, a4⟩
    · rw [a3] at c1 ⊢; exact hm.own k l a2 c1
    · rcases a4 with a4 | a4
      · exact .inl (Nat.le_trans hm.frame.size a4)
      · exact hM _ a4
  · cases e : im k with
    | none =>
      obtain ⟨a, b⟩ := hN k e
      rw [a] at h1
      rw [b (dm_of h1)]
      exact hm.view k h1
    | some o =>
      cases o with
      | none =>
        obtain ⟨_, d | ⟨kd', d⟩ | ⟨l, d, d2⟩⟩ := hV k e <;> rw [d] at h1 <;> cases h1
      | some c =>
        obtain ⟨_, d | ⟨kd', ms', d, _⟩ | ⟨l1, l0, d, d2, d3⟩⟩ := hT k c e <;> rw [d] at h1 <;> cases h1
  · rcases seg k false l h1 c1 with ⟨a1, a2, a3, a4, a5⟩ | ⟨c, l0, a1, _, a2, a3, a4⟩
    · rw [a3] at c1 a4 a5 ⊢
      exact (hm.clean k l a2 c1).of_block (hr.frame.block _ a4 a5)
    · rw [a3] at c1 ⊢; exact hr.clean c l0 a2 c1
  · rcases pool k kd ms hk with ⟨a, b, c⟩ | ⟨c, a, b, d⟩ | ⟨rfl, d⟩
    · refine (hm.pools.pool k kd ms b).step c hr.frame.size (fun _ _ _ h => h) fun i hi h0 => hr.frame.block _ ((hm.pools.pool k kd ms b).lt i hi h0) (hp k kd ms i a b hi h0)
    · rw [d]
      have hq := hr.pools.pool c kd ms b
      exact ⟨hq.cnt, hq.row, hq.lt, fun i hi h0 => by
        rcases hq.own i hi h0 with h | h
        · exact .inl (Nat.le_trans hm.frame.size h)
        · exact hM _ h, hq.clean, hq.sep⟩
    · rw [d]
      exact ⟨rfl, fun i m hi => by simp at hi, fun i hi => absurd hi (by simp), fun i hi => absurd hi (by simp), fun i hi => absurd hi (by simp), fun i j hi => absurd hi (by simp)⟩
  · rcases seg k' ro l h2 c1 with ⟨a1, a2, a3, a4, a5⟩ | ⟨c, l0, a1, rfl, a2, a3, a4⟩
    · rcases row k kd ms i h1 hi c2 with ⟨b1, b2, b3, b4, b5⟩ | ⟨c', b1, b2, b3, b4⟩
      · rw [a3] at c1 ⊢; rw [b3] at c2 ⊢
        exact hm.pools.apart k kd ms k' ro l i b2 a2 c1 hi c2
      · intro e
        rcases b4 with b4 | b4
        · omega
        · rw [e] at a5; exact a5 b4
    · rcases row k kd ms i h1 hi c2 with ⟨b1, b2, b3, b4, b5⟩ | ⟨c', b1, b2, b3, b4⟩
      · intro e
        rcases a4 with a4 | a4
        · omega
        · rw [← e] at b5; exact b5 a4
      · rw [a3] at c1 ⊢; rw [b3] at c2 ⊢
        exact hr.pools.apart c' kd ms c false l0 i b2 a2 c1 hi c2
  · rcases row k kd ms i h1 hi c1 with ⟨a1, a2, a3, a4, a5⟩ | ⟨c, a1, a2, a3, a4⟩
    · rcases row k' kd' ms' j h2 hj c2 with ⟨b1, b2, b3, b4, b5⟩ | ⟨c', b1, b2, b3, b4⟩
      · rw [a3] at c1 ⊢; rw [b3] at c2 ⊢
        exact hm.pools.two k kd ms k' kd' ms' i j a2 b2 hkk hi hj c1 c2
      · intro e
        rcases b4 with b4 | b4
        · omega
        · rw [e] at a5; exact a5 b4
    · rcases row k' kd' ms' j h2 hj c2 with ⟨b1, b2, b3, b4, b5⟩ | ⟨c', b1, b2, b3, b4⟩
      · intro e
        rcases a4 with a4 | a4
        · omega
        · rw [← e] at b5; exact b5 a4
      · rw [a3] at c1 ⊢; rw [b3] at c2 ⊢
        exact hr.pools.two c kd ms c' kd' ms' i j a2 b2 (fun e => by subst e; exact hkk (hinj k k' c a1 b1)) hi hj c1 c2

/-! ### The callee's side -/

abbrev Hdrs := List (Nat × Nat)

/-- A row of headers: where it and its pool lie, what it holds; nil is none. -/
def canH (h : Heap) (x : SV) (K : Option (Nat × Nat) → Hdrs → Prop) : Prop :=
  match x with
  | .nsl => K none []
  | .sl key 0 1 ⟨true, .ofNat 0⟩ len => (match Nat.ble 1000 key, assoc h key with
    | true, some (.segs false [.rowH pk hs]) => Need (len.z = (hs.length : Int)) ∧ K (some (key, pk)) hs
    | _, _ => False)
  | _ => False

/-- The pool. -/
def canP (k : IntKind) (h : Heap) (pk : Nat) (K : List (List Int) → Prop) : Prop :=
  match Nat.ble 1000 pk, assoc h pk with
  | true, some (.pool k' ms) => (match keq k' k with | true => K ms | false => False)
  | _, _ => False

/-- One row of headers. -/
def kvH1 (k : IntKind) (x : SV) (h : Heap) (K : Hdrs → List (List Int) → Prop) : Prop :=
  canH h x fun a hs => match a with
    | none => K hs []
    | some (_, pk) => canP k h pk fun ms => K hs ms

/-- Two rows of headers over one pool. -/
def kvH2 (k : IntKind) (x : SV) (h : Heap) (K : Hdrs → Hdrs → List (List Int) → Prop) : Prop :=
  match x with
  | .agg [y, z] => canH h y fun a hs => canH h z fun b gs => match a, b with
    | none, none => K hs gs []
    | some (_, pk), none => canP k h pk fun ms => K hs gs ms
    | none, some (_, pk) => canP k h pk fun ms => K hs gs ms
    | some (a, pk), some (b, pk') => (match Nat.beq pk pk', Nat.beq a b with
      | true, false => canP k h pk fun ms => K hs gs ms
      | _, _ => False)
  | _ => False

section
variable {P : Program} {Γ : Tab} {w0 : World} {M : Nat → Prop} {ρ : Nat → Pl} {w : World}

/-- Where a row of headers lies that a call has answered. -/
def HdrAt (H : Nat → Option SB) (ρ : Nat → Pl) (a : Option (Nat × Nat)) (hs : Hdrs) (v : Value) : Prop :=
  match a with
  | none => hs = [] ∧ v = .slice none 0 0
  | some (key, pk) => 1000 ≤ key ∧ H key = some (.segs false [.rowH pk hs]) ∧ D (dmOf H) ρ (.sl key 0 1 ⟨true, 0⟩ ⟨false, (hs.length : Int)⟩) v

theorem canH_sound {h : Heap} {x : SV} {v : Value} (hx : D (dmOf (assoc h)) ρ x v) {K : Option (Nat × Nat) → Hdrs → Prop} (hk : canH h x K) : ∃ a hs, K a hs ∧ HdrAt (assoc h) ρ a hs v := by
  unfold canH at hk
  split at hk
  · exact ⟨none, [], hk, rfl, hx⟩
  · rename_i key len
    split at hk
    · rename_i pk hs h1 h2
      obtain ⟨e, hk⟩ := hk
      refine ⟨_, hs, hk, Nat.le_of_ble_eq_true h1, h2, ?_⟩
      have e : len.z = (hs.length : Int) := e
      simp only [D] at hx ⊢
      rw [e] at hx
      exact hx
    · exact hk.elim
  · exact hk.elim

theorem canP_sound {k : IntKind} {h : Heap} {pk : Nat} {K : List (List Int) → Prop} (hk : canP k h pk K) : ∃ ms, K ms ∧ 1000 ≤ pk ∧ assoc h pk = some (.pool k ms) := by
  unfold canP at hk
  split at hk
  · rename_i k' ms h1 h2
    split at hk
    · rename_i e
      have e := keq_eq e
      subst e
      exact ⟨ms, hk, Nat.le_of_ble_eq_true h1, h2⟩
    · exact hk.elim
  · exact hk.elim

/-- The pool of two rows of headers. -/
def poolOf : Option (Nat × Nat) → Option (Nat × Nat) → Option Nat
  | some (_, pk), _ => some pk
  | none, some (_, pk) => some pk
  | none, none => none

def PoolAt (k : IntKind) (H : Nat → Option SB) (p : Option Nat) (ms : List (List Int)) : Prop :=
  match p with
  | none => ms = []
  | some pk => 1000 ≤ pk ∧ H pk = some (.pool k ms)

theorem kvH1_sound {k : IntKind} {h : Heap} {x : SV} {v : Value} (hx : D (dmOf (assoc h)) ρ x v) {K : Hdrs → List (List Int) → Prop} (hk : kvH1 k x h K) :
    ∃ a hs ms, K hs ms ∧ HdrAt (assoc h) ρ a hs v ∧ PoolAt k (assoc h) (poolOf a none) ms := by
  unfold kvH1 at hk
  obtain ⟨a, hs, hk, h1⟩ := canH_sound hx hk
  cases a with
  | none => exact ⟨none, hs, [], hk, h1, rfl⟩
  | some q =>
    obtain ⟨key, pk⟩ := q
    obtain ⟨ms, q1, q2, q3⟩ := canP_sound hk
    exact ⟨_, hs, ms, q1, h1, q2, q3⟩

theorem kvH2_sound {k : IntKind} {h : Heap} {x : SV} {v : Value} (hx : D (dmOf (assoc h)) ρ x v) {K : Hdrs → Hdrs → List (List Int) → Prop} (hk : kvH2 k x h K) :
    ∃ a b hs gs ms u1 u2, K hs gs ms ∧ v = .agg #[u1, u2] ∧ HdrAt (assoc h) ρ a hs u1 ∧ HdrAt (assoc h) ρ b gs u2 ∧ PoolAt k (assoc h) (poolOf a b) ms ∧ (∀ p q, a = some p → b = some q → p.2 = q.2 ∧ p.1 ≠ q.1) := by
  unfold kvH2 at hk
  split at hk
  · rename_i y z
    simp only [D, Cs] at hx
    obtain ⟨cs, ⟨u1, c1, d1, rfl, u2, c2, d2, rfl, rfl⟩, rfl⟩ := hx
    obtain ⟨a, hs, hk, h1⟩ := canH_sound d1 hk
    obtain ⟨b, gs, hk, h2⟩ := canH_sound d2 hk
    have one : ∀ {o : Option (Nat × Nat)} {hs : Hdrs} {u : Value}, HdrAt (assoc h) ρ o hs u → u.cells.toList = [u] := by
      intro o hs u ho
      cases o with
      | none => rw [ho.2]; rfl
      | some q => obtain ⟨_, _, ho⟩ := ho; rw [(single_cell rfl ho).2]
    have e : (u1.cells.toList ++ (u2.cells.toList ++ [])).toArray = #[u1, u2] := by rw [one h1, one h2]; first | rfl | simp
    rw [e]
    cases a with
    | none =>
      cases b with
      | none => exact ⟨none, none, hs, gs, [], u1, u2, hk, rfl, h1, h2, rfl, fun p q e => by cases e⟩
      | some q =>
        obtain ⟨ms, q1, q2, q3⟩ := canP_sound hk
        exact ⟨none, _, hs, gs, ms, u1, u2, q1, rfl, h1, h2, ⟨q2, q3⟩, fun p q e => by cases e⟩
    | some p =>
      obtain ⟨a, pk⟩ := p
      cases b with
      | none =>
        obtain ⟨ms, q1, q2, q3⟩ := canP_sound hk
        exact ⟨_, none, hs, gs, ms, u1, u2, q1, rfl, h1, h2, ⟨q2, q3⟩, fun p q _ e => by cases e⟩
      | some q =>
        obtain ⟨b, pk'⟩ := q
        simp only at hk
        split at hk
        · rename_i e1 e2
          obtain ⟨ms, q1, q2, q3⟩ := canP_sound hk
          refine ⟨_, _, hs, gs, ms, u1, u2, q1, rfl, h1, h2, ⟨q2, q3⟩, fun p q e e' => ?_⟩
          simp only [Option.some.injEq] at e e'
          subst e e'
          exact ⟨Nat.eq_of_beq_eq_true e1, fun e => by have e : a = b := e; subst e; rw [Nat.beq_refl] at e2; cases e2⟩
        · exact hk.elim
  · exact hk.elim

/-! ### The caller's side -/

def hdrSV (key : Nat) (hs : Hdrs) : SV := .sl key 0 1 ⟨true, .ofNat 0⟩ ⟨false, (hs.length : Int)⟩

/-- An answer of two rows of headers; 'kp', 'kq': the keys of the pool and of the second row. -/
def famCtrK (kp kq : Nat → Nat) (k : IntKind) (ms : List Md) (spec : List AV → Option (List Prop × Hdrs × Hdrs × List (List Int))) : Ctr := fun stamp args =>
  getA [] ms args fun p avs => (match spec avs with
    | some (p', hs, gs, rows) => .get stamp fun b => (match b with
      | none => .get (kp stamp) fun b => (match b with
        | none => .get (kq stamp) fun b => (match b with
          | none => .ret ⟨p ++ p', .agg [hdrSV stamp hs, hdrSV (kq stamp) gs], [(kp stamp, .pool k rows), (stamp, .segs false [.rowH (kp stamp) hs]), (kq stamp, .segs false [.rowH (kp stamp) gs])], true⟩
          | some _ => .fail)
        | some _ => .fail)
      | some _ => .fail)
    | none => .fail)
def famCtr (k : IntKind) (ms : List Md) (spec : List AV → Option (List Prop × Hdrs × Hdrs × List (List Int))) : Ctr := famCtrK (fun s => s + 500000) (fun s => s + 600000) k ms spec

def onlyRO : List Md → Bool
  | [] => true
  | .v :: r => onlyRO r
  | .d _ :: r => onlyRO r
  | _ :: _ => false

theorem onlyRO_keys : ∀ (ms : List Md) (xs : List SV), onlyRO ms = true → ownKeys ms xs = []
  | [], xs, _ => by cases xs <;> rfl
  | .v :: r, [], _ => rfl
  | .v :: r, x :: xs, h => by
    have : ownKeys (.v :: r) (x :: xs) = ownKeys r xs := by cases x <;> rfl
    rw [this]; exact onlyRO_keys r xs h
  | .d _ :: r, [], _ => rfl
  | .d sh :: r, x :: xs, h => by
    have : ownKeys (.d sh :: r) (x :: xs) = ownKeys r xs := by cases x <;> rfl
    rw [this]; exact onlyRO_keys r xs h
  | .m :: _, _, h => by simp [onlyRO] at h
  | .o :: _, _, h => by simp [onlyRO] at h

def keyOf : Option (Nat × Nat) → Option Nat
  | none => none
  | some (k, _) => some k

theorem HdrAt.segs {H' Hn : Nat → Option SB} {ρ' ρn : Nat → Pl} {pk pn key : Nat} {hs : Hdrs} (hd : dmOf Hn pn) (hρ : ρn pn = ρ' pk) : ∀ (cs : List Value), SegsD (dmOf H') ρ' [.rowH pk hs] cs → SegsD (dmOf Hn) ρn [.rowH pn hs] cs := by
  intro cs h
  obtain ⟨c1, c2, ⟨_, h1⟩, rfl, h2⟩ := h
  refine ⟨c1, c2, ⟨hd, ?_⟩, rfl, h2⟩
  have : ∀ (hs : Hdrs) (cs : List Value), HdrsD (dmOf H') ρ' pk hs cs → HdrsD (dmOf Hn) ρn pn hs cs := by
    intro hs
    induction hs with
    | nil => intro cs h; exact h
    | cons x t ih =>
      intro cs h
      obtain ⟨v, c, a1, a2, a3⟩ := h
      refine ⟨v, c, ?_, a2, ih c a3⟩
      simp only [D] at a1 ⊢
      rw [hρ]
      exact ⟨hd, a1.2⟩
  exact this hs c1 h1

/-- What a row of headers that has been handed over stands for. -/
theorem HdrAt.D {H' Hn : Nat → Option SB} {ρ' ρn : Nat → Pl} {a : Option (Nat × Nat)} {hs : Hdrs} {v : Value} (h : HdrAt H' ρ' a hs v) {key : Nat} (hd : dmOf Hn key) (hρ : ∀ k, keyOf a = some k → ρn key = ρ' k) : D (dmOf Hn) ρn (hdrSV key hs) v := by
  cases a with
  | none =>
    obtain ⟨rfl, rfl⟩ := h
    simp only [hdrSV, Gx.D]
    exact ⟨hd, by simp, by simp, by simp [InR], none, 0, by simp, Nat.le_refl _, .inr ⟨by simp, rfl⟩⟩
  | some q =>
    obtain ⟨k, pk⟩ := q
    obtain ⟨_, _, h⟩ := h
    simp only [hdrSV, Gx.D] at h ⊢
    rw [hρ k rfl]
    exact ⟨hd, h.2⟩

end
end Go.Gx
