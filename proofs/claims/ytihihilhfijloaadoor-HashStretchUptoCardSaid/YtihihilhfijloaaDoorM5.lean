/- Part 5 of the proof: the evaluator of the code, its soundness, and what it shows of the functions. -/
import Derived.Test.YtihihilhfijloaaDoorM4

/- Write, Reset, Clone of nil. -/
namespace Go.Sp
open Go.Gx
/-- A state of the hash: the words, the block, how many bytes. -/
structure HS where
  ws : List Int
  bl : List Int
  n : Int
/-- One byte more. -/
def stp (s : HS) (c : Int) : HS := ⟨if (s.n % 128).toNat = 127 then compr s.ws (s.bl.set 127 c) else s.ws, s.bl.set (s.n % 128).toNat c, s.n + 1⟩
def feed : List Int → HS → HS
  | [], s => s
  | c :: r, s => feed r (stp s c)
/-- Write: bytes behind a state; none of them, if they are too many, or if the state was not made. -/
def wr (m : Bool) (s : HS) (b : List Int) : HS := if m = true ∧ (b.length : Int) ≤ 1152921504606846976 - s.n then feed b s else s
end Go.Sp
namespace Go.Gx
open Go.Proofs Go.Sp
set_option linter.unusedVariables false
set_option maxRecDepth 100000

theorem feed_append : ∀ (a b : List Int) (s : HS), feed (a ++ b) s = feed b (feed a s)
  | [], b, s => rfl
  | c :: r, b, s => by rw [List.cons_append, feed, feed, feed_append r b]
theorem feed_n : ∀ (b : List Int) (s : HS), (feed b s).n = s.n + (b.length : Int)
  | [], s => by simp [feed]
  | c :: r, s => by rw [feed, feed_n r]; simp [stp]; omega
theorem feed_bl : ∀ (b : List Int) (s : HS), (feed b s).bl.length = s.bl.length
  | [], s => rfl
  | c :: r, s => by rw [feed, feed_bl r]; simp [stp]
theorem splice_nil (l : List Int) (j : Nat) (h : j ≤ l.length) : splice l j [] = l := by simp [splice]
theorem splice_cons (l : List Int) (j : Nat) (c : Int) (r : List Int) (h : j < l.length) : splice (l.set j c) (j + 1) r = splice l j (c :: r) := by
  unfold splice
  have h1 : (l.set j c).take (j + 1) = l.take j ++ [c] := by
    rw [List.take_set]
    rw [List.take_add_one, List.getElem?_eq_getElem h]
    simp only [Option.toList_some]
    rw [List.set_append_right _ _ (by simp; omega)]
    simp [Nat.min_eq_left (Nat.le_of_lt h)]
  rw [h1, List.drop_set_of_lt (by omega)]
  simp [List.append_assoc, Nat.add_comm, Nat.add_left_comm]
/-- A piece that ends with the block or within it. -/
theorem feed_chunk : ∀ (t : List Int) (s : HS), 0 ≤ s.n → s.bl.length = 128 → (s.n % 128).toNat + t.length ≤ 128 → t ≠ [] →
    feed t s = ⟨if (s.n % 128).toNat + t.length = 128 then compr s.ws (splice s.bl (s.n % 128).toNat t) else s.ws, splice s.bl (s.n % 128).toNat t, s.n + (t.length : Int)⟩
  | [], s, _, _, _, h => absurd rfl h
  | [c], s, h0, hb, hl, _ => by
    have hlt : (s.n % 128).toNat < s.bl.length := by rw [hb]; omega
    have e : splice s.bl (s.n % 128).toNat [c] = s.bl.set (s.n % 128).toNat c := by
      rw [← splice_cons _ _ _ _ hlt, splice_nil _ _ (by rw [List.length_set]; omega)]
    rw [feed, feed, e]
    unfold stp
    by_cases h7 : (s.n % 128).toNat = 127
    · rw [h7]; simp
    · have : ¬ ((s.n % 128).toNat + [c].length = 128) := by simp; omega
      rw [if_neg h7, if_neg this]
      simp
  | c :: d :: r, s, h0, hb, hl, _ => by
    have hl' : (s.n % 128).toNat + (r.length + 2) ≤ 128 := by simpa using hl
    have h7 : ¬ (s.n % 128).toNat = 127 := by omega
    have hst : stp s c = ⟨s.ws, s.bl.set (s.n % 128).toNat c, s.n + 1⟩ := by unfold stp; rw [if_neg h7]
    have hm : ((s.n + 1) % 128).toNat = (s.n % 128).toNat + 1 := by omega
    rw [feed, hst, feed_chunk (d :: r) _ (by show 0 ≤ s.n + 1; omega) (by show (s.bl.set _ c).length = 128; rw [List.length_set]; exact hb) (by show ((s.n + 1) % 128).toNat + (d :: r).length ≤ 128; rw [hm]; simp; omega) (by simp)]
    show HS.mk _ _ _ = _
    dsimp only
    rw [hm, splice_cons _ _ _ _ (by rw [hb]; omega)]
    simp only [List.length_cons]
    by_cases h8 : (s.n % 128).toNat + (r.length + 1 + 1) = 128
    · rw [if_pos h8, if_pos (by omega)]
      congr 1
      push_cast; omega
    · rw [if_neg h8, if_neg (by omega)]
      congr 1
      push_cast; omega

def W23 (b : List Int) (l : List Seg) : Heap := gh ++ ([(500, .segs true [.rowI .u8 b])] ++ [(600, .segs false l)])
def L23 : Loops := [(1, ⟨[.p 600 0, .sl 500 0 1 ⟨false, 0⟩ ⟨false, 0⟩] ++ reps .any 48, W23 [] [.arr .u64 8 false [], .arr .u8 128 false [], .one (.i .i64 ⟨false, 0⟩), .one (.b false false)], 2000⟩)]
def vc23 (ws bl : List Int) (n : Int) (m : Bool) (b : List Int) (K : SV → List Seg → Prop) (Q : Nat → List Pv → Prop) : Prop := fnVcM Γ5 Tryd.f23 L23 [.p 600 0, .sl 500 0 1 ⟨true, 0⟩ ⟨false, ((b.length : Nat) : Int)⟩] (W23 b [.arr .u64 8 false ws, .arr .u8 128 false bl, .one (.i .i64 ⟨false, n⟩), .one (.b false m)]) K Q
def lc23 (off len : Int) (k b ws bl : List Int) (n : Int) (m : Bool) (K : SV → List Seg → Prop) (Q : Nat → List Pv → Prop) : Prop := loopVcM Γ5 Tryd.f23 L23 1 [.z off, .z len, .l k, .l b, .l ws, .l bl, .z n, .b m] K Q
def vc23z (ws bl : List Int) (n : Int) (m : Bool) (K : SV → List Seg → Prop) (Q : Nat → List Pv → Prop) : Prop := fnVcM Γ5 Tryd.f23 [] [.p 600 0, .nsl] (rec8 ws bl n m) K Q
def vc23b (b : List Int) (K : SV → Prop) (Q : Nat → List Pv → Prop) : Prop := fnVc Γ5 Tryd.f23 [] [.np, .sl 500 0 1 ⟨true, 0⟩ ⟨false, ((b.length : Nat) : Int)⟩] (gh ++ [(500, .segs true [.rowI .u8 b])]) K Q
def vc23c (K : SV → Prop) (Q : Nat → List Pv → Prop) : Prop := fnVc Γ5 Tryd.f23 [] [.np, .nsl] gh K Q
def vc28 (ws bl : List Int) (n : Int) (m : Bool) (K : SV → List Seg → Prop) (Q : Nat → List Pv → Prop) : Prop := fnVcM Γ5 Tryd.f28 [] [.p 600 0] (rec8 ws bl n m) K Q
def vc28n (K : SV → Prop) (Q : Nat → List Pv → Prop) : Prop := fnVc Γ5 Tryd.f28 [] [.np] gh K Q
def vc26n (K : SV → Prop) (Q : Nat → List Pv → Prop) : Prop := fnVc Γ5 Tryd.f26 [] [.np] gh K Q
def vc26 (ws bl : List Int) (n : Int) (m : Bool) (K : SV → List Seg → Prop) (Q : Nat → List Pv → Prop) : Prop := fnVcM Γ5 Tryd.f26 [] [.p 600 0] (rec8 ws bl n m) K Q
theorem vc23_eq : ∀ (ws bl : List Int) (n : Int) (m : Bool) (b : List Int) (K : SV → List Seg → Prop) (Q : Nat → List Pv → Prop), vc23 ws bl n m b K Q = ∀ (x1 : List Int), x1 = ws → x1.length = (8 : Nat) → AllR IntKind.u64 x1 → ∀ (x2 : List Int), x2 = bl → x2.length = (128 : Nat) → AllR IntKind.u8 x2 → ∀ (x3 : Int), x3 = n → InR IntKind.i64 x3 → ∀ (x4 : Bool), x4 = !m → (x4 = true → K (SV.tup []) [Seg.arr IntKind.u64 (8 : Nat) false x1, Seg.arr IntKind.u8 (128 : Nat) false x2, Seg.one (SV.i IntKind.i64 { st := false, z := x3 }), Seg.one (SV.b false m)]) ∧ (x4 = false → ∀ (x5 : Int), x5 = IntKind.i64.wrap ((1152921504606846976 : Int) - x3) → InR IntKind.i64 x5 → (decide (↑b.length > x5) = true → K (SV.tup []) [Seg.arr IntKind.u64 (8 : Nat) false x1, Seg.arr IntKind.u8 (128 : Nat) false x2, Seg.one (SV.i IntKind.i64 { st := false, z := x3 }), Seg.one (SV.b false m)]) ∧ (decide (↑b.length > x5) = false → Same Tryd.f23 (1 : Nat) (itemsOf Tryd.f23 (1 : Nat)) ∧ Q (1 : Nat) [Pv.z (0 : Int), Pv.z ↑b.length, Pv.l K80, Pv.l b, Pv.l x1, Pv.l x2, Pv.z x3, Pv.b m])) := by
  intros
  kernel_rfl
theorem lc23_eq : ∀ (off len : Int) (k b ws bl : List Int) (n : Int) (m : Bool) (K : SV → List Seg → Prop) (Q : Nat → List Pv → Prop), lc23 off len k b ws bl n m K Q = ((decide (len > (0 : Int)) = true → ∀ (x1 : Int), x1 = n.tmod (128 : Int) → InR IntKind.i64 x1 → Need ((0 : Int) ≤ x1 ∧ x1 ≤ (128 : Int) ∧ (128 : Int) ≤ (128 : Int)) ∧ Need (x1 + ((128 : Int) - x1) ≤ (128 : Int)) ∧ Need (off + len ≤ ↑b.length) ∧ ∀ (x2 : List Int), x2 = ws → x2.length = (8 : Nat) → AllR IntKind.u64 x2 → ∀ (x3 : List Int), x3 = splice bl x1.toNat (List.take ((128 : Int) - x1).toNat (List.take len.toNat (List.drop off.toNat b))) → x3.length = (128 : Nat) → AllR IntKind.u8 x3 → ∀ (x4 : Int), x4 = n → InR IntKind.i64 x4 → ∀ (x5 : Int), x5 = min (↑(List.take len.toNat (List.drop off.toNat b)).length) ((128 : Int) - x1) → InR IntKind.i64 x5 → Need ((0 : Int) ≤ x5 ∧ x5 ≤ len ∧ len ≤ len) ∧ ∀ (x6 : Int), x6 = IntKind.i64.wrap (x4 + x5) → InR IntKind.i64 x6 → ∀ (x7 : Int), x7 = IntKind.i64.wrap (x1 + x5) → InR IntKind.i64 x7 → ((x7 == (128 : Int)) = true → ∀ (x8 : List Int), x8 = compr x2 x3 → x8.length = (8 : Nat) → AllR IntKind.u64 x8 → ∀ (x9 : List Int), x9 = x3 → x9.length = (128 : Nat) → AllR IntKind.u8 x9 → ∀ (x10 : Int), x10 = x6 → InR IntKind.i64 x10 → Same Tryd.f23 (1 : Nat) (itemsOf Tryd.f23 (1 : Nat)) ∧ Q (1 : Nat) [Pv.z (off + x5), Pv.z (len - x5), Pv.l k, Pv.l b, Pv.l x8, Pv.l x9, Pv.z x10, Pv.b m]) ∧ ((x7 == (128 : Int)) = false → Same Tryd.f23 (1 : Nat) (itemsOf Tryd.f23 (1 : Nat)) ∧ Q (1 : Nat) [Pv.z (off + x5), Pv.z (len - x5), Pv.l k, Pv.l b, Pv.l x2, Pv.l x3, Pv.z x6, Pv.b m])) ∧ (decide (len > (0 : Int)) = false → K (SV.tup []) [Seg.arr IntKind.u64 (8 : Nat) false ws, Seg.arr IntKind.u8 (128 : Nat) false bl, Seg.one (SV.i IntKind.i64 { st := false, z := n }), Seg.one (SV.b false m)])) := by
  intros
  kernel_rfl
theorem vc23z_eq : ∀ (ws bl : List Int) (n : Int) (m : Bool) (K : SV → List Seg → Prop) (Q : Nat → List Pv → Prop), vc23z ws bl n m K Q = ∀ (x1 : List Int), x1 = ws → x1.length = (8 : Nat) → AllR IntKind.u64 x1 → ∀ (x2 : List Int), x2 = bl → x2.length = (128 : Nat) → AllR IntKind.u8 x2 → ∀ (x3 : Int), x3 = n → InR IntKind.i64 x3 → ∀ (x4 : Bool), x4 = !m → (x4 = true → K (SV.tup []) [Seg.arr IntKind.u64 (8 : Nat) false x1, Seg.arr IntKind.u8 (128 : Nat) false x2, Seg.one (SV.i IntKind.i64 { st := false, z := x3 }), Seg.one (SV.b false m)]) ∧ (x4 = false → ∀ (x5 : Int), x5 = IntKind.i64.wrap ((1152921504606846976 : Int) - x3) → InR IntKind.i64 x5 → (decide ((0 : Int) > x5) = true → K (SV.tup []) [Seg.arr IntKind.u64 (8 : Nat) false x1, Seg.arr IntKind.u8 (128 : Nat) false x2, Seg.one (SV.i IntKind.i64 { st := false, z := x3 }), Seg.one (SV.b false m)]) ∧ (decide ((0 : Int) > x5) = false → K (SV.tup []) [Seg.arr IntKind.u64 (8 : Nat) false x1, Seg.arr IntKind.u8 (128 : Nat) false x2, Seg.one (SV.i IntKind.i64 { st := false, z := x3 }), Seg.one (SV.b false m)])) := by
  intros
  kernel_rfl
theorem vc23b_eq : ∀ (b : List Int) (K : SV → Prop) (Q : Nat → List Pv → Prop), vc23b b K Q = K (SV.tup []) := by
  intros
  kernel_rfl
theorem vc23c_eq : ∀ (K : SV → Prop) (Q : Nat → List Pv → Prop), vc23c K Q = K (SV.tup []) := by
  intros
  kernel_rfl
theorem vc28_eq : ∀ (ws bl : List Int) (n : Int) (m : Bool) (K : SV → List Seg → Prop) (Q : Nat → List Pv → Prop), vc28 ws bl n m K Q = ∀ (x1 : List Int), x1 = ws → x1.length = (8 : Nat) → AllR IntKind.u64 x1 → ∀ (x2 : List Int), x2 = bl → x2.length = (128 : Nat) → AllR IntKind.u8 x2 → ∀ (x3 : Int), x3 = n → InR IntKind.i64 x3 → ∀ (x4 : Bool), x4 = !m → ((!x4) = true → ∀ (x5 : Int), x5 = (7640891576956012808 : Int) → InR IntKind.u64 x5 → ∀ (x6 : Int), x6 = (13503953896175478587 : Int) → InR IntKind.u64 x6 → ∀ (x7 : Int), x7 = (4354685564936845355 : Int) → InR IntKind.u64 x7 → ∀ (x8 : Int), x8 = (11912009170470909681 : Int) → InR IntKind.u64 x8 → ∀ (x9 : Int), x9 = (5840696475078001361 : Int) → InR IntKind.u64 x9 → ∀ (x10 : Int), x10 = (11170449401992604703 : Int) → InR IntKind.u64 x10 → ∀ (x11 : Int), x11 = (2270897969802886507 : Int) → InR IntKind.u64 x11 → ∀ (x12 : Int), x12 = (6620516959819538809 : Int) → InR IntKind.u64 x12 → ∀ (x13 : List Int), x13 = List.replicate (128 : Nat) (0 : Int) → x13.length = (128 : Nat) → AllR IntKind.u8 x13 → K (SV.tup []) [Seg.arr IntKind.u64 (8 : Nat) true [x5, x6, x7, x8, x9, x10, x11, x12], Seg.arr IntKind.u8 (128 : Nat) false x13, Seg.one (SV.i IntKind.i64 { st := true, z := (0 : Int) }), Seg.one (SV.b true true)]) ∧ ((!x4) = false → K (SV.tup []) [Seg.arr IntKind.u64 (8 : Nat) false x1, Seg.arr IntKind.u8 (128 : Nat) false x2, Seg.one (SV.i IntKind.i64 { st := false, z := x3 }), Seg.one (SV.b false m)]) := by
  intros
  kernel_rfl
theorem vc28n_eq : ∀ (K : SV → Prop) (Q : Nat → List Pv → Prop), vc28n K Q = K (SV.tup []) := by
  intros
  kernel_rfl
theorem vc26n_eq : ∀ (K : SV → Prop) (Q : Nat → List Pv → Prop), vc26n K Q = K SV.np := by
  intros
  kernel_rfl
theorem vc26_eq : ∀ (ws bl : List Int) (n : Int) (m : Bool) (K : SV → List Seg → Prop) (Q : Nat → List Pv → Prop), vc26 ws bl n m K Q = ∀ (x1 : List Int), x1 = ws → x1.length = (8 : Nat) → AllR IntKind.u64 x1 → ∀ (x2 : List Int), x2 = bl → x2.length = (128 : Nat) → AllR IntKind.u8 x2 → ∀ (x3 : Int), x3 = n → InR IntKind.i64 x3 → ∀ (x4 : Bool), x4 = !m → (x4 = true → K SV.np [Seg.arr IntKind.u64 (8 : Nat) false x1, Seg.arr IntKind.u8 (128 : Nat) false x2, Seg.one (SV.i IntKind.i64 { st := false, z := x3 }), Seg.one (SV.b false m)]) ∧ (x4 = false → K (SV.p ((1003 : Nat) + (1 : Nat) + (1 : Nat) + (1 : Nat)) (0 : Nat)) [Seg.arr IntKind.u64 (8 : Nat) false x1, Seg.arr IntKind.u8 (128 : Nat) false x2, Seg.one (SV.i IntKind.i64 { st := false, z := x3 }), Seg.one (SV.b false m)]) := by
  intros
  kernel_rfl

def inv23 (b : List Int) (s : HS) (m : Bool) (key : Nat) (ps : List Pv) (mm : Nat) : Prop :=
  key = 1 ∧ ∃ j : Nat, j ≤ b.length ∧ ps = [.z (j : Int), .z ((b.length - j : Nat) : Int), .l K80, .l b, .l (feed (b.take j) s).ws, .l (feed (b.take j) s).bl, .z (feed (b.take j) s).n, .b m] ∧ mm = b.length - j

def writeS : List Seg → Con → Option (List Prop × SV × List Seg)
  | [.arr .u64 8 _ ws, .arr .u8 128 _ bl, .one (.i .i64 n), .one (.b _ m)], .ints .u8 b => some ([m = true → 0 ≤ n.z ∧ n.z ≤ 1152921504606846976], .tup [], [.arr .u64 8 false (wr m ⟨ws, bl, n.z⟩ b).ws, .arr .u8 128 false (wr m ⟨ws, bl, n.z⟩ b).bl, .one (.i .i64 ⟨false, (wr m ⟨ws, bl, n.z⟩ b).n⟩), .one (.b false m)])
  | _, _ => none

set_option maxHeartbeats 2000000 in
theorem writeV_ok : CallOk Tryd.prog gh 23 (methvCtr writeS) := by
  refine call_methv (fn := Tryd.f23) Γ5_ok rfl (fun g hg => by have hg : g ∈ [0, 2] := hg; simp at hg; omega) (by kernel_rfl) (by kernel_rfl) (by kernel_rfl) writeS (Nat.le_of_ble_eq_true (by kernel_rfl)) fun l q p v l' hs hp hf hq hlq => ?_
  unfold writeS at hs
  split at hs
  · rename_i e1 ws e2 bl n e3 m b
    simp only [Option.some.injEq, Prod.mk.injEq] at hs
    obtain ⟨rfl, rfl, rfl⟩ := hs
    obtain ⟨⟨hws, _⟩, ⟨hbl, hblr⟩, hn, _, _⟩ := hf
    obtain ⟨nT, n⟩ := n
    dsimp only at *
    have hp : m = true → 0 ≤ n ∧ n ≤ 1152921504606846976 := hp.1
    have hlb : ((b.length : Nat) : Int) < 9223372036854775808 := hlq
    refine ⟨fun dm ρ cs hcs => rec_pos (k' := .u64) (e' := true) (bl := []) dm ρ cs hcs, [.arr .u64 8 false ws, .arr .u8 128 false bl, .one (.i .i64 ⟨false, n⟩), .one (.b false m)], L23, fun key ps mm => m = true ∧ n + (b.length : Int) ≤ 1152921504606846976 ∧ inv23 b ⟨ws, bl, n⟩ m key ps mm, ⟨⟨rfl, rfl, rfl⟩, ⟨rfl, rfl, rfl⟩, ⟨rfl, rfl⟩, ⟨rfl, rfl⟩, trivial⟩, ?_, ?_, ?_⟩
    · intro k t ht g hg
      have hg : g ∈ [0, 2, 500, 600] := hg
      simp only [List.mem_cons, List.not_mem_nil, or_false] at hg
      simp only [L23, List.mem_cons, List.not_mem_nil, or_false, Prod.mk.injEq] at ht
      obtain ⟨rfl, rfl⟩ := ht
      rcases hg with rfl | rfl | rfl | rfl <;> exact ⟨by omega, rfl⟩
    · rintro vk t ps mm ht ⟨rfl, hle, rfl, j, hj, rfl, rfl⟩
      simp only [L23, List.mem_cons, List.not_mem_nil, or_false, Prod.mk.injEq] at ht
      obtain ⟨_, rfl⟩ := ht
      show lc23 (j : Int) ((b.length - j : Nat) : Int) K80 b (feed (b.take j) ⟨ws, bl, n⟩).ws (feed (b.take j) ⟨ws, bl, n⟩).bl (feed (b.take j) ⟨ws, bl, n⟩).n true _ _
      rw [lc23_eq]
      obtain ⟨hn0, hn1⟩ := hp rfl
      have hfn := feed_n (b.take j) ⟨ws, bl, n⟩
      rw [List.length_take, Nat.min_eq_left hj] at hfn
      have hfb := feed_bl (b.take j) ⟨ws, bl, n⟩
      dsimp only at hfn hfb
      generalize hS : feed (b.take j) ⟨ws, bl, n⟩ = S at hfn hfb ⊢
      refine ⟨fun hlt => ?_, fun hge => ?_⟩
      · have hlt := of_decide_eq_true hlt
        intro x1 e1 _
        have hx1 : x1 = S.n % 128 := by rw [e1, Int.tmod_eq_emod_of_nonneg (by omega)]
        refine ⟨need_of (by omega), need_of (by omega), need_of (by omega), fun x2 e2 l2 r2 x3 e3 l3 r3 x4 e4 r4 x5 e5 r5 => ?_⟩
        have hlen : ((List.take ((b.length - j : Nat) : Int).toNat (List.drop (j : Int).toNat b)).length : Int) = (b.length - j : Nat) := by
          rw [List.length_take, List.length_drop]; omega
        rw [hlen] at e5
        rw [Int.toNat_natCast, Int.toNat_natCast, List.take_of_length_le (i := b.length - j) (by rw [List.length_drop]; omega)] at e3
        refine ⟨need_of (by omega), fun x6 e6 r6 x7 e7 r7 => ?_⟩
        rw [wrap_i64 (by omega)] at e6 e7
        obtain ⟨c, rfl⟩ : ∃ c : Nat, x5 = (c : Int) := ⟨x5.toNat, by omega⟩
        have htk : List.take ((128 : Int) - x1).toNat (List.drop j b) = (b.drop j).take c := by
          rcases Nat.lt_or_ge ((128 : Int) - x1).toNat (b.length - j) with h | h
          · rw [show ((128 : Int) - x1).toNat = c by omega]
          · rw [List.take_of_length_le (by rw [List.length_drop]; omega), List.take_of_length_le (by rw [List.length_drop]; omega)]
        rw [htk] at e3
        have hcl : ((b.drop j).take c).length = c := by rw [List.length_take, List.length_drop]; omega
        have hnext : feed (b.take (j + c)) ⟨ws, bl, n⟩ = feed ((b.drop j).take c) S := by
          rw [List.take_add, feed_append, hS]
        have hch := feed_chunk ((b.drop j).take c) S (by omega) (by rw [hfb]; exact hbl) (by rw [hcl]; omega) (fun h => by rw [h] at hcl; simp at hcl; omega)
        rw [hcl] at hch
        have hx1n : x1.toNat = (S.n % 128).toNat := by rw [hx1]
        refine ⟨fun h7 => ?_, fun h7 => ?_⟩
        · have h7 := of_decide_eq_true h7
          intro x8 e8 _ _ x9 e9 _ _ x10 e10 _
          refine ⟨rfl, b.length - (j + c), by omega, rfl, hle, rfl, j + c, by omega, ?_, rfl⟩
          rw [hnext, hch, if_pos (by omega)]
          dsimp only
          rw [e10, e6, e9, e8, e2, e3, e4, hx1n]
          rw [show (j : Int) + (c : Int) = ((j + c : Nat) : Int) by omega, show ((b.length - j : Nat) : Int) - (c : Int) = ((b.length - (j + c) : Nat) : Int) by omega]
        · have h7 := of_decide_eq_false h7
          refine ⟨rfl, b.length - (j + c), by omega, rfl, hle, rfl, j + c, by omega, ?_, rfl⟩
          rw [hnext, hch, if_neg (by omega)]
          dsimp only
          rw [e6, e2, e3, e4, hx1n]
          rw [show (j : Int) + (c : Int) = ((j + c : Nat) : Int) by omega, show ((b.length - j : Nat) : Int) - (c : Int) = ((b.length - (j + c) : Nat) : Int) by omega]
      · have hge := of_decide_eq_false hge
        obtain rfl : j = b.length := by omega
        rw [List.take_of_length_le (Nat.le_refl _)] at hS
        have hw : wr true ⟨ws, bl, n⟩ b = S := by unfold wr; rw [if_pos ⟨rfl, by dsimp only; omega⟩, hS]
        rw [hw]
        exact ⟨trivial, ⟨rfl, rfl, rfl⟩, ⟨rfl, rfl, rfl⟩, ⟨rfl, rfl⟩, ⟨rfl, rfl⟩, trivial⟩
    · show vc23 ws bl n m b _ _
      rw [vc23_eq]
      intro x1 e1 _ _ x2 e2 _ _ x3 e3 _ x4 e4
      subst e1 e2 e3
      refine ⟨fun h4 => ?_, fun h4 => ?_⟩
      · obtain rfl : m = false := by rw [e4] at h4; simpa using h4
        have hw : wr false ⟨x1, x2, x3⟩ b = ⟨x1, x2, x3⟩ := by unfold wr; rw [if_neg (fun h => by cases h.1)]
        rw [hw]
        exact ⟨trivial, ⟨rfl, rfl, rfl⟩, ⟨rfl, rfl, rfl⟩, ⟨rfl, rfl⟩, ⟨rfl, rfl⟩, trivial⟩
      · obtain rfl : m = true := by rw [e4] at h4; simpa using h4
        obtain ⟨hn0, hn1⟩ := hp rfl
        intro x5 e5 _
        rw [wrap_i64 (by omega)] at e5
        refine ⟨fun hgt => ?_, fun hng => ?_⟩
        · have hgt := of_decide_eq_true hgt
          have hw : wr true ⟨x1, x2, x3⟩ b = ⟨x1, x2, x3⟩ := by unfold wr; rw [if_neg (fun h => by have := h.2; dsimp only at this; omega)]
          rw [hw]
          exact ⟨trivial, ⟨rfl, rfl, rfl⟩, ⟨rfl, rfl, rfl⟩, ⟨rfl, rfl⟩, ⟨rfl, rfl⟩, trivial⟩
        · have hng := of_decide_eq_false hng
          refine ⟨rfl, b.length - 0, rfl, by omega, rfl, 0, by omega, ?_, rfl⟩
          rfl
  · cases hs

def writeZ : List Seg → List SV → Option (List Prop × SV × List Seg)
  | [.arr .u64 8 _ ws, .arr .u8 128 _ bl, .one (.i .i64 n), .one (.b _ m)], [.nsl] => some ([], .tup [], [.arr .u64 8 false ws, .arr .u8 128 false bl, .one (.i .i64 ⟨false, n.z⟩), .one (.b false m)])
  | _, _ => none
theorem writeZ_ok : CallOk Tryd.prog gh 23 (methCtr writeZ) := by
  refine call_meth (fn := Tryd.f23) Γ5_ok rfl (fun g hg => by have hg : g ∈ [0, 2] := hg; simp at hg; omega) (by kernel_rfl) (by kernel_rfl) (by kernel_rfl) writeZ fun l rest p v l' hs hp hf hr => ?_
  unfold writeZ at hs
  split at hs
  · rename_i e1 ws e2 bl n e3 m
    simp only [Option.some.injEq, Prod.mk.injEq] at hs
    obtain ⟨rfl, rfl, rfl⟩ := hs
    obtain ⟨nT, n⟩ := n
    dsimp only at *
    refine ⟨fun dm ρ cs hcs => rec_pos (k' := .u64) (e' := true) (bl := []) dm ρ cs hcs, [.arr .u64 8 false ws, .arr .u8 128 false bl, .one (.i .i64 ⟨false, n⟩), .one (.b false m)], [.nsl], [], _, ⟨⟨rfl, rfl, rfl⟩, ⟨rfl, rfl, rfl⟩, ⟨rfl, rfl⟩, ⟨rfl, rfl⟩, trivial⟩, ⟨trivial, trivial⟩, Nat.le_of_ble_eq_true (by kernel_rfl), vcM_noloops ?_⟩
    show vc23z ws bl n m _ _
    rw [vc23z_eq]
    intro x1 e1 _ _ x2 e2 _ _ x3 e3 _ x4 e4
    subst e1 e2 e3
    have hk : ∀ x y z m, eqV (SV.tup []) (SV.tup []) ∧ eqSegs [Seg.arr IntKind.u64 8 false x, Seg.arr IntKind.u8 128 false y, Seg.one (SV.i IntKind.i64 ⟨false, z⟩), Seg.one (SV.b false m)] [Seg.arr IntKind.u64 8 false x, Seg.arr IntKind.u8 128 false y, Seg.one (SV.i IntKind.i64 ⟨false, z⟩), Seg.one (SV.b false m)] :=
      fun x y z m => ⟨trivial, ⟨rfl, rfl, rfl⟩, ⟨rfl, rfl, rfl⟩, ⟨rfl, rfl⟩, ⟨rfl, rfl⟩, trivial⟩
    exact ⟨fun _ => hk _ _ _ _, fun _ x5 _ _ => ⟨fun _ => hk _ _ _ _, fun _ => hk _ _ _ _⟩⟩
  · cases hs
def writeN : List RA → Option (List Prop × SV)
  | [.v .np, .c (.ints .u8 b)] => some ([], .tup [])
  | [.v .np, .n] => some ([], .tup [])
  | _ => none
theorem writeN_ok : CallOk Tryd.prog gh 23 (readCtr [false, true] writeN) := by
  refine call_read (fn := Tryd.f23) Γ5_ok rfl (fun g hg => by have hg : g ∈ [0, 2] := hg; simp at hg; omega) rfl (by kernel_rfl) (by kernel_rfl) [false, true] writeN fun ras P0 Y0 hs hp hv hc => ?_
  unfold writeN at hs
  split at hs
  · rename_i b
    simp only [Option.some.injEq, Prod.mk.injEq] at hs
    obtain ⟨rfl, rfl⟩ := hs
    refine ⟨[.np, .sl 500 0 1 ⟨true, 0⟩ ⟨false, ((b.length : Nat) : Int)⟩], [], _, ⟨trivial, rfl, trivial⟩, Nat.le_of_ble_eq_true (by kernel_rfl), vc_noloops ?_⟩
    show vc23b b _ _
    rw [vc23b_eq]
    exact trivial
  · simp only [Option.some.injEq, Prod.mk.injEq] at hs
    obtain ⟨rfl, rfl⟩ := hs
    refine ⟨[.np, .nsl], [], _, ⟨trivial, rfl, trivial⟩, Nat.le_of_ble_eq_true (by kernel_rfl), vc_noloops ?_⟩
    show vc23c _ _
    rw [vc23c_eq]
    exact trivial
  · cases hs

/-- A method of a pointer that may be nil, and of a slice that may be. -/
def wrCtr (cN cZ cV : Ctr) : Ctr := fun stamp args =>
  match args with
  | .np :: _ => cN stamp args
  | [_, .nsl] => cZ stamp args
  | _ => cV stamp args
theorem wr_ok {P : Program} {gh : Heap} {f : FuncId} {cN cZ cV : Ctr} (h1 : CallOk P gh f cN) (h2 : CallOk P gh f cZ) (h3 : CallOk P gh f cV) : CallOk P gh f (wrCtr cN cZ cV) := by
  intro stamp args H rs rs' d vs w0 M ρ w hG hc hp hD hm
  unfold wrCtr at hc
  split at hc
  · exact h1 stamp _ H rs rs' d vs w0 M ρ w hG hc hp hD hm
  · exact h2 stamp _ H rs rs' d vs w0 M ρ w hG hc hp hD hm
  · exact h3 stamp _ H rs rs' d vs w0 M ρ w hG hc hp hD hm

def resetS : List Seg → List SV → Option (List Prop × SV × List Seg)
  | [.arr .u64 8 _ ws, .arr .u8 128 _ bl, .one (.i .i64 n), .one (.b _ m)], [] => some ([], .tup [], [.arr .u64 8 false (if m = true then start8 else ws), .arr .u8 128 false (if m = true then List.replicate 128 0 else bl), .one (.i .i64 ⟨false, if m = true then 0 else n.z⟩), .one (.b false m)])
  | _, _ => none
theorem resetP_ok : CallOk Tryd.prog gh 28 (methCtr resetS) := by
  refine call_meth (fn := Tryd.f28) Γ5_ok rfl (fun g hg => by have hg : g ∈ [0, 2] := hg; simp at hg; omega) (by kernel_rfl) (by kernel_rfl) (by kernel_rfl) resetS fun l rest p v l' hs hp hf hr => ?_
  unfold resetS at hs
  split at hs
  · rename_i e1 ws e2 bl n e3 m
    simp only [Option.some.injEq, Prod.mk.injEq] at hs
    obtain ⟨rfl, rfl, rfl⟩ := hs
    obtain ⟨nT, n⟩ := n
    dsimp only at *
    refine ⟨fun dm ρ cs hcs => rec_pos (k' := .u64) (e' := true) (bl := []) dm ρ cs hcs, [.arr .u64 8 false ws, .arr .u8 128 false bl, .one (.i .i64 ⟨false, n⟩), .one (.b false m)], [], [], _, ⟨⟨rfl, rfl, rfl⟩, ⟨rfl, rfl, rfl⟩, ⟨rfl, rfl⟩, ⟨rfl, rfl⟩, trivial⟩, trivial, Nat.le_of_ble_eq_true (by kernel_rfl), vcM_noloops ?_⟩
    show vc28 ws bl n m _ _
    rw [vc28_eq]
    intro x1 e1 _ _ x2 e2 _ _ x3 e3 _ x4 e4
    subst e1 e2 e3
    refine ⟨fun h => ?_, fun h => ?_⟩
    · obtain rfl : m = true := by rw [e4] at h; simpa using h
      rintro x5 rfl _ x6 rfl _ x7 rfl _ x8 rfl _ x9 rfl _ x10 rfl _ x11 rfl _ x12 rfl _ x13 rfl _ _
      exact ⟨trivial, ⟨rfl, rfl, rfl⟩, ⟨rfl, rfl, rfl⟩, ⟨rfl, rfl⟩, ⟨rfl, rfl⟩, trivial⟩
    · obtain rfl : m = false := by rw [e4] at h; simpa using h
      exact ⟨trivial, ⟨rfl, rfl, rfl⟩, ⟨rfl, rfl, rfl⟩, ⟨rfl, rfl⟩, ⟨rfl, rfl⟩, trivial⟩
  · cases hs
def resetN : List SV → Option (List Prop × SV)
  | [.np] => some ([], .tup [])
  | _ => none
theorem resetN_ok : CallOk Tryd.prog gh 28 (pureCtr resetN) := by
  refine call_pure (fn := Tryd.f28) Γ5_ok rfl (by kernel_rfl) (by kernel_rfl) (by kernel_rfl) resetN fun args P0 Y0 hs hp hf => ?_
  unfold resetN at hs
  split at hs
  · simp only [Option.some.injEq, Prod.mk.injEq] at hs
    obtain ⟨rfl, rfl⟩ := hs
    refine ⟨[.np], [], _, ⟨trivial, trivial⟩, Nat.le_of_ble_eq_true (by kernel_rfl), vc_noloops ?_⟩
    show vc28n _ _
    rw [vc28n_eq]
    exact trivial
  · cases hs
def cloneN : List SV → Option (List Prop × SV)
  | [.np] => some ([], .np)
  | _ => none
theorem cloneN_ok : CallOk Tryd.prog gh 26 (pureCtr cloneN) := by
  refine call_pure (fn := Tryd.f26) Γ5_ok rfl (by kernel_rfl) (by kernel_rfl) (by kernel_rfl) cloneN fun args P0 Y0 hs hp hf => ?_
  unfold cloneN at hs
  split at hs
  · simp only [Option.some.injEq, Prod.mk.injEq] at hs
    obtain ⟨rfl, rfl⟩ := hs
    refine ⟨[.np], [], _, ⟨trivial, trivial⟩, Nat.le_of_ble_eq_true (by kernel_rfl), vc_noloops ?_⟩
    show vc26n _ _
    rw [vc26n_eq]
    exact trivial
  · cases hs
def cloneF : List Seg → List SV → Option (List Prop × SV × List Seg)
  | [.arr .u64 8 _ ws, .arr .u8 128 _ bl, .one (.i .i64 n), .one (.b _ m)], [] => some ([m = false], .np, [.arr .u64 8 false ws, .arr .u8 128 false bl, .one (.i .i64 ⟨false, n.z⟩), .one (.b false m)])
  | _, _ => none
theorem cloneF_ok : CallOk Tryd.prog gh 26 (methCtr cloneF) := by
  refine call_meth (fn := Tryd.f26) Γ5_ok rfl (fun g hg => by have hg : g ∈ [0, 2] := hg; simp at hg; omega) (by kernel_rfl) (by kernel_rfl) (by kernel_rfl) cloneF fun l rest p v l' hs hp hf hr => ?_
  unfold cloneF at hs
  split at hs
  · rename_i e1 ws e2 bl n e3 m
    simp only [Option.some.injEq, Prod.mk.injEq] at hs
    obtain ⟨rfl, rfl, rfl⟩ := hs
    obtain ⟨nT, n⟩ := n
    dsimp only at *
    have hmf : m = false := hp.1
    refine ⟨fun dm ρ cs hcs => rec_pos (k' := .u64) (e' := true) (bl := []) dm ρ cs hcs, [.arr .u64 8 false ws, .arr .u8 128 false bl, .one (.i .i64 ⟨false, n⟩), .one (.b false m)], [], [], _, ⟨⟨rfl, rfl, rfl⟩, ⟨rfl, rfl, rfl⟩, ⟨rfl, rfl⟩, ⟨rfl, rfl⟩, trivial⟩, trivial, Nat.le_of_ble_eq_true (by kernel_rfl), vcM_noloops ?_⟩
    show vc26 ws bl n m _ _
    rw [vc26_eq]
    intro x1 e1 _ _ x2 e2 _ _ x3 e3 _ x4 e4
    subst e1 e2 e3
    refine ⟨fun h => ?_, fun h => ?_⟩
    · exact ⟨trivial, ⟨rfl, rfl, rfl⟩, ⟨rfl, rfl, rfl⟩, ⟨rfl, rfl⟩, ⟨rfl, rfl⟩, trivial⟩
    · rw [e4, hmf] at h; cases h
  · cases hs
theorem write_ok : CallOk Tryd.prog gh 23 (wrCtr (readCtr [false, true] writeN) (methCtr writeZ) (methvCtr writeS)) := wr_ok writeN_ok writeZ_ok writeV_ok
theorem reset_ok : CallOk Tryd.prog gh 28 (nilCtr (pureCtr resetN) (methCtr resetS)) := nil_ok resetN_ok resetP_ok
theorem clone_ok : CallOk Tryd.prog gh 26 (nilCtr (pureCtr cloneN) (methCtr cloneF)) := nil_ok cloneN_ok cloneF_ok
def Γ6 : Tab := ⟨tys, [(23, wrCtr (readCtr [false, true] writeN) (methCtr writeZ) (methvCtr writeS)), (28, nilCtr (pureCtr resetN) (methCtr resetS)), (26, nilCtr (pureCtr cloneN) (methCtr cloneF))] ++ Γ5.ctr, [0, 2], gh⟩
theorem Γ6_ok : TabOk Tryd.prog Γ6 := ((Γ5_ok.cons clone_ok).cons reset_ok).cons write_ok
end Go.Gx

/- Contracts in general: arguments that are values, data that is only read, records and rows of the caller's; answers that are values, fresh rows, fresh records. -/
namespace Go.Gx
open Go.RowKit
set_option linter.unusedVariables false

/-- How an argument is handed on. -/
inductive Md where
  | v
  | d (sh : Sh)
  | m
  | o

/-- An argument, as a contract sees it. -/
inductive AV where
  | v (x : SV)
  | d (sh : Sh) (d : RO)
  | m (l : List Seg)
  | o (q : Con)

/-- An answer, as a contract tells it. -/
inductive RV where
  | v (x : SV)
  | row (q : Con)
  | ptr (l : List Seg)

def onesOf : List Seg → Option (List SV)
  | [] => some []
  | .one x :: r => (match onesOf r with | some xs => some (x :: xs) | none => none)
  | _ => none

/-- Each of a list, handed on together. -/
def eachRO (g : SV → (List Prop → RO → RP Delta) → RP Delta) : List SV → (List Prop → List RO → RP Delta) → RP Delta
  | [], f => f [] []
  | x :: r, f => g x fun p d => eachRO g r fun p' ds => f (p ++ p') (d :: ds)

/-- Headers of a pool's rows, as data. -/
def hdrRO (k : IntKind) (off len : SI) (pk : Nat) (hs : List (Nat × Nat)) (f : List Prop → RO → RP Delta) : RP Delta :=
  .get pk fun b => (match b with
    | some (.pool k' ms) => (match keq k' k with
      | true => f [off.z + len.z ≤ (hs.length : Int), ∀ h ∈ (hs.drop off.z.toNat).take len.z.toNat, h.2 ≤ (ms.getD h.1 []).length] (.r (((hs.drop off.z.toNat).take len.z.toNat).map fun h => .l ((ms.getD h.1 []).take h.2)))
      | false => .fail)
    | _ => .fail)

mutual
/-- What a value holds, as data of a shape. -/
def viewRO (ban : List Nat) : Sh → SV → (List Prop → RO → RP Delta) → RP Delta
  | .ints k, x, f => (match x with
    | .ro key sh d => .get key fun b => (match b with
      | some .world => (match shEq sh (.ints k) with | true => f [] d | false => .fail)
      | _ => .fail)
    | .nsl => f [] (.l [])
    | .sl key c est off len => (match memN key ban with
      | true => .fail
      | false => withCon (.sl key c est off len) fun p q => (match q with
        | .ints k' l => (match keq k' k with | true => f p (.l l) | false => .fail)
        | _ => .fail))
    | .ps key r len => withCon (.ps key r len) fun p q => (match q with
        | .ints k' l => (match keq k' k with | true => f p (.l l) | false => .fail)
        | _ => .fail)
    | _ => .fail)
  | .l e, x, f => (match x with
    | .ro key sh d => .get key fun b => (match b with
      | some .world => (match shEq sh (.l e) with | true => f [] d | false => .fail)
      | _ => .fail)
    | .nsl => f [] (.r [])
    | .sl key 0 1 ⟨true, .ofNat 0⟩ ⟨true, .ofNat n⟩ => (match memN key ban with
      | true => .fail
      | false => .get key fun b => (match b with
        | some (.segs _ l) => (match onesOf l with
          | some xs => (match Nat.beq xs.length n && Nat.blt 0 n with
            | true => eachRO (viewRO ban e) xs fun p ds => f p (.r ds)
            | false => .fail)
          | none => .fail)
        | _ => .fail))
    | .sl key 0 1 off len => (match memN key ban with
      | true => .fail
      | false => .get key fun b => (match b with
        | some (.segs _ [.rowH pk hs]) => (match e with
          | .ints k => hdrRO k off len pk hs f
          | _ => .fail)
        | _ => .fail))
    | _ => .fail)
  | .r fs, x, f => (match x with
    | .agg xs => viewROs ban fs xs fun p ds => f p (.r ds)
    | _ => .fail)
  | _, _, _ => .fail
def viewROs (ban : List Nat) : List Sh → List SV → (List Prop → List RO → RP Delta) → RP Delta
  | [], xs, f => (match xs with | [] => f [] [] | _ => .fail)
  | s :: fs, xs, f => (match xs with
    | x :: xs => viewRO ban s x fun p d => viewROs ban fs xs fun p' ds => f (p ++ p') (d :: ds)
    | [] => .fail)
end

def ownKeys : List Md → List SV → List Nat
  | .m :: ms, .p key _ :: xs => key :: ownKeys ms xs
  | .o :: ms, .sl key _ _ _ _ :: xs => key :: ownKeys ms xs
  | _ :: ms, _ :: xs => ownKeys ms xs
  | _, _ => []

def getA (ban : List Nat) : List Md → List SV → (List Prop → List AV → RP Delta) → RP Delta
  | [], [], f => f [] []
  | .v :: ms, x :: xs, f => getA ban ms xs fun p avs => f p (.v x :: avs)
  | .d sh :: ms, x :: xs, f => viewRO ban sh x fun p d => getA ban ms xs fun p' avs => f (p ++ p') (.d sh d :: avs)
  | .m :: ms, x :: xs, f => (match x with
    | .p key 0 => .get key fun b => (match b with
      | some (.segs false l) => getA ban ms xs fun p avs => f p (.m l :: avs)
      | _ => .fail)
    | .np => getA ban ms xs fun p avs => f p (.v .np :: avs)
    | _ => .fail)
  | .o :: ms, x :: xs, f => (match x with
    | .sl key 0 est ⟨true, .ofNat 0⟩ len => .get key fun b => (match b with
      | some (.segs false [g]) => (match rowCon g with
        | some q => (match Nat.beq est (conSize q) with
          | true => getA ban ms xs fun p avs => f ((len.z = ((conLen q : Nat) : Int)) :: p) (.o q :: avs)
          | false => .fail)
        | none => .fail)
      | _ => .fail)
    | .nsl => getA ban ms xs fun p avs => f p (.v .nsl :: avs)
    | _ => .fail)
  | _, _, _ => .fail

/-- The fresh block among the answers. -/
def frOf : List RV → Option (List Seg)
  | [] => none
  | .v _ :: r => frOf r
  | .row q :: _ => some [conRow q]
  | .ptr l :: _ => some l
def oneFr : List RV → Bool
  | [] => true
  | .v _ :: r => oneFr r
  | _ :: r => (match frOf r with | some _ => false | none => true)

def resG (stamp : Nat) : RV → SV
  | .v x => x
  | .row q => .sl stamp 0 (conSize q) ⟨true, 0⟩ ⟨false, ((conLen q : Nat) : Int)⟩
  | .ptr _ => .p stamp 0
def resGs (stamp : Nat) : List RV → List SV
  | [] => []
  | r :: t => resG stamp r :: resGs stamp t
def resOf (stamp : Nat) : List RV → SV
  | [r] => resG stamp r
  | rs => .tup (resGs stamp rs)

def finW : List Nat → List (Option (List Seg)) → Option (List (Nat × SB))
  | [], [] => some []
  | k :: ks, some l :: r => (match finW ks r with | some ws => some ((k, .segs false l) :: ws) | none => none)
  | k :: ks, none :: r => (match finW ks r with | some ws => some ((k, .gone) :: ws) | none => none)
  | _, _ => none

def genCtr (ms : List Md) (spec : List AV → Option (List Prop × List RV × List (Option (List Seg)))) : Ctr := fun stamp args =>
  match ownKeys ms args with
  | ks => (match nodupN ks with
    | true => getA ks ms args fun p avs => (match spec avs with
      | some (p', rvs, fin) => (match finW ks fin, oneFr rvs && Nat.ble fin.length 100 with
        | some ws, true => (match frOf rvs with
          | none => .ret ⟨p ++ p', resOf stamp rvs, ws, true⟩
          | some l => .get stamp fun b => (match b with
            | none => .ret ⟨p ++ p', resOf stamp rvs, (stamp, .segs false l) :: ws, true⟩
            | some _ => .fail))
        | _, _ => .fail)
      | none => .fail)
    | false => .fail)

/-! ### The callee's side -/

/-- An answer with what it points to. -/
def canV (h : Heap) (x : SV) (K : RV → Prop) : Prop :=
  match x with
  | .sl key c est off len => (match Nat.ble 1000 key, assoc h key with
    | true, some (.segs false l) => (match segAt l c with
      | some (g, 0) => (match conSeg g est off len with | some (p, q) => preK p (K (.row q)) | none => False)
      | _ => False)
    | _, _ => False)
  | .p key 0 => (match Nat.ble 1000 key, assoc h key with
    | true, some (.segs false l) => K (.ptr l)
    | _, _ => False)
  | x => K (.v x)
def canVs (h : Heap) : List SV → (List RV → Prop) → Prop
  | [], K => K []
  | x :: r, K => canV h x fun y => canVs h r fun ys => K (y :: ys)
def canF (h : Heap) : (j n : Nat) → (List (Option (List Seg)) → Prop) → Prop
  | _, 0, K => K []
  | j, n + 1, K => (match assoc h j with
    | some (.segs false l) => canF h (j + 1) n fun r => K (some l :: r)
    | some .gone => canF h (j + 1) n fun r => K (none :: r)
    | _ => False)
/-- All answers, and what the caller's records hold then. -/
def kvG (n : Nat) (x : SV) (h : Heap) (K : List RV → List (Option (List Seg)) → Prop) : Prop :=
  match x with
  | .tup xs => (match Nat.beq xs.length 1 with | true => False | false => canVs h xs fun rs => canF h 600 n fun fs => K rs fs)
  | x => canV h x fun r => canF h 600 n fun fs => K [r] fs

def eqCon : Con → Con → Prop
  | .ints k l, .ints k' l' => keq k k' = true ∧ l = l'
  | .arrs k n l, .arrs k' n' l' => keq k k' = true ∧ n = n' ∧ l = l'
  | _, _ => False
def eqRV : RV → RV → Prop
  | .v x, .v y => eqV x y
  | .row q, .row q' => eqCon q q'
  | .ptr l, .ptr l' => eqSegs l l'
  | _, _ => False
def eqRV1 (x y : RV) : Prop :=
  match x, y with
  | .v .nsl, .row q => conLen q = 0 ∧ conOk q
  | x, y => eqRV x y
def eqRVs : List RV → List RV → Prop
  | [], [] => True
  | x :: r, y :: t => eqRV1 x y ∧ eqRVs r t
  | _, _ => False
def eqFin : List (Option (List Seg)) → List (Option (List Seg)) → Prop
  | [], [] => True
  | x :: r, y :: t => (match x, y with
    | some l, some l' => eqSegs l l'
    | _, none => True
    | none, some _ => False) ∧ eqFin r t
  | _, _ => False

def fnVcG (n : Nat) (Γ : Tab) (fn : Func) (L : Loops) (args : List SV) (h : Heap) (K : List RV → List (Option (List Seg)) → Prop) (Q : Nat → List Pv → Prop) : Prop :=
  runFn Γ fn (loopKeysM L) args h (fun x h' => kvG n x h' K) (handM L Q)
def loopVcG (n : Nat) (Γ : Tab) (fn : Func) (L : Loops) (key : Nat) (ps : List Pv) (K : List RV → List (Option (List Seg)) → Prop) (Q : Nat → List Pv → Prop) : Prop :=
  match assoc L key with
  | some t => runLoop Γ fn (loopKeysM L) (key % 1000) (instSt t ps) (fun x h' => kvG n x h' K) (handM L Q)
  | none => False

structure VcG (n : Nat) (Γ : Tab) (fn : Func) (L : Loops) (h : Heap) (args : List SV) (K : List RV → List (Option (List Seg)) → Prop) (inv : Nat → List Pv → Nat → Prop) : Prop where
  low : ∀ k t, (k, t) ∈ L → ∀ g, g ∈ keysOf h → g < 1000 ∧ (assoc t.heap g).isSome = true
  loop : ∀ vk t ps m, (vk, t) ∈ L → inv vk ps m → runLoop Γ fn (loopKeysM L) (vk % 1000) (instSt t ps) (fun x h' => kvG n x h' K) (handM L fun key' ps' => ∃ m', m' < m ∧ inv key' ps' m')
  entry : fnVcG n Γ fn L args h K fun key' ps' => ∃ m', inv key' ps' m'

theorem vcG_noloops {n : Nat} {Γ : Tab} {fn : Func} {h : Heap} {args : List SV} {K : List RV → List (Option (List Seg)) → Prop} (hv : fnVcG n Γ fn [] args h K fun _ _ => False) : VcG n Γ fn [] h args K fun _ _ _ => False :=
  ⟨fun k t ht => by simp at ht, fun vk t ps m ht => by simp at ht, by simpa using hv⟩

/-- The callee's arguments and what he finds of the caller's records. -/
def okA : Nat → List AV → List SV → Heap → Prop
  | _, [], [], [] => True
  | j, .v x :: r, y :: t, h => eqV x y ∧ okA j r t h
  | j, .d sh d :: r, y :: t, h => y = svOf 490 sh d ∧ okA j r t h
  | j, .m l :: r, y :: t, (k, b) :: h => y = .p j 0 ∧ k = j ∧ (∃ l', b = .segs false l' ∧ eqSegs l l') ∧ okA (j + 1) r t h
  | j, .o q :: r, y :: t, (k, b) :: h => y = .sl j 0 (conSize q) ⟨true, 0⟩ ⟨false, ((conLen q : Nat) : Int)⟩ ∧ k = j ∧ b = .segs false [conRow q] ∧ okA (j + 1) r t h
  | _, _, _, _ => False

def FactA : List AV → Prop
  | [] => True
  | .v x :: r => FactV x ∧ FactA r
  | .d sh d :: r => RoF sh d ∧ FactA r
  | .m l :: r => FactSegs l ∧ FactA r
  | .o q :: r => (conOk q ∧ ((conLen q : Nat) : Int) < 9223372036854775808) ∧ FactA r

section
variable {P : Program} {Γ : Tab}

/-- What a call has turned and made, in the caller's memory. -/
theorem Mem.merge {w0 : World} {M : Nat → Prop} {ρ ρ' : Nat → Pl} {H H' : Nat → Option SB} {w w' : World} (hm : Mem w0 M ρ H w) {M' : Nat → Prop} (hf : FrameW M' w w') {T : Nat → Prop}
    (hkeep : ∀ k, ¬ T k → H' k = H k) (hρ : ∀ k, dmOf H k → ρ' k = ρ k) (hdm : ∀ k, dmOf H k → dmOf H' k) (hM : ∀ b, M' b → w0.heap.size ≤ b ∨ M b)
    (hsep : ∀ k ro l, ¬ T k → H k = some (.segs ro l) → 0 < (ρ k).cap → ¬ M' (ρ k).blk)
    (hT : ∀ k b, T k → H' k = some b → (b ≠ .world ∧ ∀ a i, b ≠ .alias a i) ∧ ∀ ro l, b = .segs ro l → ro = false ∧ (∃ vs, SegsD (fun _ => False) (fun _ => ({ blk := 0, off := 0, cap := 0 } : Pl)) l vs ∧ vs.length ≤ (ρ' k).cap ∧ w'.rangeAt (ρ' k).blk (ρ' k).off vs ∧ w'.there (ρ' k).blk (ρ' k).off (ρ' k).cap) ∧
      (0 < (ρ' k).cap → (ρ' k).blk < w'.heap.size ∧ (w.heap.size ≤ (ρ' k).blk ∨ M' (ρ' k).blk) ∧ Clean w' (ρ' k).blk))
    (hPT : ∀ k kd ms, T k → H' k ≠ some (.pool kd ms)) (hPM : ∀ k kd ms i, H k = some (.pool kd ms) → i < ms.length → 0 < (ρ k).pc i → ¬ M' ((ρ k).pb i))
    (hTT : ∀ k k' l l', T k → T k' → k ≠ k' → H' k = some (.segs false l) → H' k' = some (.segs false l') → 0 < (ρ' k).cap → 0 < (ρ' k').cap → (ρ' k).blk ≠ (ρ' k').blk) : Mem w0 M ρ' H' w' := by
  have hdk : ∀ k b, H k = some b → dmOf H k := fun k b h => dm_of h
  have hun : ∀ k ro l, ¬ T k → H' k = some (.segs ro l) → 0 < (ρ' k).cap → H k = some (.segs ro l) ∧ ρ' k = ρ k ∧ (ρ' k).blk < w.heap.size ∧ ¬ M' (ρ' k).blk := fun k ro l ht hk hc => by
    rw [hkeep k ht] at hk
    have e := hρ k (hdk k _ hk)
    rw [e] at hc ⊢
    exact ⟨hk, rfl, hm.heap.lt k ro l hk hc, hsep k ro l ht hk hc⟩
  refine ⟨⟨fun k b hb => ?_, fun k k' ro ro' l l' h1 h2 hkk hr c1 c2 => ?_, fun k ro l h1 c1 => ?_⟩, ⟨hf.os.trans hm.frame.os, hf.tape.trans hm.frame.tape, hf.output.trans hm.frame.output, Nat.le_trans hm.frame.size hf.size, fun k hk1 hk2 => ?_⟩, fun k l h1 c1 => ?_, fun k h1 => ?_, fun k l h1 c1 => ?_, ?_⟩
  · by_cases ht : T k
    · obtain ⟨q1, q2⟩ := hT k b ht hb
      cases b with
      | gone => trivial
      | world => trivial
      | pool _ _ => trivial
      | alias a i => exact absurd rfl (q1.2 a i)
      | segs ro l =>
        obtain ⟨rfl, ⟨vs, s1, s2, s3, s4⟩, _⟩ := q2 ro l rfl
        exact ⟨vs, SegsD.mono (fun _ h => h.elim) (fun _ h => h.elim) l vs s1, s2, s3, fun _ => s4⟩
    · rw [hkeep k ht] at hb
      exact (hm.heap.blk k b hb).of_block hdm (fun k hk => .of_eq (hρ k hk)) (hρ k (hdk k _ hb)) fun ro l e c => by
        subst e
        exact hf.block _ (hm.heap.lt k ro l hb c) (hsep k ro l ht hb c)
  · by_cases t1 : T k
    · obtain ⟨rfl, _, q1⟩ := (hT k _ t1 h1).2 ro l rfl
      by_cases t2 : T k'
      · obtain ⟨rfl, _, _⟩ := (hT k' _ t2 h2).2 ro' l' rfl
        exact hTT k k' l l' t1 t2 hkk h1 h2 c1 c2
      · obtain ⟨_, _, a1, a2⟩ := hun k' ro' l' t2 h2 c2
        intro e
        rcases (q1 c1).2.1 with q | q
        · omega
        · rw [e] at q; exact a2 q
    · obtain ⟨b1, b2, a1, a2⟩ := hun k ro l t1 h1 c1
      by_cases t2 : T k'
      · obtain ⟨rfl, _, q1⟩ := (hT k' _ t2 h2).2 ro' l' rfl
        intro e
        rcases (q1 c2).2.1 with q | q
        · omega
        · rw [← e] at q; exact a2 q
      · obtain ⟨d1, d2, _, _⟩ := hun k' ro' l' t2 h2 c2
        rw [b2] at c1 ⊢
        rw [d2] at c2 ⊢
        exact hm.heap.sep k k' ro ro' l l' b1 d1 hkk hr c1 c2
  · by_cases t1 : T k
    · obtain ⟨rfl, _, q1⟩ := (hT k _ t1 h1).2 ro l rfl
      exact (q1 c1).1
    · obtain ⟨_, _, a1, _⟩ := hun k ro l t1 h1 c1
      exact Nat.lt_of_lt_of_le a1 hf.size
  · have hn : ¬ M' k := fun h => by
      rcases hM k h with h | h
      · omega
      · exact hk2 h
    rw [hf.block k (Nat.lt_of_lt_of_le hk1 hm.frame.size) hn]
    exact hm.frame.block k hk1 hk2
  · by_cases t1 : T k
    · obtain ⟨_, _, q1⟩ := (hT k _ t1 h1).2 false l rfl
      rcases (q1 c1).2.1 with q | q
      · exact .inl (Nat.le_trans hm.frame.size q)
      · exact hM _ q
    · obtain ⟨b1, b2, _, _⟩ := hun k false l t1 h1 c1
      rw [b2] at c1 ⊢
      exact hm.own k l b1 c1
  · by_cases t1 : T k
    · exact absurd rfl (hT k _ t1 h1).1.1
    · rw [hkeep k t1] at h1
      rw [hρ k (hdk k _ h1)]
      exact hm.view k h1
  · by_cases t1 : T k
    · obtain ⟨_, _, q1⟩ := (hT k _ t1 h1).2 false l rfl
      exact (q1 c1).2.2
    · obtain ⟨b1, b2, a1, a2⟩ := hun k false l t1 h1 c1
      rw [b2] at c1 ⊢
      rw [b2] at a2
      exact (hm.clean k l b1 c1).of_block (hf.block _ (hm.heap.lt k false l b1 c1) a2)
  · have hpk : ∀ k kd ms, H' k = some (.pool kd ms) → ¬ T k ∧ H k = some (.pool kd ms) ∧ ρ' k = ρ k := fun k kd ms h => by
      have ht : ¬ T k := fun t => hPT k kd ms t h
      rw [hkeep k ht] at h
      exact ⟨ht, h, hρ k (hdk k _ h)⟩
    refine ⟨fun key kd ms hk => ?_, fun key kd ms key' ro l i h1 h2 h3 h4 h5 => ?_, fun key kd ms key' kd' ms' i j h1 h2 h3 h4 h5 h6 h7 => ?_⟩
    · obtain ⟨_, a, b⟩ := hpk key kd ms hk
      rw [b]
      exact (hm.pools.pool key kd ms a).step rfl hf.size (fun _ _ _ h => h) (fun i hi h0 => hf.block _ ((hm.pools.pool key kd ms a).lt i hi h0) (hPM key kd ms i a hi h0))
    · obtain ⟨_, a, b⟩ := hpk key kd ms h1
      rw [b] at h5 ⊢
      have hlt := (hm.pools.pool key kd ms a).lt i h4 h5
      by_cases t : T key'
      · obtain ⟨rfl, _, q⟩ := (hT key' _ t h2).2 ro l rfl
        rcases (q h3).2.1 with q | q
        · omega
        · intro e
          rw [e] at q
          exact hPM key kd ms i a h4 h5 q
      · obtain ⟨b1, b2, _, _⟩ := hun key' ro l t h2 h3
        rw [b2] at h3 ⊢
        exact hm.pools.apart key kd ms key' ro l i a b1 h3 h4 h5
    · obtain ⟨_, a, b⟩ := hpk key kd ms h1
      obtain ⟨_, a', b'⟩ := hpk key' kd' ms' h2
      rw [b] at h6 ⊢
      rw [b'] at h7 ⊢
      exact hm.pools.two key kd ms key' kd' ms' i j a a' h3 h4 h5 h6 h7

theorem vcG_calls {n : Nat} (hΓ : TabOk P Γ) {f : FuncId} {fn : Func} (hf : P.funcs[f]? = some fn) {L : Loops} {h : Heap} {args : List SV} {K : List RV → List (Option (List Seg)) → Prop} {inv : Nat → List Pv → Nat → Prop} (hv : VcG n Γ fn L h args K inv) (hlen : args.length ≤ fn.ntmps)
    {w : World} {M : Nat → Prop} {ρg : Nat → Pl} {vs : List Value} (hgo : GlOk Γ w M ρg (assoc h)) (g1 : Mem w M ρg (assoc h) w) (ha : Ds (dmOf (assoc h)) ρg args vs) :
    Calls P f vs.toArray w fun e w' => ∃ x v h' ρ', e = .returned v ∧ kvG n x h' K ∧ D (dmOf (assoc h')) ρ' x v ∧ Mem w M ρ' (assoc h') w' ∧ ∀ k, dmOf (assoc h) k → dmOf (assoc h') k ∧ PlLe (ρg k) (ρ' k) := by
  have hweak : ∀ vk t σ' ps, (vk, t) ∈ L → matchSt t σ' = some ps → Weak (assoc h) σ' (instSt t ps) := fun vk t σ' ps ht hm =>
    weak_of_match hm fun k hk => hv.low vk t ht k (keysOf_of_dm hk)
  refine (fn_calls hΓ hf hgo hlen ha g1 (fun m key σ => ∃ vk t ps, (vk, t) ∈ L ∧ vk % 1000 = key ∧ σ = instSt t ps ∧ inv vk ps m) (fun m => handM L fun key' ps' => ∃ m', m' < m ∧ inv key' ps' m') (fun m key σ hj => ?_) (fun m key σ' h => ?_)
    (handM L fun key' ps' => ∃ m', inv key' ps' m') (fun key σ' h => ?_) hv.entry).mono fun e w' he => ?_
  · obtain ⟨vk, t, ps, ht, rfl, rfl, hinv⟩ := hj
    exact hv.loop vk t ps m ht hinv
  · obtain ⟨vk, t, ps, ht, hk, hps, m', hlt, hinv⟩ := handM_of h
    exact ⟨m', hlt, _, hweak _ _ _ _ ht hps, vk, t, ps, ht, hk, rfl, hinv⟩
  · obtain ⟨vk, t, ps, ht, hk, hps, m', hinv⟩ := handM_of h
    exact ⟨m', _, hweak _ _ _ _ ht hps, vk, t, ps, ht, hk, rfl, hinv⟩
  · obtain ⟨x, v, h', ρ', rfl, k1, k2, k3, k4⟩ := he
    exact ⟨x, v, h', ρ', rfl, k1, k2, k3, k4⟩

end
end Go.Gx

/- Contracts in general: that they hold. -/
namespace Go.Gx
open Go.RowKit
set_option linter.unusedVariables false

section
variable {P : Program} {Γ : Tab} {w0 : World} {M : Nat → Prop} {ρ : Nat → Pl} {H : Nat → Option SB} {w : World}

theorem ones_D {dm : Nat → Prop} : ∀ (l : List Seg) (xs : List SV) (cs : List Value), onesOf l = some xs → SegsD dm ρ l cs → Ds dm ρ xs cs ∧ (∀ v ∈ cs, v.cells = #[v]) ∧ cs.length = xs.length
  | [], xs, cs, h, hd => by
    simp only [onesOf, Option.some.injEq] at h; subst h
    rw [show cs = [] from hd]
    exact ⟨rfl, (fun v hv => by cases hv), rfl⟩
  | .one x :: r, xs, cs, h, hd => by
    simp only [onesOf] at h
    split at h
    · rename_i ys hy
      simp only [Option.some.injEq] at h; subst h
      obtain ⟨c1, c2, ⟨h1, v, hv, rfl⟩, rfl, h3⟩ := hd
      obtain ⟨q1, q2, q3⟩ := ones_D r ys c2 hy h3
      refine ⟨⟨v, c2, hv, rfl, q1⟩, fun u hu => ?_, by simp [q3]⟩
      simp only [List.cons_append, List.nil_append, List.mem_cons] at hu
      rcases hu with rfl | hu
      · exact (single_cell h1 hv).2
      · exact q2 u hu
    · cases h
  | .arr .. :: r, xs, cs, h, hd => by simp [onesOf] at h
  | .rowI .. :: r, xs, cs, h, hd => by simp [onesOf] at h
  | .rowA .. :: r, xs, cs, h, hd => by simp [onesOf] at h
  | .rowH .. :: r, xs, cs, h, hd => by simp [onesOf] at h

theorem eachRO_sound {R : RO → Value → Prop} {g : SV → (List Prop → RO → RP Delta) → RP Delta} (hg : ∀ (x : SV) (v : Value) (f : List Prop → RO → RP Delta) (d : Delta) (rs rs' : List Nat), D (dmOf H) ρ x v → (g x f).run H rs = some (d, rs') → ∃ p q rs1, (f p q).run H rs1 = some (d, rs') ∧ (AllP p → R q v)) :
    ∀ (xs : List SV) (vs : List Value) (f : List Prop → List RO → RP Delta) (d : Delta) (rs rs' : List Nat), Ds (dmOf H) ρ xs vs → (∀ v ∈ vs, v.cells = #[v]) → (eachRO g xs f).run H rs = some (d, rs') →
      ∃ p ds rs1, (f p ds).run H rs1 = some (d, rs') ∧ (AllP p → ChainR R ds vs) ∧ ds.length = xs.length
  | [], vs, f, d, rs, rs', hd, h1, h => ⟨[], [], rs, h, fun _ => hd, rfl⟩
  | x :: r, vs, f, d, rs, rs', hd, h1, h => by
    simp only [Ds] at hd
    obtain ⟨v, c, hx, rfl, hr⟩ := hd
    simp only [eachRO] at h
    obtain ⟨p, q, rs1, a1, a2⟩ := hg x v _ d rs rs' hx h
    obtain ⟨p', ds, rs2, b1, b2, b3⟩ := eachRO_sound hg r c _ d rs1 rs' hr (fun u hu => h1 u (by simp [hu])) a1
    refine ⟨p ++ p', q :: ds, rs2, b1, fun hp => ?_, by simp [b3]⟩
    obtain ⟨hp1, hp2⟩ := AllP.append (l := p) (r := p') hp
    exact ⟨v, c, a2 hp1, by rw [h1 v (by simp)]; rfl, b2 hp2⟩

/-- What the caller's own data may be seen as. -/
structure BanOk (w0 : World) (M : Nat → Prop) (ρ : Nat → Pl) (H : Nat → Option SB) (ban : List Nat) (M' : Nat → Prop) : Prop where
  own : ∀ key ro l, memN key ban = false → H key = some (.segs ro l) → 0 < (ρ key).cap → ¬ M' (ρ key).blk
  old : ∀ b, b < w0.heap.size → ¬ M b → ¬ M' b
  pool : ∀ key k ms i, H key = some (.pool k ms) → i < ms.length → 0 < (ρ key).pc i → ¬ M' ((ρ key).pb i)

theorem BanOk.keeps {ban : List Nat} {M' : Nat → Prop} (hB : BanOk w0 M ρ H ban M') (hm : Mem w0 M ρ H w) : Keeps w0 w (OutB w0 M) (OutB w M') := fun b hb =>
  ⟨⟨Nat.lt_of_lt_of_le hb.1 hm.frame.size, hB.old b hb.1 hb.2⟩, hm.frame.block b hb.1 hb.2⟩

/-- A pool's row, as data. -/
theorem ps_ro (hm : Mem w0 M ρ H w) {ban : List Nat} {M' : Nat → Prop} (hB : BanOk w0 M ρ H ban M') {key r : Nat} {k : IntKind} {ms : List (List Int)} (hkey : H key = some (.pool k ms)) {len : SI} {v : Value} (hx : D (dmOf H) ρ (.ps key r len) v) (hle : len.z ≤ ((ms.getD r []).length : Int)) :
    RoD w (OutB w M') (.ints k) (.l ((ms.getD r []).take len.z.toNat)) v := by
  simp only [D] at hx
  obtain ⟨hk, hrp, hl, hr, ad, cap, rfl, hlc, hdis⟩ := hx
  have hP := hm.pools.pool key k ms hkey
  have hrl : r < ms.length := by rw [← hP.cnt]; exact hrp
  have hrm : ms[r]? = some (ms.getD r []) := by rw [List.getD_eq_getElem?_getD, List.getElem?_eq_getElem hrl]; rfl
  obtain ⟨a1, a2, a3, a4⟩ := hP.row r _ hrm
  have hll : ((ms.getD r []).take len.z.toNat).length = len.z.toNat := by rw [List.length_take]; omega
  simp only [RoD, InR] at hr ⊢
  have er : roL (.l ((ms.getD r []).take len.z.toNat)) = (ms.getD r []).take len.z.toNat := rfl
  rw [er, hll]
  refine ⟨ad, cap, rfl, hlc, by omega, fun z hz => a1 z (List.mem_of_mem_take hz), ?_⟩
  rcases hdis with ⟨rfl, hcap⟩ | ⟨q1, q2⟩
  · rcases Nat.eq_zero_or_pos cap with h0 | h0
    · exact .inr ⟨by omega, h0⟩
    · have hcp : 0 < (ρ key).pc r := by omega
      refine .inl ⟨_, _, rfl, ⟨hP.lt r hrl hcp, hB.pool key k ms r hkey hrl hcp⟩, fun j u hu => ?_⟩
      rw [List.map_take, List.getElem?_take] at hu
      split at hu
      · exact a3 j u hu
      · cases hu
  · exact .inr ⟨by omega, q2⟩

theorem hdrs_chain (hm : Mem w0 M ρ H w) {ban : List Nat} {M' : Nat → Prop} (hB : BanOk w0 M ρ H ban M') {pk : Nat} {k : IntKind} {ms : List (List Int)} (hkey : H pk = some (.pool k ms)) : ∀ (hs : List (Nat × Nat)) (cs : List Value), HdrsD (dmOf H) ρ pk hs cs →
    (∀ h ∈ hs, h.2 ≤ (ms.getD h.1 []).length) → ChainR (RoD w (OutB w M') (.ints k)) (hs.map fun h => .l ((ms.getD h.1 []).take h.2)) cs
  | [], cs, h, _ => h
  | x :: t, cs, h, hl => by
    obtain ⟨v, c, h1, rfl, h3⟩ := h
    refine ⟨v, c, ?_, ?_, hdrs_chain hm hB hkey t c h3 fun y hy => hl y (by simp [hy])⟩
    · have := ps_ro hm hB hkey h1 (by have := hl x (by simp); simp only; omega)
      simpa using this
    · rw [(single_cell rfl h1).2]; rfl

theorem hdr_ro (hm : Mem w0 M ρ H w) {ban : List Nat} {M' : Nat → Prop} (hB : BanOk w0 M ρ H ban M') {key pk : Nat} {ro : Bool} {hs : List (Nat × Nat)} {k : IntKind} (hban : memN key ban = false) (hkey : H key = some (.segs ro [.rowH pk hs])) {off len : SI} {v : Value} (hx : D (dmOf H) ρ (.sl key 0 1 off len) v)
    {f : List Prop → RO → RP Delta} {d : Delta} {rs rs' : List Nat} (h : (hdrRO k off len pk hs f).run H rs = some (d, rs')) :
    ∃ p q rs1, (f p q).run H rs1 = some (d, rs') ∧ (AllP p → RoD w (OutB w M') (.l (.ints k)) q v) := by
  unfold hdrRO at h
  simp only [RP.run] at h
  split at h
  · rename_i k' ms hpk
    split at h
    · rename_i hkk
      have hkk := keq_eq hkk
      subst hkk
      refine ⟨_, _, _, h, fun hp => ?_⟩
      have hle : off.z + len.z ≤ (hs.length : Int) := hp.1
      have hall := hp.2.1
      simp only [D] at hx
      obtain ⟨_, ho, hl, hr, ad, cap, rfl, hlc, hdis⟩ := hx
      obtain ⟨vs, h1, h2, h3, _⟩ := hm.segs hkey
      obtain ⟨c1, c2, ⟨_, e1⟩, rfl, e3⟩ := h1
      have e4 : c2 = [] := e3
      subst e4
      simp only [List.append_nil] at h2 h3
      have hcl := e1.len
      have hln : (((hs.drop off.z.toNat).take len.z.toNat).map fun h => RO.l ((ms.getD h.1 []).take h.2)).length = len.z.toNat := by simp; omega
      simp only [RoD, InR] at hr ⊢
      have er : ∀ l, roX (.r l) = l := fun _ => rfl
      rw [er, hln]
      refine ⟨ad, cap, (c1.drop off.z.toNat).take len.z.toNat, rfl, hlc, by omega, hdrs_chain hm hB hpk _ _ ((e1.drop _).take _) hall, ?_⟩
      rcases hdis with ⟨rfl, hcap⟩ | ⟨hz, hc0⟩
      · rcases Nat.eq_zero_or_pos cap with h0 | h0
        · exact .inr ⟨by omega, h0⟩
        · have hcp : 0 < (ρ key).cap := by omega
          refine .inl ⟨(ρ key).blk, (ρ key).off + off.z.toNat, by simp [at_], ⟨hm.heap.lt key ro _ hkey hcp, hB.own key ro _ hban hkey hcp⟩, rangeAt_part h3 _ _⟩
      · exact .inr ⟨by omega, hc0⟩
    · simp [RP.run] at h
  · simp [RP.run] at h

mutual
theorem viewRO_sound (P : Program) (hm : Mem w0 M ρ H w) {ban : List Nat} {M' : Nat → Prop} (hB : BanOk w0 M ρ H ban M') : ∀ (sh : Sh) (x : SV) (v : Value) (f : List Prop → RO → RP Delta) (d : Delta) (rs rs' : List Nat), D (dmOf H) ρ x v → (viewRO ban sh x f).run H rs = some (d, rs') →
    ∃ p q rs1, (f p q).run H rs1 = some (d, rs') ∧ (AllP p → RoD w (OutB w M') sh q v)
  | .ints k, x, v, f, d, rs, rs', hx, h => by
    simp only [viewRO] at h
    split at h
    · rename_i key sh dd
      simp only [RP.run] at h
      split at h
      · rename_i hkey
        split at h
        · rename_i he
          have e := shEq_eq _ _ he
          subst e
          simp only [D] at hx
          have hrel := hx.2.1
          rw [hm.view key hkey] at hrel
          exact ⟨[], dd, _, h, fun _ => RoD.mono (hB.keeps hm) _ _ _ hrel⟩
        · simp [RP.run] at h
      · simp [RP.run] at h
    · simp only [D] at hx
      subst hx
      refine ⟨[], _, _, h, fun _ => ?_⟩
      simp only [RoD]
      exact ⟨none, 0, rfl, Nat.le_refl _, by simp [roL], (fun z hz => by cases hz), .inr ⟨rfl, rfl⟩⟩
    · rename_i key c est off len
      split at h
      · simp [RP.run] at h
      · rename_i hban
        obtain ⟨p, q, rs1, hw, hq, ro, lx, hkey, hcE⟩ := withCon_more (P := P) hm hx h
        split at hw
        · rename_i k' l
          split at hw
          · rename_i hkk
            have hkk := keq_eq hkk
            subst hkk
            refine ⟨p, _, rs1, hw, fun hp => ?_⟩
            have hcon := hq hp
            simp only [D] at hx
            obtain ⟨_, ho, hl, hr, ad, cap, rfl, hlc, hdis⟩ := hx
            obtain ⟨e1, e2, e3⟩ := hcon.at_ ad _ cap rfl
            have e1 : len.z.toNat = l.length := e1
            simp only [RoD, InR] at hr ⊢
            have er : roL (.l l) = l := rfl
            rw [er]
            refine ⟨ad, cap, by rw [e1], by omega, by omega, hcon.ok, ?_⟩
            rcases e3 with ⟨a, b⟩ | ⟨b, o, rfl, hlt, hra⟩
            · exact .inr ⟨a, b⟩
            · rcases hdis with ⟨ha', hc2⟩ | ⟨hz, hc0⟩
              · simp only [Option.some.injEq, at_, Addr.mk.injEq, and_true] at ha'
                obtain ⟨hb', ho'⟩ := ha'
                have hest : conSize (Con.ints k' l) = est := con_est hcE
                have hest1 : est = 1 := hest.symm
                subst hest1
                rcases Nat.eq_zero_or_pos cap with h0 | h0
                · exact .inr ⟨by omega, h0⟩
                · have hcp : 0 < (ρ key).cap := by omega
                  refine .inl ⟨b, o, rfl, ⟨hlt (by simpa [conSize] using h0), ?_⟩, hra⟩
                  rw [hb']
                  exact hB.own key ro lx hban hkey hcp
              · exact .inr ⟨by omega, hc0⟩
          · simp [RP.run] at hw
        · simp [RP.run] at hw
    · rename_i key r len
      simp only [withCon, RP.run] at h
      split at h
      · rename_i kk ms hkey
        split at h
        · rename_i hkk
          have hkk := keq_eq hkk
          subst hkk
          refine ⟨_, _, _, h, fun hp => ?_⟩
          have hle : len.z ≤ ((ms.getD r []).length : Int) := hp.1
          exact ps_ro hm hB hkey hx hle
        · simp [RP.run] at h
      · simp [RP.run] at h
    · simp [RP.run] at h
  | .l e, x, v, f, d, rs, rs', hx, h => by
    simp only [viewRO] at h
    split at h
    · rename_i key sh dd
      simp only [RP.run] at h
      split at h
      · rename_i hkey
        split at h
        · rename_i he
          have e := shEq_eq _ _ he
          subst e
          simp only [D] at hx
          have hrel := hx.2.1
          rw [hm.view key hkey] at hrel
          exact ⟨[], dd, _, h, fun _ => RoD.mono (hB.keeps hm) _ _ _ hrel⟩
        · simp [RP.run] at h
      · simp [RP.run] at h
    · simp only [D] at hx
      subst hx
      refine ⟨[], _, _, h, fun _ => ?_⟩
      simp only [RoD]
      exact ⟨none, 0, [], rfl, Nat.le_refl _, by simp [roX], rfl, .inr ⟨rfl, rfl⟩⟩
    · rename_i key n
      split at h
      · simp [RP.run] at h
      · rename_i hban
        simp only [RP.run] at h
        split at h
        · rename_i ro l hkey
          split at h
          · rename_i xs hxs
            split at h
            · rename_i hn
              simp only [Bool.and_eq_true] at hn
              have hn1 := Nat.eq_of_beq_eq_true hn.1
              have hn2 : 0 < n := by have := hn.2; simp [Nat.blt] at this; omega
              obtain ⟨vs, h1, h2, h3, _⟩ := hm.segs hkey
              obtain ⟨q1, q2, q3⟩ := ones_D l xs vs hxs h1
              obtain ⟨p, ds, rs1, a1, a2, a3⟩ := eachRO_sound (R := RoD w (OutB w M') e) (fun x v f d rs rs' hx h => viewRO_sound P hm hB e x v f d rs rs' hx h) xs vs _ d _ rs' q1 q2 h
              refine ⟨p, _, rs1, a1, fun hp => ?_⟩
              simp only [D] at hx
              obtain ⟨_, ho, hl, hr, ad, cap, rfl, hlc, hdis⟩ := hx
              have er : roX (.r ds) = ds := rfl
              have hnn : (Int.ofNat n).toNat = n := rfl
              simp only [RoD, InR] at hr ⊢
              rw [er]
              simp only [hnn] at hlc ⊢
              rcases hdis with ⟨rfl, hcap⟩ | ⟨hz, hc0⟩
              · refine ⟨_, cap, vs, by rw [a3, hn1]; simp [at_], by omega, by omega, a2 hp, .inl ⟨(ρ key).blk, (ρ key).off, rfl, ?_, h3⟩⟩
                have hcp : 0 < (ρ key).cap := by simp at hcap; omega
                exact ⟨hm.heap.lt key ro l hkey hcp, hB.own key ro l hban hkey hcp⟩
              · simp at hz; omega
            · simp [RP.run] at h
          · simp [RP.run] at h
        · simp [RP.run] at h
    · rename_i key off len _
      split at h
      · simp [RP.run] at h
      · rename_i hban
        simp only [RP.run] at h
        split at h
        · rename_i ro pk hs hkey
          split at h
          · rename_i k
            exact hdr_ro hm hB hban hkey hx h
          · simp [RP.run] at h
        · simp [RP.run] at h
    · simp [RP.run] at h
  | .i _, x, v, f, d, rs, rs', hx, h => by simp [viewRO, RP.run] at h
  | .tb, x, v, f, d, rs, rs', hx, h => by simp [viewRO, RP.run] at h
  | .ts, x, v, f, d, rs, rs', hx, h => by simp [viewRO, RP.run] at h
  | .arr _ _, x, v, f, d, rs, rs', hx, h => by simp [viewRO, RP.run] at h
  | .r fs, x, v, f, d, rs, rs', hx, h => by
    simp only [viewRO] at h
    split at h
    · rename_i xs
      simp only [D] at hx
      obtain ⟨cs, hc, rfl⟩ := hx
      obtain ⟨p, ds, rs1, a1, a2⟩ := viewROs_sound P hm hB fs xs cs _ d rs rs' hc h
      refine ⟨p, _, rs1, a1, fun hp => ?_⟩
      simp only [RoD]
      exact ⟨cs, by simpa using a2 hp [], rfl⟩
    · simp [RP.run] at h
theorem viewROs_sound (P : Program) (hm : Mem w0 M ρ H w) {ban : List Nat} {M' : Nat → Prop} (hB : BanOk w0 M ρ H ban M') : ∀ (fs : List Sh) (xs : List SV) (cs : List Value) (f : List Prop → List RO → RP Delta) (d : Delta) (rs rs' : List Nat), Cs (dmOf H) ρ xs cs → (viewROs ban fs xs f).run H rs = some (d, rs') →
    ∃ p q rs1, (f p q).run H rs1 = some (d, rs') ∧ (AllP p → ∀ pre : List RO, RoCs w (OutB w M') fs (.r (pre ++ q)) pre.length cs)
  | [], xs, cs, f, d, rs, rs', hx, h => by
    simp only [viewROs] at h
    split at h
    · rw [show cs = [] from hx]
      exact ⟨[], [], rs, h, fun _ _ => rfl⟩
    · simp [RP.run] at h
  | s :: fs, xs, cs, f, d, rs, rs', hx, h => by
    simp only [viewROs] at h
    split at h
    · rename_i x xs
      simp only [Cs] at hx
      obtain ⟨v, c, h1, rfl, h2⟩ := hx
      obtain ⟨p, q, rs1, a1, a2⟩ := viewRO_sound P hm hB s x v _ d rs rs' h1 h
      obtain ⟨p', ds, rs2, b1, b2⟩ := viewROs_sound P hm hB fs xs c _ d rs1 rs' h2 a1
      refine ⟨p ++ p', q :: ds, rs2, b1, fun hp pre => ?_⟩
      obtain ⟨hp1, hp2⟩ := AllP.append (l := p) (r := p') hp
      simp only [RoCs]
      refine ⟨v, c, ?_, rfl, ?_⟩
      · have : roN (.r (pre ++ q :: ds)) pre.length = q := by simp [roN, roX, List.getD_eq_getElem?_getD]
        rw [this]; exact a2 hp1
      · have := b2 hp2 (pre ++ [q])
        simpa using this
    · simp [RP.run] at h
end

/-- The arguments, as a contract sees them, and the keys of the caller's records among them. -/
def AsD (w : World) (Out : Nat → Prop) (H : Nat → Option SB) (ρ : Nat → Pl) : List AV → List Value → List Nat → Prop
  | [], vs, ks => vs = [] ∧ ks = []
  | .v x :: r, vs, ks => ∃ u c, vs = u :: c ∧ D (dmOf H) ρ x u ∧ AsD w Out H ρ r c ks
  | .d sh d :: r, vs, ks => ∃ u c, vs = u :: c ∧ RoD w Out sh d u ∧ AsD w Out H ρ r c ks
  | .m l :: r, vs, ks => ∃ c k ks', ks = k :: ks' ∧ vs = .pointer (some (at_ (ρ k) 0)) :: c ∧ H k = some (.segs false l) ∧ AsD w Out H ρ r c ks'
  | .o q :: r, vs, ks => ∃ u c k ks', ks = k :: ks' ∧ vs = u :: c ∧ H k = some (.segs false [conRow q]) ∧
      (∃ ad cap, u = .slice ad (conLen q) cap ∧ conLen q ≤ cap ∧ ((conLen q : Nat) : Int) < 9223372036854775808 ∧ ((ad = some (at_ (ρ k) 0) ∧ conSize q * cap ≤ (ρ k).cap) ∨ (conLen q = 0 ∧ cap = 0))) ∧ AsD w Out H ρ r c ks'

theorem getA_sound (P : Program) (hm : Mem w0 M ρ H w) {ban : List Nat} {M' : Nat → Prop} (hB : BanOk w0 M ρ H ban M') : ∀ (ms : List Md) (xs : List SV) (vs : List Value) (f : List Prop → List AV → RP Delta) (d : Delta) (rs rs' : List Nat), Ds (dmOf H) ρ xs vs → (getA ban ms xs f).run H rs = some (d, rs') →
    ∃ p avs rs1, (f p avs).run H rs1 = some (d, rs') ∧ (AllP p → AsD w (OutB w M') H ρ avs vs (ownKeys ms xs))
  | [], [], vs, f, d, rs, rs', hd, h => ⟨[], [], rs, h, fun _ => ⟨hd, rfl⟩⟩
  | [], _ :: _, vs, f, d, rs, rs', hd, h => by simp [getA, RP.run] at h
  | .v :: _, [], vs, f, d, rs, rs', hd, h => by simp [getA, RP.run] at h
  | .d _ :: _, [], vs, f, d, rs, rs', hd, h => by simp [getA, RP.run] at h
  | .m :: _, [], vs, f, d, rs, rs', hd, h => by simp [getA, RP.run] at h
  | .o :: _, [], vs, f, d, rs, rs', hd, h => by simp [getA, RP.run] at h
  | .v :: ms, x :: xs, vs, f, d, rs, rs', hd, h => by
    simp only [Ds] at hd
    obtain ⟨v, c, h1, rfl, h2⟩ := hd
    simp only [getA] at h
    obtain ⟨p, avs, rs1, q1, q2⟩ := getA_sound P hm hB ms xs c _ d rs rs' h2 h
    refine ⟨p, _, rs1, q1, fun hp => ⟨v, c, rfl, h1, ?_⟩⟩
    have : ownKeys (.v :: ms) (x :: xs) = ownKeys ms xs := by cases x <;> rfl
    rw [this]; exact q2 hp
  | .d sh :: ms, x :: xs, vs, f, d, rs, rs', hd, h => by
    simp only [Ds] at hd
    obtain ⟨v, c, h1, rfl, h2⟩ := hd
    simp only [getA] at h
    obtain ⟨p, q, rs1, q1, q2⟩ := viewRO_sound P hm hB sh x v _ d rs rs' h1 h
    obtain ⟨p', avs, rs2, q3, q4⟩ := getA_sound P hm hB ms xs c _ d rs1 rs' h2 q1
    refine ⟨p ++ p', _, rs2, q3, fun hp => ?_⟩
    obtain ⟨hp1, hp2⟩ := AllP.append (l := p) (r := p') hp
    have : ownKeys (.d sh :: ms) (x :: xs) = ownKeys ms xs := by cases x <;> rfl
    rw [this]
    exact ⟨v, c, rfl, q2 hp1, q4 hp2⟩
  | .m :: ms, x :: xs, vs, f, d, rs, rs', hd, h => by
    simp only [Ds] at hd
    obtain ⟨v, c, h1, rfl, h2⟩ := hd
    simp only [getA] at h
    split at h
    · rename_i key
      simp only [RP.run] at h
      split at h
      · rename_i l hkey
        obtain ⟨p, avs, rs1, q1, q2⟩ := getA_sound P hm hB ms xs c _ d _ rs' h2 h
        simp only [D] at h1
        exact ⟨p, _, rs1, q1, fun hp => ⟨c, key, _, rfl, by rw [h1.2], hkey, q2 hp⟩⟩
      · simp [RP.run] at h
    · obtain ⟨p, avs, rs1, q1, q2⟩ := getA_sound P hm hB ms xs c _ d rs rs' h2 h
      exact ⟨p, _, rs1, q1, fun hp => ⟨v, c, rfl, h1, q2 hp⟩⟩
    · simp [RP.run] at h
  | .o :: ms, x :: xs, vs, f, d, rs, rs', hd, h => by
    simp only [Ds] at hd
    obtain ⟨v, c, h1, rfl, h2⟩ := hd
    simp only [getA] at h
    split at h
    · rename_i key est len
      simp only [RP.run] at h
      split at h
      · rename_i g hkey
        split at h
        · rename_i q hq
          split at h
          · rename_i hest
            have hest := Nat.eq_of_beq_eq_true hest
            obtain ⟨p, avs, rs1, q1, q2⟩ := getA_sound P hm hB ms xs c _ d _ rs' h2 h
            have hg : g = conRow q := by
              cases g <;> simp only [rowCon, Option.some.injEq, reduceCtorEq] at hq <;> subst hq <;> rfl
            subst hg
            refine ⟨_, _, rs1, q1, fun hp => ?_⟩
            have hlen : len.z = ((conLen q : Nat) : Int) := hp.1
            simp only [D] at h1
            obtain ⟨_, ho, hl, hr, ad, cap, rfl, hlc, hdis⟩ := h1
            simp only [InR] at hr
            have hln : len.z.toNat = conLen q := by omega
            refine ⟨_, c, key, _, rfl, rfl, hkey, ⟨ad, cap, by rw [hln], by omega, by omega, ?_⟩, q2 hp.2⟩
            rcases hdis with ⟨ha, hc⟩ | ⟨hz, hc0⟩
            · exact .inl ⟨by simpa using ha, by rw [← hest]; simpa using hc⟩
            · exact .inr ⟨by omega, hc0⟩
          · simp [RP.run] at h
        · simp [RP.run] at h
      · simp [RP.run] at h
    · obtain ⟨p, avs, rs1, q1, q2⟩ := getA_sound P hm hB ms xs c _ d rs rs' h2 h
      exact ⟨p, _, rs1, q1, fun hp => ⟨v, c, rfl, h1, q2 hp⟩⟩
    · simp [RP.run] at h

theorem AsD.fact (hm : Mem w0 M ρ H w) {Out : Nat → Prop} : ∀ (avs : List AV) (vs : List Value) (ks : List Nat), AsD w Out H ρ avs vs ks → FactA avs
  | [], vs, ks, h => trivial
  | .v x :: r, vs, ks, h => by
    obtain ⟨u, c, rfl, h1, h2⟩ := h
    exact ⟨D.fact x u h1, AsD.fact hm r c ks h2⟩
  | .d sh d :: r, vs, ks, h => by
    obtain ⟨u, c, rfl, h1, h2⟩ := h
    exact ⟨RoD.fact sh d u h1, AsD.fact hm r c ks h2⟩
  | .m l :: r, vs, ks, h => by
    obtain ⟨c, k, ks', rfl, rfl, h1, h2⟩ := h
    obtain ⟨cs, hcs, _⟩ := hm.heap.blk k _ h1
    exact ⟨SegsD.fact l cs hcs, AsD.fact hm r c ks' h2⟩
  | .o q :: r, vs, ks, h => by
    obtain ⟨u, c, k, ks', rfl, rfl, h1, ⟨ad, cap, h3, h4, h5, _⟩, h2⟩ := h
    obtain ⟨cs, ⟨c1, c2, hq, _⟩, _⟩ := hm.heap.blk k _ h1
    refine ⟨⟨?_, h5⟩, AsD.fact hm r c ks' h2⟩
    cases q <;> exact hq.1

theorem AsD.keys {Out : Nat → Prop} : ∀ (avs : List AV) (vs : List Value) (ks : List Nat), AsD w Out H ρ avs vs ks → ∀ k ∈ ks, ∃ l, H k = some (.segs false l)
  | [], vs, ks, h => by obtain ⟨_, rfl⟩ := h; intro k hk; cases hk
  | .v x :: r, vs, ks, h => by
    obtain ⟨u, c, rfl, h1, h2⟩ := h
    exact AsD.keys r c ks h2
  | .d sh d :: r, vs, ks, h => by
    obtain ⟨u, c, rfl, h1, h2⟩ := h
    exact AsD.keys r c ks h2
  | .m l :: r, vs, ks, h => by
    obtain ⟨c, k, ks', rfl, rfl, h1, h2⟩ := h
    intro k' hk
    rcases List.mem_cons.1 hk with rfl | hk
    · exact ⟨_, h1⟩
    · exact AsD.keys r c ks' h2 k' hk
  | .o q :: r, vs, ks, h => by
    obtain ⟨u, c, k, ks', rfl, rfl, h1, _, h2⟩ := h
    intro k' hk
    rcases List.mem_cons.1 hk with rfl | hk
    · exact ⟨_, h1⟩
    · exact AsD.keys r c ks' h2 k' hk

/-- The callee's records are the caller's. -/
theorem okA_heap {Out : Nat → Prop} : ∀ (avs : List AV) (vs : List Value) (ks : List Nat) (j : Nat) (args' : List SV) (h : Heap), AsD w Out H ρ avs vs ks → okA j avs args' h →
    (∀ k b, assoc h k = some b → ∃ i, k = j + i ∧ i < ks.length ∧ ∃ l l', b = .segs false l' ∧ H (ks.getD i 0) = some (.segs false l) ∧ ∀ (dm : Nat → Prop) (ρ' : Nat → Pl) (cs : List Value), SegsD (dmOf H) ρ l cs → SegsD dm ρ' l' cs) ∧
    (∀ i, i < ks.length → (assoc h (j + i)).isSome = true)
  | [], vs, ks, j, [], [], h, ho => by
    obtain ⟨_, rfl⟩ := h
    exact ⟨fun k b hb => by simp [assoc] at hb, fun i hi => by simp at hi⟩
  | [], vs, ks, j, [], _ :: _, h, ho => ho.elim
  | [], vs, ks, j, _ :: _, _, h, ho => by simp [okA] at ho
  | .v x :: r, vs, ks, j, [], h', h, ho => by simp [okA] at ho
  | .v x :: r, vs, ks, j, y :: t, h', h, ho => by
    obtain ⟨u, c, rfl, h1, h2⟩ := h
    exact okA_heap r c ks j t h' h2 ho.2
  | .d sh d :: r, vs, ks, j, [], h', h, ho => by simp [okA] at ho
  | .d sh d :: r, vs, ks, j, y :: t, h', h, ho => by
    obtain ⟨u, c, rfl, h1, h2⟩ := h
    exact okA_heap r c ks j t h' h2 ho.2
  | .m l :: r, vs, ks, j, [], h', h, ho => by simp [okA] at ho
  | .m l :: r, vs, ks, j, y :: t, [], h, ho => by simp [okA] at ho
  | .m l :: r, vs, ks, j, y :: t, (k0, b0) :: h', h, ho => by
    obtain ⟨c, k, ks', rfl, rfl, h1, h2⟩ := h
    obtain ⟨_, rfl, ⟨l', rfl, he⟩, ho⟩ := ho
    obtain ⟨q1, q2⟩ := okA_heap r c ks' (k0 + 1) t h' h2 ho
    refine ⟨fun k b hb => ?_, fun i hi => ?_⟩
    · simp only [assoc] at hb
      split at hb
      · rename_i e
        have e := Nat.eq_of_beq_eq_true e
        simp only [Option.some.injEq] at hb
        subst hb
        exact ⟨0, by omega, by simp, l, l', rfl, by simpa using h1, fun dm ρ' cs hcs => eqSegs_D l l' cs he hcs⟩
      · obtain ⟨i, e, hi, rest⟩ := q1 k b hb
        exact ⟨i + 1, by omega, by simpa using hi, by simpa using rest⟩
    · cases i with
      | zero => simp [assoc, Nat.beq_refl]
      | succ i =>
        have : Nat.beq k0 (k0 + (i + 1)) = false := by
          cases hb : Nat.beq k0 (k0 + (i + 1)) with
          | false => rfl
          | true => have := Nat.eq_of_beq_eq_true hb; omega
        simp only [assoc, this]
        have := q2 i (by simpa using hi)
        rwa [show k0 + 1 + i = k0 + (i + 1) by omega] at this
  | .o q :: r, vs, ks, j, [], h', h, ho => by simp [okA] at ho
  | .o q :: r, vs, ks, j, y :: t, [], h, ho => by simp [okA] at ho
  | .o q :: r, vs, ks, j, y :: t, (k0, b0) :: h', h, ho => by
    obtain ⟨u, c, k, ks', rfl, rfl, h1, _, h2⟩ := h
    obtain ⟨_, rfl, rfl, ho⟩ := ho
    obtain ⟨q1, q2⟩ := okA_heap r c ks' (k0 + 1) t h' h2 ho
    refine ⟨fun k b hb => ?_, fun i hi => ?_⟩
    · simp only [assoc] at hb
      split at hb
      · rename_i e
        have e := Nat.eq_of_beq_eq_true e
        simp only [Option.some.injEq] at hb
        subst hb
        refine ⟨0, by omega, by simp, _, _, rfl, by simpa using h1, fun dm ρ' cs hcs => ?_⟩
        obtain ⟨c1, c2, hq, rfl, hc2⟩ := hcs
        refine ⟨c1, c2, ?_, rfl, hc2⟩
        cases q <;> exact hq
      · obtain ⟨i, e, hi, rest⟩ := q1 k b hb
        exact ⟨i + 1, by omega, by simpa using hi, by simpa using rest⟩
    · cases i with
      | zero => simp [assoc, Nat.beq_refl]
      | succ i =>
        have : Nat.beq k0 (k0 + (i + 1)) = false := by
          cases hb : Nat.beq k0 (k0 + (i + 1)) with
          | false => rfl
          | true => have := Nat.eq_of_beq_eq_true hb; omega
        simp only [assoc, this]
        have := q2 i (by simpa using hi)
        rwa [show k0 + 1 + i = k0 + (i + 1) by omega] at this

theorem okA_args {Out : Nat → Prop} {dm' : Nat → Prop} {ρ' : Nat → Pl} (h490 : dm' 490) (hrel : (ρ' 490).rel = RoD w Out) : ∀ (avs : List AV) (vs : List Value) (ks : List Nat) (j : Nat) (args' : List SV) (h : Heap), AsD w Out H ρ avs vs ks → okA j avs args' h →
    (∀ i, i < ks.length → dm' (j + i) ∧ ρ' (j + i) = ρ (ks.getD i 0)) → Ds dm' ρ' args' vs
  | [], vs, ks, j, [], [], h, ho, hk => h.1
  | [], vs, ks, j, [], _ :: _, h, ho, hk => ho.elim
  | [], vs, ks, j, _ :: _, _, h, ho, hk => by simp [okA] at ho
  | .v x :: r, vs, ks, j, [], h', h, ho, hk => by simp [okA] at ho
  | .v x :: r, vs, ks, j, y :: t, h', h, ho, hk => by
    obtain ⟨u, c, rfl, h1, h2⟩ := h
    exact ⟨u, c, eqV_D x y u ho.1 h1, rfl, okA_args h490 hrel r c ks j t h' h2 ho.2 hk⟩
  | .d sh d :: r, vs, ks, j, [], h', h, ho, hk => by simp [okA] at ho
  | .d sh d :: r, vs, ks, j, y :: t, h', h, ho, hk => by
    obtain ⟨u, c, rfl, h1, h2⟩ := h
    obtain ⟨rfl, ho⟩ := ho
    exact ⟨_, c, svOf_D h490 hrel sh d u h1, rfl, okA_args h490 hrel r c ks j t h' h2 ho hk⟩
  | .m l :: r, vs, ks, j, [], h', h, ho, hk => by simp [okA] at ho
  | .m l :: r, vs, ks, j, y :: t, [], h, ho, hk => by simp [okA] at ho
  | .m l :: r, vs, ks, j, y :: t, (k0, b0) :: h', h, ho, hk => by
    obtain ⟨c, k, ks', rfl, rfl, h1, h2⟩ := h
    obtain ⟨rfl, rfl, ⟨l', rfl, he⟩, ho⟩ := ho
    have h0 := hk 0 (by simp)
    refine ⟨_, c, ⟨by simpa using h0.1, ?_⟩, rfl, okA_args h490 hrel r c ks' (k0 + 1) t h' h2 ho fun i hi => ?_⟩
    · have := h0.2
      simp only [Nat.add_zero, List.getD_cons_zero] at this
      rw [this]
    · have := hk (i + 1) (by simpa using hi)
      rw [show k0 + 1 + i = k0 + (i + 1) by omega]
      simpa using this
  | .o q :: r, vs, ks, j, [], h', h, ho, hk => by simp [okA] at ho
  | .o q :: r, vs, ks, j, y :: t, [], h, ho, hk => by simp [okA] at ho
  | .o q :: r, vs, ks, j, y :: t, (k0, b0) :: h', h, ho, hk => by
    obtain ⟨u, c, k, ks', rfl, rfl, h1, ⟨ad, cap, rfl, h3, h4, h5⟩, h2⟩ := h
    obtain ⟨rfl, rfl, rfl, ho⟩ := ho
    have h0 := hk 0 (by simp)
    refine ⟨_, c, sl_D (by simpa using h0.1) _ h4 h3 ?_, rfl, okA_args h490 hrel r c ks' (k0 + 1) t h' h2 ho fun i hi => ?_⟩
    · have := h0.2
      simp only [Nat.add_zero, List.getD_cons_zero] at this
      rw [this]; exact h5
    · have := hk (i + 1) (by simpa using hi)
      rw [show k0 + 1 + i = k0 + (i + 1) by omega]
      simpa using this

end
end Go.Gx

/- Contracts in general: off functions that the evaluator has run. -/
namespace Go.Gx
open Go.RowKit
set_option linter.unusedVariables false

/-- An answer of the callee's, and where it lies. -/
def RvD (H : Nat → Option SB) (ρ : Nat → Pl) (w : World) : RV → Value → Prop
  | .v x, v => D (dmOf H) ρ x v
  | .row q, v => conOk q ∧ ∃ key l pl ad cap, 1000 ≤ key ∧ H key = some (.segs false l) ∧ v = .slice ad (conLen q) cap ∧ conLen q ≤ cap ∧ ((conLen q : Nat) : Int) < 9223372036854775808 ∧
      ((ad = some (at_ pl 0) ∧ conSize q * cap ≤ pl.cap) ∨ (conLen q = 0 ∧ cap = 0)) ∧ (conCells q).length ≤ pl.cap ∧ w.rangeAt pl.blk pl.off (conCells q) ∧ w.there pl.blk pl.off pl.cap ∧ (0 < pl.cap → pl.blk = (ρ key).blk ∧ 0 < (ρ key).cap)
  | .ptr l, v => ∃ key, 1000 ≤ key ∧ H key = some (.segs false l) ∧ v = .pointer (some (at_ (ρ key) 0))
def RvsD (H : Nat → Option SB) (ρ : Nat → Pl) (w : World) : List RV → List Value → Prop
  | [], vs => vs = []
  | x :: r, vs => ∃ v c, RvD H ρ w x v ∧ vs = v :: c ∧ RvsD H ρ w r c

section
variable {P : Program} {Γ : Tab} {w0 : World} {M : Nat → Prop} {ρ : Nat → Pl} {w : World}

theorem canV_sound {h : Heap} (hm : Mem w0 M ρ (assoc h) w) {x : SV} {v : Value} (hx : D (dmOf (assoc h)) ρ x v) {K : RV → Prop} (hk : canV h x K) : ∃ r, K r ∧ RvD (assoc h) ρ w r v := by
  unfold canV at hk
  split at hk
  · rename_i key c est off len
    split at hk
    · rename_i l hkey1 hkey
      have hge : 1000 ≤ key := Nat.le_of_ble_eq_true hkey1
      split at hk
      · rename_i g hs
        split at hk
        · rename_i p q hq
          obtain ⟨hp, hK⟩ := preK_of _ _ hk
          simp only [D] at hx
          obtain ⟨hdm, ho, hl, hlr, a, cap, rfl, hcap, hpl⟩ := hx
          simp only [InR] at hlr
          obtain ⟨vs, h1, h2, h3, h4⟩ := hm.segs hkey
          obtain ⟨pre, cs, post, e1, e2, e3, _, _⟩ := segAt_D l c vs g 0 h1 hs
          obtain ⟨a1, a2, a3, a4, a5⟩ := conSeg_sound hq e2 hp ho hl
          have heq : conCells q = (vs.drop (c + est * off.z.toNat)).take (est * len.z.toNat) := by
            rw [a4, e1, show c + est * off.z.toNat = pre.length + est * off.z.toNat by omega, drop_mid _ _ _ _ _ a5]
          have hra := rangeAt_part h3 (c + est * off.z.toNat) (est * len.z.toNat)
          rw [← heq] at hra
          have hcl := conCells_length a1
          have hth := h4 rfl
          rcases hpl with ⟨ha, hle⟩ | ⟨h0, hc0⟩
          · refine ⟨_, hK, a1, key, l, ({ blk := (ρ key).blk, off := (ρ key).off + (c + est * off.z.toNat), cap := est * cap } : Pl), a, cap, hge, hkey, by rw [a2], by omega, by omega, .inl ⟨by rw [ha]; simp [at_], by rw [a3]; exact Nat.le_refl _⟩, ?_, hra, ?_, fun hc => ⟨rfl, ?_⟩⟩
            · show (conCells q).length ≤ est * cap
              rw [hcl, a3, a2, Nat.mul_comm]; exact Nat.mul_le_mul_left _ hcap
            · intro j hj
              have hj' : j < est * cap := hj
              have := hth (c + est * off.z.toNat + j) (by omega)
              rw [show (ρ key).off + (c + est * off.z.toNat) + j = (ρ key).off + (c + est * off.z.toNat + j) by omega]
              exact this
            · have hc : 0 < est * cap := hc
              omega
          · have hz : conLen q = 0 := by rw [a2]; omega
            have hnil : conCells q = [] := List.eq_nil_of_length_eq_zero (by rw [hcl, hz]; simp)
            refine ⟨_, hK, a1, key, l, ({ blk := 0, off := 0, cap := 0 } : Pl), a, cap, hge, hkey, by rw [a2], by omega, by omega, .inr ⟨hz, hc0⟩, by rw [hnil]; simp, by rw [hnil]; exact rangeAt_nil _ _ _, there_zero _ _ _, fun hc => absurd hc (by simp)⟩
        · exact hk.elim
      · exact hk.elim
    · exact hk.elim
  · rename_i key
    split at hk
    · rename_i l hkey1 hkey
      simp only [D] at hx
      exact ⟨_, hk, key, Nat.le_of_ble_eq_true hkey1, hkey, hx.2⟩
    · exact hk.elim
  · exact ⟨_, hk, hx⟩

theorem canVs_sound {h : Heap} (hm : Mem w0 M ρ (assoc h) w) : ∀ (xs : List SV) (vs : List Value) (K : List RV → Prop), Ds (dmOf (assoc h)) ρ xs vs → canVs h xs K → ∃ rs, K rs ∧ RvsD (assoc h) ρ w rs vs ∧ rs.length = xs.length
  | [], vs, K, hx, hk => ⟨[], hk, hx, rfl⟩
  | x :: r, vs, K, hx, hk => by
    simp only [Ds] at hx
    obtain ⟨v, c, h1, rfl, h2⟩ := hx
    obtain ⟨y, q1, q2⟩ := canV_sound hm h1 hk
    obtain ⟨ys, q3, q4, q5⟩ := canVs_sound hm r c _ h2 q1
    exact ⟨y :: ys, q3, ⟨v, c, q2, rfl, q4⟩, by simp [q5]⟩

/-- What the callee's records hold at the end. -/
def FinH (H : Nat → Option SB) : Nat → List (Option (List Seg)) → Prop
  | _, [] => True
  | j, some l :: r => H j = some (.segs false l) ∧ FinH H (j + 1) r
  | j, none :: r => H j = some .gone ∧ FinH H (j + 1) r

theorem canF_sound {h : Heap} : ∀ (n j : Nat) (K : List (Option (List Seg)) → Prop), canF h j n K → ∃ fs, K fs ∧ FinH (assoc h) j fs ∧ fs.length = n
  | 0, j, K, hk => ⟨[], hk, trivial, rfl⟩
  | n + 1, j, K, hk => by
    simp only [canF] at hk
    split at hk
    · rename_i l hl
      obtain ⟨fs, q1, q2, q3⟩ := canF_sound n (j + 1) _ hk
      exact ⟨_, q1, ⟨hl, q2⟩, by simp [q3]⟩
    · rename_i hl
      obtain ⟨fs, q1, q2, q3⟩ := canF_sound n (j + 1) _ hk
      exact ⟨_, q1, ⟨hl, q2⟩, by simp [q3]⟩
    · exact hk.elim

/-- The answers, one value or more. -/
def RvsOf (H : Nat → Option SB) (ρ : Nat → Pl) (w : World) (rs : List RV) (v : Value) : Prop :=
  (∃ r, rs = [r] ∧ RvD H ρ w r v) ∨ (rs.length ≠ 1 ∧ ∃ vs, v = .tuple vs.toArray ∧ RvsD H ρ w rs vs)

theorem kvG_sound {h : Heap} (hm : Mem w0 M ρ (assoc h) w) {n : Nat} {x : SV} {v : Value} (hx : D (dmOf (assoc h)) ρ x v) {K : List RV → List (Option (List Seg)) → Prop} (hk : kvG n x h K) :
    ∃ rs fs, K rs fs ∧ RvsOf (assoc h) ρ w rs v ∧ FinH (assoc h) 600 fs ∧ fs.length = n := by
  unfold kvG at hk
  split at hk
  · rename_i xs
    split at hk
    · exact hk.elim
    · rename_i hn
      simp only [D] at hx
      obtain ⟨vs, h1, rfl⟩ := hx
      obtain ⟨rs, q1, q2, q3⟩ := canVs_sound hm xs vs _ h1 hk
      obtain ⟨fs, q4, q5, q6⟩ := canF_sound n 600 _ q1
      refine ⟨rs, fs, q4, .inr ⟨fun e => ?_, vs, rfl, q2⟩, q5, q6⟩
      rw [q3] at e
      rw [e] at hn
      exact absurd hn (by decide)
  · obtain ⟨r, q1, q2⟩ := canV_sound hm hx hk
    obtain ⟨fs, q4, q5, q6⟩ := canF_sound n 600 _ q1
    exact ⟨_, fs, q4, .inl ⟨r, rfl, q2⟩, q5, q6⟩

theorem eqCon_eq {a b : Con} (h : eqCon a b) : a = b := by
  cases a <;> cases b <;> simp only [eqCon] at h
  · rw [keq_eq h.1, h.2]
  · rw [keq_eq h.1, h.2.1, h.2.2]

/-- Where the fresh block among the answers lies. -/
def FreshAt (H : Nat → Option SB) (ρ : Nat → Pl) (w : World) (l : List Seg) (pl : Pl) : Prop :=
  ∃ vs, SegsD (fun _ => False) (fun _ => ({ blk := 0, off := 0, cap := 0 } : Pl)) l vs ∧ vs.length ≤ pl.cap ∧ w.rangeAt pl.blk pl.off vs ∧ w.there pl.blk pl.off pl.cap ∧
    (0 < pl.cap → ∃ key l', 1000 ≤ key ∧ H key = some (.segs false l') ∧ pl.blk = (ρ key).blk ∧ 0 < (ρ key).cap)

theorem res_one {h : Heap} (hm : Mem w0 M ρ (assoc h) w) {r r' : RV} {v : Value} (hr : RvD (assoc h) ρ w r v) (he : eqRV1 r r') :
    ∃ pl, (∀ l, frOf [r'] = some l → FreshAt (assoc h) ρ w l pl) ∧ ∀ (dm : Nat → Prop) (ρ' : Nat → Pl) (stamp : Nat), (frOf [r'] ≠ none → dm stamp ∧ ρ' stamp = pl) → D dm ρ' (resG stamp r') v := by
  cases r' with
  | v y =>
    refine ⟨({ blk := 0, off := 0, cap := 0 } : Pl), (fun l hl => by cases hl), fun dm ρ' stamp _ => ?_⟩
    cases r with
    | v x =>
      have he' : eqRV (.v x) (.v y) := by cases x <;> exact he
      exact eqV_D x y v he' hr
    | row q => exact (show eqRV (.row q) (.v y) from he).elim
    | ptr l => exact (show eqRV (.ptr l) (.v y) from he).elim
  | ptr l' =>
    cases r with
    | v x => have he' : eqRV (.v x) (.ptr l') := by cases x <;> exact he
             exact he'.elim
    | row q => exact (show eqRV (.row q) (.ptr l') from he).elim
    | ptr l =>
      have he' : eqSegs l l' := he
      obtain ⟨key, k1, k2, rfl⟩ := hr
      obtain ⟨cs, s1, s2, s3, s4⟩ := hm.segs k2
      refine ⟨ρ key, fun l0 hl => ?_, fun dm ρ' stamp hs => ?_⟩
      · simp only [frOf, Option.some.injEq] at hl
        subst hl
        exact ⟨cs, eqSegs_D l l' cs he' s1, s2, s3, s4 rfl, fun hc => ⟨key, l, k1, k2, rfl, hc⟩⟩
      · obtain ⟨q1, q2⟩ := hs (by simp [frOf])
        simp only [resG, D]
        exact ⟨q1, by rw [q2]⟩
  | row q' =>
    have main : ∀ q, conOk q → q = q' → (∃ key l pl ad cap, 1000 ≤ key ∧ assoc h key = some (.segs false l) ∧ v = .slice ad (conLen q) cap ∧ conLen q ≤ cap ∧ ((conLen q : Nat) : Int) < 9223372036854775808 ∧
      ((ad = some (at_ pl 0) ∧ conSize q * cap ≤ pl.cap) ∨ (conLen q = 0 ∧ cap = 0)) ∧ (conCells q).length ≤ pl.cap ∧ w.rangeAt pl.blk pl.off (conCells q) ∧ w.there pl.blk pl.off pl.cap ∧ (0 < pl.cap → pl.blk = (ρ key).blk ∧ 0 < (ρ key).cap)) →
        ∃ pl, (∀ l, frOf [RV.row q'] = some l → FreshAt (assoc h) ρ w l pl) ∧ ∀ (dm : Nat → Prop) (ρ' : Nat → Pl) (stamp : Nat), (frOf [RV.row q'] ≠ none → dm stamp ∧ ρ' stamp = pl) → D dm ρ' (resG stamp (.row q')) v := by
      rintro q hok rfl ⟨key, l, pl, ad, cap, k1, k2, rfl, k3, k4, k5, k6, k7, k8, k9⟩
      refine ⟨pl, fun l0 hl => ?_, fun dm ρ' stamp hs => ?_⟩
      · simp only [frOf, Option.some.injEq] at hl
        subst hl
        exact ⟨conCells q, segs_one (conRow_D hok), k6, k7, k8, fun hc => ⟨key, l, k1, k2, k9 hc⟩⟩
      · obtain ⟨q1, q2⟩ := hs (by simp [frOf])
        simp only [resG]
        exact sl_D q1 _ k4 k3 (by rw [q2]; exact k5)
    cases r with
    | v x =>
      cases x with
      | nsl =>
        obtain ⟨e1, e2⟩ := (show conLen q' = 0 ∧ conOk q' from he)
        have hv : v = .slice none 0 0 := hr
        subst hv
        have hnil : conCells q' = [] := List.eq_nil_of_length_eq_zero (by rw [conCells_length e2, e1]; simp)
        refine ⟨({ blk := 0, off := 0, cap := 0 } : Pl), fun l0 hl => ?_, fun dm ρ' stamp hs => ?_⟩
        · simp only [frOf, Option.some.injEq] at hl
          subst hl
          have := segs_one (conRow_D (ρ := fun _ => ({ blk := 0, off := 0, cap := 0 } : Pl)) (dm := fun _ => False) e2)
          rw [hnil] at this
          exact ⟨[], this, Nat.le_refl _, rangeAt_nil _ _ _, there_zero _ _ _, fun hc => absurd hc (by simp)⟩
        · obtain ⟨q1, q2⟩ := hs (by simp [frOf])
          simp only [resG]
          have := sl_D (es := conSize q') (a := none) (cap := 0) (ρ := ρ') q1 (conLen q') (by omega) (by omega) (.inr ⟨e1, rfl⟩)
          rwa [show (Value.slice none (conLen q') 0) = .slice none 0 0 by rw [e1]] at this
      | _ => simp [eqRV1, eqRV] at he
    | ptr l => exact (show eqRV (.ptr l) (.row q') from he).elim
    | row q => exact main q hr.1 (eqCon_eq (show eqCon q q' from he)) hr.2

theorem res_all {h : Heap} (hm : Mem w0 M ρ (assoc h) w) : ∀ (rs rs' : List RV) (vs : List Value), RvsD (assoc h) ρ w rs vs → eqRVs rs rs' → oneFr rs' = true →
    ∃ pl, (∀ l, frOf rs' = some l → FreshAt (assoc h) ρ w l pl) ∧ ∀ (dm : Nat → Prop) (ρ' : Nat → Pl) (stamp : Nat), (frOf rs' ≠ none → dm stamp ∧ ρ' stamp = pl) → Ds dm ρ' (resGs stamp rs') vs
  | [], [], vs, hr, he, ho => ⟨({ blk := 0, off := 0, cap := 0 } : Pl), (fun l hl => by cases hl), fun dm ρ' stamp _ => hr⟩
  | [], _ :: _, vs, hr, he, ho => he.elim
  | _ :: _, [], vs, hr, he, ho => he.elim
  | r :: t, r' :: t', vs, hr, he, ho => by
    obtain ⟨v, c, h1, rfl, h2⟩ := hr
    obtain ⟨pl, a1, a2⟩ := res_one hm h1 he.1
    cases hf : frOf [r'] with
    | none =>
      have hff : frOf (r' :: t') = frOf t' := by cases r' <;> simp [frOf] at hf ⊢
      have ho' : oneFr t' = true := by cases r' <;> simp [frOf] at hf; exact ho
      obtain ⟨pl2, b1, b2⟩ := res_all hm t t' c h2 he.2 ho'
      refine ⟨pl2, fun l hl => b1 l (by rw [← hff]; exact hl), fun dm ρ' stamp hs => ?_⟩
      exact ⟨v, _, a2 dm ρ' stamp (fun h => absurd hf h), rfl, b2 dm ρ' stamp (fun h => hs (by rw [hff]; exact h))⟩
    | some l0 =>
      have hft : frOf t' = none := by
        cases r' with
        | v x => simp [frOf] at hf
        | row q => simp only [oneFr] at ho; split at ho <;> simp_all
        | ptr l => simp only [oneFr] at ho; split at ho <;> simp_all
      have ho' : oneFr t' = true := by
        have : ∀ t : List RV, frOf t = none → oneFr t = true := by
          intro t
          induction t with
          | nil => intro _; rfl
          | cons x r ih => intro hh; cases x <;> simp [frOf] at hh; exact ih hh
        exact this t' hft
      have hff : frOf (r' :: t') = frOf [r'] := by cases r' <;> simp [frOf] at hf ⊢
      obtain ⟨pl2, b1, b2⟩ := res_all hm t t' c h2 he.2 ho'
      refine ⟨pl, fun l hl => a1 l (by rw [← hff]; exact hl), fun dm ρ' stamp hs => ?_⟩
      have hs' := hs (by rw [hff, hf]; simp)
      exact ⟨v, _, a2 dm ρ' stamp (fun _ => hs'), rfl, b2 dm ρ' stamp (fun h => absurd hft h)⟩

theorem res_of {h : Heap} (hm : Mem w0 M ρ (assoc h) w) {rs rs' : List RV} {v : Value} (hr : RvsOf (assoc h) ρ w rs v) (he : eqRVs rs rs') (ho : oneFr rs' = true) :
    ∃ pl, (∀ l, frOf rs' = some l → FreshAt (assoc h) ρ w l pl) ∧ ∀ (dm : Nat → Prop) (ρ' : Nat → Pl) (stamp : Nat), (frOf rs' ≠ none → dm stamp ∧ ρ' stamp = pl) → D dm ρ' (resOf stamp rs') v := by
  have hlen : ∀ (a b : List RV), eqRVs a b → a.length = b.length := by
    intro a
    induction a with
    | nil => intro b hb; cases b <;> simp [eqRVs] at hb ⊢
    | cons x r ih => intro b hb; cases b <;> simp [eqRVs] at hb ⊢; exact ih _ hb.2
  rcases hr with ⟨r, rfl, h1⟩ | ⟨hn, vs, rfl, h1⟩
  · match rs', he with
    | [r'], he =>
      obtain ⟨pl, a1, a2⟩ := res_one hm h1 he.1
      exact ⟨pl, a1, fun dm ρ' stamp hs => a2 dm ρ' stamp hs⟩
  · obtain ⟨pl, a1, a2⟩ := res_all hm rs rs' vs h1 he ho
    refine ⟨pl, a1, fun dm ρ' stamp hs => ?_⟩
    have e : resOf stamp rs' = .tup (resGs stamp rs') := by
      match rs', hlen rs rs' he with
      | [], _ => rfl
      | [r'], hl => exact absurd hl hn
      | _ :: _ :: _, _ => rfl
    rw [e]
    simp only [D]
    exact ⟨vs, a2 dm ρ' stamp hs, rfl⟩

theorem nodupN_iff : ∀ {l : List Nat}, nodupN l = true → l.Nodup
  | [], _ => List.nodup_nil
  | x :: r, h => by
    simp only [nodupN] at h
    split at h
    · cases h
    · rename_i e
      refine List.nodup_cons.2 ⟨fun hx => ?_, nodupN_iff h⟩
      rw [memN_iff.2 hx] at e; cases e

def finB : Option (List Seg) → SB
  | some l => .segs false l
  | none => .gone

theorem finW_len : ∀ {ks : List Nat} {fin : List (Option (List Seg))} {ws : List (Nat × SB)}, finW ks fin = some ws → fin.length = ks.length
  | [], [], ws, h => rfl
  | [], _ :: _, ws, h => by simp [finW] at h
  | _ :: _, [], ws, h => by simp [finW] at h
  | k :: ks, some l :: r, ws, h => by
    simp only [finW] at h
    split at h
    · rename_i ws' e; simp [finW_len e]
    · cases h
  | k :: ks, none :: r, ws, h => by
    simp only [finW] at h
    split at h
    · rename_i ws' e; simp [finW_len e]
    · cases h

theorem finW_upd : ∀ {ks : List Nat} {fin : List (Option (List Seg))} {ws : List (Nat × SB)}, finW ks fin = some ws → ks.Nodup → ∀ (H : Nat → Option SB),
    (∀ k, k ∉ ks → updsH H ws k = H k) ∧ ∀ i, i < ks.length → updsH H ws (ks.getD i 0) = some (finB (fin.getD i none))
  | [], [], ws, h, hn, H => by
    simp only [finW, Option.some.injEq] at h; subst h
    exact ⟨fun k _ => rfl, fun i hi => by simp at hi⟩
  | [], _ :: _, ws, h, _, _ => by simp [finW] at h
  | _ :: _, [], ws, h, _, _ => by simp [finW] at h
  | k :: ks, b :: r, ws, h, hn, H => by
    have hh : ∃ ws', finW ks r = some ws' ∧ ws = (k, finB b) :: ws' := by
      cases b <;> simp only [finW] at h <;> split at h
      · rename_i ws' e; exact ⟨ws', e, (Option.some.inj h).symm⟩
      · cases h
      · rename_i ws' e; exact ⟨ws', e, (Option.some.inj h).symm⟩
      · cases h
    obtain ⟨ws', e, rfl⟩ := hh
    obtain ⟨hk, hn'⟩ := List.nodup_cons.1 hn
    obtain ⟨q1, q2⟩ := finW_upd e hn' (updH H k (finB b))
    refine ⟨fun k' hk' => ?_, fun i hi => ?_⟩
    · simp only [List.mem_cons, not_or] at hk'
      show updsH (updH H k (finB b)) ws' k' = H k'
      rw [q1 k' hk'.2, updH_ne hk'.1]
    · show updsH (updH H k (finB b)) ws' _ = _
      cases i with
      | zero =>
        simp only [List.getD_cons_zero]
        rw [q1 k hk, updH_same]
      | succ i =>
        simp only [List.getD_cons_succ]
        exact q2 i (by simpa using hi)

theorem finH_at {H : Nat → Option SB} : ∀ (fs : List (Option (List Seg))) (j i : Nat), FinH H j fs → i < fs.length → H (j + i) = some (finB (fs.getD i none))
  | some l :: r, j, 0, h, hi => h.1
  | none :: r, j, 0, h, hi => h.1
  | some l :: r, j, i + 1, h, hi => by
    have := finH_at r (j + 1) i h.2 (by simpa using hi)
    rw [show j + (i + 1) = j + 1 + i by omega]; simpa using this
  | none :: r, j, i + 1, h, hi => by
    have := finH_at r (j + 1) i h.2 (by simpa using hi)
    rw [show j + (i + 1) = j + 1 + i by omega]; simpa using this

theorem eqFin_at : ∀ (fs fs' : List (Option (List Seg))) (i : Nat), eqFin fs fs' → ∀ l', fs'.getD i none = some l' → ∃ l, fs.getD i none = some l ∧ eqSegs l l'
  | [], [], i, h, l', hl => by simp at hl
  | [], _ :: _, i, h, l', hl => h.elim
  | _ :: _, [], i, h, l', hl => h.elim
  | x :: r, y :: t, 0, h, l', hl => by
    simp only [List.getD_cons_zero] at hl ⊢
    subst hl
    cases x with
    | none => exact h.1.elim
    | some l => exact ⟨l, rfl, h.1⟩
  | x :: r, y :: t, i + 1, h, l', hl => by
    simp only [List.getD_cons_succ] at hl ⊢
    exact eqFin_at r t i h.2 l' hl

end
end Go.Gx

/- Contracts in general: the theorem. -/
namespace Go.Gx
open Go.RowKit
set_option linter.unusedVariables false

section
variable {P : Program} {Γ : Tab}

/-- What a general contract has read. -/
theorem genCtr_run {H : Nat → Option SB} {ms : List Md} {spec : List AV → Option (List Prop × List RV × List (Option (List Seg)))} {stamp : Nat} {args : List SV} {rs rs' : List Nat} {d : Delta} (h : (genCtr ms spec stamp args).run H rs = some (d, rs')) :
    nodupN (ownKeys ms args) = true ∧ ∃ f : List Prop → List AV → RP Delta, (getA (ownKeys ms args) ms args f).run H rs = some (d, rs') ∧ ∀ p avs rs1, (f p avs).run H rs1 = some (d, rs') →
      ∃ p' rvs fin ws, spec avs = some (p', rvs, fin) ∧ finW (ownKeys ms args) fin = some ws ∧ (oneFr rvs && Nat.ble fin.length 100) = true ∧
        ((frOf rvs = none ∧ d = ⟨p ++ p', resOf stamp rvs, ws, true⟩) ∨ ∃ l, frOf rvs = some l ∧ H stamp = none ∧ d = ⟨p ++ p', resOf stamp rvs, (stamp, .segs false l) :: ws, true⟩) := by
  unfold genCtr at h
  simp only at h
  split at h
  · rename_i hn
    refine ⟨hn, _, h, fun p avs rs1 h1 => ?_⟩
    split at h1
    · rename_i p' rvs fin hs
      split at h1
      · rename_i ws hws ho
        split at h1
        · rename_i hf
          exact ⟨p', rvs, fin, ws, hs, hws, ho, .inl ⟨hf, run_ret h1⟩⟩
        · rename_i l hf
          simp only [RP.run] at h1
          split at h1
          · rename_i hst
            exact ⟨p', rvs, fin, ws, hs, hws, ho, .inr ⟨l, hf, hst, run_ret h1⟩⟩
          · simp [RP.run] at h1
      · simp [RP.run] at h1
    · simp [RP.run] at h1
  · simp [RP.run] at h

/-- The callee's heap. -/
theorem gen_mem {w0 : World} {M : Nat → Prop} {ρ : Nat → Pl} {H : Nat → Option SB} {w : World} (hG : Glob Γ.gh w0 M) (hgl : Γ.gl = keysOf Γ.gh) (hlow : ∀ g ∈ keysOf Γ.gh, g < 490) (hm : Mem w0 M ρ H w) {ks : List Nat} (hks : ∀ k ∈ ks, ∃ l, H k = some (.segs false l)) (hnd : ks.Nodup)
    {M' : Nat → Prop} (hM' : ∀ b, M' b ↔ ∃ k ∈ ks, 0 < (ρ k).cap ∧ b = (ρ k).blk) {h6 : Heap}
    (h1 : ∀ k b, assoc h6 k = some b → ∃ i, k = 600 + i ∧ i < ks.length ∧ ∃ l l', b = .segs false l' ∧ H (ks.getD i 0) = some (.segs false l) ∧ ∀ (dm : Nat → Prop) (ρ' : Nat → Pl) (cs : List Value), SegsD (dmOf H) ρ l cs → SegsD dm ρ' l' cs)
    (h2 : ∀ i, i < ks.length → (assoc h6 (600 + i)).isSome = true) :
    ∃ ρ1 : Nat → Pl, Mem w M' ρ1 (assoc (Γ.gh ++ (490, .world) :: h6)) w ∧ GlOk Γ w M' ρ1 (assoc (Γ.gh ++ (490, .world) :: h6)) ∧ dmOf (assoc (Γ.gh ++ (490, .world) :: h6)) 490 ∧ (ρ1 490).rel = RoD w (OutB w M') ∧
      ∀ i, i < ks.length → dmOf (assoc (Γ.gh ++ (490, .world) :: h6)) (600 + i) ∧ ρ1 (600 + i) = ρ (ks.getD i 0) := by
  obtain ⟨ρg, g1, g2, g3⟩ := mem_of_glob hG hm
  have hMo : ∀ b, M' b → w0.heap.size ≤ b ∨ M b := fun b hb => by
    obtain ⟨k, hk, hc, rfl⟩ := (hM' b).1 hb
    obtain ⟨l, hl⟩ := hks k hk
    exact hm.own k l hl hc
  have hne : ∀ g b, (g, b) ∈ Γ.gh → ¬ M' g := fun g b hgb hb => by
    obtain ⟨_, _, _, _, _, q1, q2⟩ := hG g b hgb
    rcases hMo g hb with hh | hh
    · omega
    · exact q1 hh
  have hlow : ∀ k b, assoc Γ.gh k = some b → k < 490 := fun k b hb => hlow k (keysOf_of_dm (by unfold dmOf; rw [hb]; rfl))
  have hro : ∀ k b, assoc Γ.gh k = some b → ∃ l, b = .segs true l := fun k b hb => by
    obtain ⟨l, _, e, _⟩ := g2 k b (assoc_mem hb); exact ⟨l, e⟩
  let HH : Heap := Γ.gh ++ (490, .world) :: h6
  have hat : ∀ k b, assoc HH k = some b → (k < 490 ∧ assoc Γ.gh k = some b) ∨ (k = 490 ∧ b = .world) ∨ (600 ≤ k ∧ assoc h6 k = some b) := fun k b hb => by
    have hb : assoc (Γ.gh ++ (490, .world) :: h6) k = some b := hb
    rw [assoc_app] at hb
    split at hb
    · rename_i x hx
      rw [hb] at hx
      exact .inl ⟨hlow k b hx, hx⟩
    · simp only [assoc] at hb
      split at hb
      · rename_i e
        simp only [Option.some.injEq] at hb
        exact .inr (.inl ⟨(Nat.eq_of_beq_eq_true e).symm, hb.symm⟩)
      · obtain ⟨i, rfl, _⟩ := h1 k b hb
        exact .inr (.inr ⟨by omega, hb⟩)
  have hup : ∀ k b, assoc Γ.gh k = some b → assoc HH k = some b := fun k b hb => by
    show assoc (Γ.gh ++ (490, .world) :: h6) k = _
    rw [assoc_app, hb]
  have hnlow : ∀ k, 490 ≤ k → assoc Γ.gh k = none := fun k hk => by
    cases e : assoc Γ.gh k with
    | none => rfl
    | some b => have := hlow k b e; omega
  have h490 : assoc HH 490 = some .world := by
    show assoc (Γ.gh ++ (490, .world) :: h6) 490 = _
    rw [assoc_app, hnlow 490 (Nat.le_refl _)]
    simp [assoc]
  have hup6 : ∀ k, 600 ≤ k → assoc HH k = assoc h6 k := fun k hk => by
    show assoc (Γ.gh ++ (490, .world) :: h6) k = _
    rw [assoc_app, hnlow k (by omega)]
    have : Nat.beq 490 k = false := by
      cases hb : Nat.beq 490 k with
      | false => rfl
      | true => have := Nat.eq_of_beq_eq_true hb; omega
    simp only [assoc, this]
  let ρ1 : Nat → Pl := fun k => if k < 490 then ρg k else if k < 600 then { blk := 0, off := 0, cap := 0, rel := RoD w (OutB w M') } else ρ (ks.getD (k - 600) 0)
  have hρg : ∀ k, k < 490 → ρ1 k = ρg k := fun k hk => by simp [ρ1, hk]
  have hρ6 : ∀ i, ρ1 (600 + i) = ρ (ks.getD i 0) := fun i => by
    have h1 : ¬ (600 + i < 490) := by omega
    have h2 : ¬ (600 + i < 600) := by omega
    simp only [ρ1, h1, h2, if_false]
    rw [Nat.add_sub_cancel_left]
  have hmk : ∀ i, i < ks.length → ks.getD i 0 ∈ ks := fun i hi => by
    rw [List.getD_eq_getElem?_getD, List.getElem?_eq_getElem hi]
    exact List.getElem_mem hi
  have hinj : ∀ i i', i < ks.length → i' < ks.length → i ≠ i' → ks.getD i 0 ≠ ks.getD i' 0 := fun i i' hi hi' hne e => by
    rw [List.getD_eq_getElem?_getD, List.getD_eq_getElem?_getD, List.getElem?_eq_getElem hi, List.getElem?_eq_getElem hi'] at e
    have e : ks[i] = ks[i'] := e
    rcases Nat.lt_or_gt_of_ne hne with h | h
    · exact List.pairwise_iff_getElem.1 hnd i i' hi hi' h e
    · exact List.pairwise_iff_getElem.1 hnd i' i hi' hi h e.symm
  refine ⟨ρ1, ⟨⟨fun k b hb => ?_, fun k k' ro ro' l1 l2 e1 e2 hkk hr c1 c2 => ?_, fun k ro l1 e1 c1 => ?_⟩, FrameW.refl _ _, fun k l1 e1 c1 => ?_, fun k e1 => ?_, fun k l1 e1 c1 => ?_, .none (fun k kd ms e1 => by
      rcases hat k _ e1 with ⟨_, h⟩ | ⟨_, h⟩ | ⟨_, h⟩
      · obtain ⟨_, e⟩ := hro k _ h; cases e
      · cases h
      · obtain ⟨i, _, h⟩ := h1 k _ h
        obtain ⟨_, _, _, e, _⟩ := h
        cases e)⟩, ⟨fun g hg => ?_, fun g b hgb => ?_⟩, by unfold dmOf; rw [h490]; rfl, by simp [ρ1], fun i hi => ⟨?_, hρ6 i⟩⟩
  · rcases hat k b hb with ⟨hk, hb'⟩ | ⟨rfl, rfl⟩ | ⟨hk, hb'⟩
    · refine (g1.heap.blk k b hb').of_block (fun j hj => ?_) (fun j hj => ?_) (hρg k hk) (fun _ _ _ _ => rfl)
      · unfold dmOf at hj ⊢
        obtain ⟨b', hb''⟩ := Option.isSome_iff_exists.1 hj
        rw [hup j b' hb'']; rfl
      · unfold dmOf at hj
        obtain ⟨b', hb''⟩ := Option.isSome_iff_exists.1 hj
        exact .of_eq (hρg j (hlow j b' hb''))
    · trivial
    · obtain ⟨i, rfl, hi, l, l', rfl, hl, hd⟩ := h1 k b hb'
      obtain ⟨cs, hcs, hcl, hra, hth⟩ := hm.heap.blk _ _ hl
      exact ⟨cs, hd _ _ cs hcs, by rw [hρ6]; exact hcl, by rw [hρ6]; exact hra, fun _ => by rw [hρ6]; exact hth rfl⟩
  · have hk0 : ∀ a b lx, assoc HH a = some (.segs b lx) → 0 < (ρ1 a).cap → (a < 490 ∧ b = true ∧ ¬ M' (ρ1 a).blk) ∨ (∃ i, a = 600 + i ∧ i < ks.length ∧ M' (ρ1 a).blk) := fun a b lx ha hca => by
      rcases hat a _ ha with ⟨ha1, ha'⟩ | ⟨_, ha'⟩ | ⟨ha1, ha'⟩
      · obtain ⟨lz, ez⟩ := hro a _ ha'
        simp only [SB.segs.injEq] at ez
        exact .inl ⟨ha1, ez.1, by rw [hρg a ha1, (g3 a).1]; exact hne a _ (assoc_mem ha')⟩
      · cases ha'
      · obtain ⟨i, rfl, hi, l, l', e, hl, hd⟩ := h1 a _ ha'
        exact .inr ⟨i, rfl, hi, (hM' _).2 ⟨ks.getD i 0, hmk i hi, by rw [hρ6] at hca; exact hca, by rw [hρ6]⟩⟩
    rcases hk0 k ro l1 e1 c1 with ⟨a1, a2, a3⟩ | ⟨i, rfl, hi, a3⟩
    · rcases hk0 k' ro' l2 e2 c2 with ⟨b1, b2, b3⟩ | ⟨i', rfl, hi', b3⟩
      · rw [a2, b2] at hr; rcases hr with hr | hr <;> cases hr
      · intro e; rw [e] at a3; exact a3 b3
    · rcases hk0 k' ro' l2 e2 c2 with ⟨b1, b2, b3⟩ | ⟨i', rfl, hi', b3⟩
      · intro e; rw [e] at a3; exact b3 a3
      · rw [hρ6] at c1 ⊢
        rw [hρ6] at c2 ⊢
        obtain ⟨l, hl⟩ := hks _ (hmk i hi)
        obtain ⟨l', hl'⟩ := hks _ (hmk i' hi')
        exact hm.heap.sep _ _ false false l l' hl hl' (hinj i i' hi hi' (fun e => hkk (by rw [e]))) (.inl rfl) c1 c2
  · rcases hat k _ e1 with ⟨h1', h1''⟩ | ⟨_, h1'⟩ | ⟨hk, h1'⟩
    · rw [hρg k h1'] at c1 ⊢; exact g1.heap.lt k ro l1 h1'' c1
    · cases h1'
    · obtain ⟨i, rfl, hi, l, l', e, hl, hd⟩ := h1 k _ h1'
      rw [hρ6] at c1 ⊢
      exact hm.heap.lt _ _ _ hl c1
  · rcases hat k _ e1 with ⟨h1', h1''⟩ | ⟨_, h1'⟩ | ⟨hk, h1'⟩
    · obtain ⟨lz, ez⟩ := hro k _ h1''
      simp only [SB.segs.injEq] at ez
      cases ez.1
    · cases h1'
    · obtain ⟨i, rfl, hi, l, l', e, hl, hd⟩ := h1 k _ h1'
      exact .inr ((hM' _).2 ⟨ks.getD i 0, hmk i hi, by rw [hρ6] at c1; exact c1, by rw [hρ6]⟩)
  · rcases hat k _ e1 with ⟨h1', h1''⟩ | ⟨rfl, _⟩ | ⟨hk, h1'⟩
    · obtain ⟨lz, ez⟩ := hro k _ h1''; cases ez
    · simp [ρ1]
    · obtain ⟨i, rfl, hi, l, l', e, hl, hd⟩ := h1 k _ h1'; cases e
  · rcases hat k _ e1 with ⟨h1', h1''⟩ | ⟨_, h1'⟩ | ⟨hk, h1'⟩
    · obtain ⟨lz, ez⟩ := hro k _ h1''
      simp only [SB.segs.injEq] at ez
      cases ez.1
    · cases h1'
    · obtain ⟨i, rfl, hi, l, l', e, hl, hd⟩ := h1 k _ h1'
      rw [hρ6] at c1 ⊢
      exact hm.clean _ _ hl c1
  · have hdm : dmOf (assoc Γ.gh) g := assoc_dm (by rw [← hgl]; exact hg)
    unfold dmOf at hdm
    obtain ⟨b', hb''⟩ := Option.isSome_iff_exists.1 hdm
    refine ⟨by unfold dmOf; rw [hup g b' hb'']; rfl, ?_, ?_⟩
    · rw [hρg g (hlow g b' hb'')]; exact (g3 g).1
    · rw [hρg g (hlow g b' hb'')]; exact (g3 g).2
  · obtain ⟨lz, vz, q0, q1, q2, _, q4⟩ := g2 g b hgb
    exact ⟨lz, vz, q0, q1, q2, hne g b hgb, q4⟩
  · unfold dmOf
    rw [hup6 _ (by omega)]
    exact h2 i hi

/-- The contract of a function that the evaluator has run. -/
theorem call_gen (hΓ : TabOk P Γ) (hgl : Γ.gl = keysOf Γ.gh) (hlow : ∀ g ∈ keysOf Γ.gh, g < 490) {f : FuncId} {fn : Func} (hf : P.funcs[f]? = some fn) (hn : (fn.name == "runtime.NumGoroutine") = false) (hb : fn.body.isNone = false)
    (ms : List Md) (spec : List AV → Option (List Prop × List RV × List (Option (List Seg))))
    (h : ∀ avs p rvs fin, spec avs = some (p, rvs, fin) → AllP p → FactA avs → ∃ args' h6 L inv, okA 600 avs args' h6 ∧ args'.length ≤ fn.ntmps ∧ VcG fin.length Γ fn L (Γ.gh ++ (490, .world) :: h6) args' (fun rvs' fin' => eqRVs rvs' rvs ∧ eqFin fin' fin) inv) : CallOk P Γ.gh f (genCtr ms spec) := by
  intro stamp args H rs rs' d vs w0 M ρ w hG hc hp hD hm
  obtain ⟨hnd0, f0, hget, hf0⟩ := genCtr_run hc
  have hnd := nodupN_iff hnd0
  generalize hks : ownKeys ms args = ks at *
  let M' : Nat → Prop := fun b => ∃ k ∈ ks, (∃ l, H k = some (.segs false l)) ∧ 0 < (ρ k).cap ∧ b = (ρ k).blk
  have hB : BanOk w0 M ρ H ks M' := ⟨fun key ro l hban hkey hc hb => by
    obtain ⟨k, hk, ⟨l', hl'⟩, hc', e⟩ := hb
    have hne : key ≠ k := fun e => by subst e; rw [memN_iff.2 hk] at hban; cases hban
    exact hm.heap.sep key k ro false l l' hkey hl' hne (.inr rfl) hc hc' e, fun b hb hnM hb' => by
    obtain ⟨k, hk, ⟨l', hl'⟩, hc', rfl⟩ := hb'
    rcases hm.own k l' hl' hc' with h | h
    · omega
    · exact hnM h, fun key k ms i hkey hi hc hb => by
    obtain ⟨k0, hk0, ⟨l', hl'⟩, hc', e⟩ := hb
    exact hm.pools.apart key k ms k0 false l' i hkey hl' hc' hi hc e.symm⟩
  obtain ⟨p, avs, rs1, hrun, hAs⟩ := getA_sound P hm hB ms args vs f0 d rs rs' hD hget
  obtain ⟨p', rvs, fin, ws, hs, hws, ho, hcase⟩ := hf0 p avs rs1 hrun
  simp only [Bool.and_eq_true] at ho
  have hsmall := Nat.le_of_ble_eq_true ho.2
  have ho := ho.1
  have hpp : AllP p ∧ AllP p' := by
    rcases hcase with ⟨_, rfl⟩ | ⟨l, _, _, rfl⟩ <;> exact AllP.append (l := p) (r := p') hp
  have hA := hAs hpp.1
  rw [hks] at hA
  have hkeys := AsD.keys avs vs ks hA
  obtain ⟨args', h6, L, inv, k1, k2, k3⟩ := h avs p' rvs fin hs hpp.2 (AsD.fact hm avs vs ks hA)
  have hM'' : ∀ b, M' b ↔ ∃ k ∈ ks, 0 < (ρ k).cap ∧ b = (ρ k).blk := fun b => ⟨fun ⟨k, a, _, c⟩ => ⟨k, a, c⟩, fun ⟨k, a, c⟩ => ⟨k, a, hkeys k a, c⟩⟩
  obtain ⟨hh1, hh2⟩ := okA_heap avs vs ks 600 args' h6 hA k1
  obtain ⟨ρ1, m1, m2, m3, m4, m5⟩ := gen_mem hG hgl hlow hm hkeys hnd hM'' hh1 hh2
  have hargs := okA_args m3 m4 avs vs ks 600 args' h6 hA k1 m5
  refine .inr ⟨f, _, GoFn.run ⟨fn, hf, hn, hb⟩ _ _, (vcG_calls hΓ hf k3 k2 m2 m1 hargs).mono fun e w' he => ?_⟩
  obtain ⟨x, v, h', ρ', rfl, r1, r2, r3, r4⟩ := he
  obtain ⟨rvs', fin', ⟨t1, t2⟩, t3, t4, t5⟩ := kvG_sound r3 r2 r1
  obtain ⟨pl, u1, u2⟩ := res_of r3 t3 t1 ho
  have hfl := finW_len hws
  obtain ⟨up1, up2⟩ := finW_upd hws hnd H
  have hρ6 : ∀ i, i < ks.length → PlLe (ρ (ks.getD i 0)) (ρ' (600 + i)) := fun i hi => by
    have := (r4 _ (m5 i hi).1).2
    rwa [(m5 i hi).2] at this
  have hmk : ∀ i, i < ks.length → ks.getD i 0 ∈ ks := fun i hi => by
    rw [List.getD_eq_getElem?_getD, List.getElem?_eq_getElem hi]
    exact List.getElem_mem hi
  have hidx : ∀ k ∈ ks, ∃ i, i < ks.length ∧ ks.getD i 0 = k := fun k hk => by
    obtain ⟨i, hi, e⟩ := List.getElem_of_mem hk
    exact ⟨i, hi, by rw [List.getD_eq_getElem?_getD, List.getElem?_eq_getElem hi]; exact e⟩
  have hMo : ∀ b, M' b → w0.heap.size ≤ b ∨ M b := fun b hb => by
    obtain ⟨k, hk, ⟨l, hl⟩, hc, rfl⟩ := hb
    exact hm.own k l hl hc
  -- the records, at the end
  have hrec : ∀ i, i < ks.length → ∀ l', fin.getD i none = some l' → ∃ l, assoc h' (600 + i) = some (.segs false l) ∧ eqSegs l l' := fun i hi l' hl' => by
    obtain ⟨l, q1, q2⟩ := eqFin_at fin' fin i t2 l' hl'
    have := finH_at fin' 600 i t4 (by omega)
    rw [q1] at this
    exact ⟨l, this, q2⟩
  have main : ∀ (T : Nat → Prop) (H' : Nat → Option SB) (ρ'' : Nat → Pl), (∀ k, T k ↔ k ∈ ks ∨ (k = stamp ∧ frOf rvs ≠ none)) → (frOf rvs ≠ none → H stamp = none) → (∀ k, k ∉ ks → k ≠ stamp → H' k = H k) → (frOf rvs = none → ∀ k, k ∉ ks → H' k = H k) →
      (∀ i, i < ks.length → H' (ks.getD i 0) = some (finB (fin.getD i none))) → (∀ l, frOf rvs = some l → H' stamp = some (.segs false l)) → (∀ k, k ≠ stamp → ρ'' k = ρ k) → (frOf rvs = none → ρ'' = ρ) → (frOf rvs ≠ none → ρ'' stamp = pl) → Mem w0 M ρ'' H' w' := by
    intro T H' ρ'' hTd hst hk1 hk2 hk3 hk4 hr1 hr2 hr3
    have hstk : frOf rvs ≠ none → stamp ∉ ks := fun hne hmem => by
      obtain ⟨l, hl⟩ := hkeys stamp hmem
      rw [hst hne] at hl; cases hl
    have hρk : ∀ k ∈ ks, ρ'' k = ρ k := fun k hk => by
      by_cases e : frOf rvs = none
      · rw [hr2 e]
      · exact hr1 k fun e' => hstk e (e' ▸ hk)
    refine Mem.merge hm r3.frame (T := T) (fun k hk => ?_) (fun k hk => ?_) (fun k hk => ?_) hMo (fun k ro l hk hkk hc hb => ?_) (fun k b hk hkb => ?_) (fun k kd ms hk e => by
      rcases (hTd k).1 hk with h | ⟨h, h2⟩
      · obtain ⟨i, hi, rfl⟩ := hidx k h
        rw [hk3 i hi] at e
        cases hfi : fin.getD i none <;> rw [hfi] at e <;> cases e
      · subst h
        cases hfr : frOf rvs with
        | none => exact h2 hfr
        | some l => rw [hk4 l hfr] at e; cases e) (fun k kd ms i hk hi h0 hb => by
      obtain ⟨k0, hk0, ⟨l0, hl0⟩, hc0, e⟩ := hb
      exact hm.pools.apart k kd ms k0 false l0 i hk hl0 hc0 hi h0 e.symm) (fun k k' l l' t1 t2 hkk e1 e2 c1 c2 => ?_)
    · have hk := fun h => hk ((hTd k).2 h)
      by_cases e : frOf rvs = none
      · exact hk2 e k fun h => hk (.inl h)
      · exact hk1 k (fun h => hk (.inl h)) fun h => hk (.inr ⟨h, e⟩)
    · by_cases e : frOf rvs = none
      · rw [hr2 e]
      · refine hr1 k fun e' => ?_
        subst e'
        unfold dmOf at hk
        rw [hst e] at hk; cases hk
    · by_cases e : k ∈ ks
      · obtain ⟨i, hi, rfl⟩ := hidx k e
        unfold dmOf; rw [hk3 i hi]; rfl
      · by_cases e' : k = stamp
        · by_cases e2 : frOf rvs = none
          · unfold dmOf at hk ⊢; rw [hk2 e2 k e]; exact hk
          · subst e'
            unfold dmOf at hk
            rw [hst e2] at hk; cases hk
        · unfold dmOf at hk ⊢; rw [hk1 k e e']; exact hk
    · obtain ⟨k0, hk0, ⟨l0, hl0⟩, hc0, e⟩ := hb
      have hne : k ≠ k0 := fun e => hk ((hTd k).2 (.inl (e ▸ hk0)))
      exact hm.heap.sep k k0 ro false l l0 hkk hl0 hne (.inr rfl) hc hc0 e
    · rcases (hTd k).1 hk with hk | ⟨rfl, hne⟩
      · obtain ⟨i, hi, rfl⟩ := hidx k hk
        rw [hk3 i hi] at hkb
        simp only [Option.some.injEq] at hkb
        subst hkb
        cases hfi : fin.getD i none with
        | none => exact ⟨⟨by simp [finB], fun _ _ => by simp [finB]⟩, fun ro l e => by cases e⟩
        | some l' =>
          refine ⟨⟨by simp [finB], fun _ _ => by simp [finB]⟩, fun ro l e => ?_⟩
          simp only [finB, SB.segs.injEq] at e
          obtain ⟨rfl, rfl⟩ := e
          obtain ⟨l1, q1, q2⟩ := hrec i hi l' hfi
          obtain ⟨cs, s1, s2, s3, s4⟩ := r3.segs q1
          rw [hρk _ hk, ← (hρ6 i hi).blk, ← (hρ6 i hi).off, ← (hρ6 i hi).cap]
          refine ⟨rfl, ⟨cs, eqSegs_D l1 l' cs q2 s1, s2, s3, s4 rfl⟩, fun hc => ⟨r3.heap.lt _ _ _ q1 hc, ?_, r3.clean _ _ q1 hc⟩⟩
          exact r3.own _ _ q1 hc
      · cases hfr : frOf rvs with
        | none => exact absurd hfr hne
        | some l0 =>
          rw [hk4 l0 hfr] at hkb
          simp only [Option.some.injEq] at hkb
          subst hkb
          refine ⟨⟨by simp, fun _ _ => by simp⟩, fun ro l e => ?_⟩
          simp only [SB.segs.injEq] at e
          obtain ⟨rfl, rfl⟩ := e
          obtain ⟨cs, s1, s2, s3, s4, s5⟩ := u1 l0 hfr
          rw [hr3 hne]
          refine ⟨rfl, ⟨cs, s1, s2, s3, s4⟩, fun hc => ?_⟩
          obtain ⟨key, lk, z1, z2, z3, z4⟩ := s5 hc
          rw [z3]
          exact ⟨r3.heap.lt key _ _ z2 z4, r3.own key _ z2 z4, r3.clean key _ z2 z4⟩
    · have hone : ∀ k l, k ∈ ks → H' k = some (.segs false l) → 0 < (ρ'' k).cap → ∃ i, i < ks.length ∧ ks.getD i 0 = k ∧ ∃ l1, assoc h' (600 + i) = some (.segs false l1) ∧ (ρ'' k).blk = (ρ' (600 + i)).blk ∧ (ρ'' k).cap = (ρ' (600 + i)).cap := fun k l hk e c => by
        obtain ⟨i, hi, rfl⟩ := hidx k hk
        rw [hk3 i hi] at e
        simp only [Option.some.injEq] at e
        cases hfi : fin.getD i none with
        | none => rw [hfi] at e; cases e
        | some l' =>
          obtain ⟨l1, q1, q2⟩ := hrec i hi l' hfi
          exact ⟨i, hi, rfl, l1, q1, by rw [hρk _ hk, (hρ6 i hi).blk], by rw [hρk _ hk, (hρ6 i hi).cap]⟩
      have hfr : ∀ l, frOf rvs ≠ none → H' stamp = some (.segs false l) → 0 < (ρ'' stamp).cap → ∃ key l', 1000 ≤ key ∧ assoc h' key = some (.segs false l') ∧ (ρ'' stamp).blk = (ρ' key).blk ∧ 0 < (ρ' key).cap := fun l hne e c => by
        cases hfr : frOf rvs with
        | none => exact absurd hfr hne
        | some l0 =>
          obtain ⟨cs, s1, s2, s3, s4, s5⟩ := u1 l0 hfr
          rw [hr3 hne] at c ⊢
          exact s5 c
      rcases (hTd k).1 t1 with hk | ⟨rfl, hne⟩
      · obtain ⟨i, hi, rfl, la, q1, q2⟩ := hone k l hk e1 c1
        rcases (hTd k').1 t2 with hk' | ⟨rfl, hne⟩
        · obtain ⟨i', hi', rfl, lb, q1', q2'⟩ := hone k' l' hk' e2 c2
          rw [q2.2] at c1
          rw [q2'.2] at c2
          rw [q2.1, q2'.1]
          exact r3.heap.sep _ _ false false la lb q1 q1' (fun e => hkk (by rw [show i = i' by omega])) (.inl rfl) c1 c2
        · obtain ⟨key, lk, z1, z2, z3, z4⟩ := hfr l' hne e2 c2
          rw [q2.2] at c1
          rw [q2.1]
          rw [z3]
          by_cases e : 600 + i = key
          · exfalso
            omega
          · exact r3.heap.sep _ _ false false la lk q1 z2 e (.inl rfl) c1 z4
      · obtain ⟨key, lk, z1, z2, z3, z4⟩ := hfr l hne e1 c1
        rcases (hTd k').1 t2 with hk' | ⟨rfl, _⟩
        · obtain ⟨i', hi', rfl, lb, q1', q2'⟩ := hone k' l' hk' e2 c2
          rw [q2'.2] at c2
          rw [q2'.1]
          rw [z3]
          by_cases e : 600 + i' = key
          · exfalso
            omega
          · exact r3.heap.sep _ _ false false lk lb z2 q1' (Ne.symm e) (.inl rfl) z4 c2
        · exact absurd rfl hkk
  rcases hcase with ⟨hfn, rfl⟩ | ⟨l, hfs, hst, rfl⟩
  · refine ⟨v, rfl, ρ, .refl _ _, u2 _ _ _ (fun h => absurd hfn h), ?_⟩
    exact main (fun k => k ∈ ks ∨ (k = stamp ∧ frOf rvs ≠ none)) _ ρ (fun k => .rfl) (fun h => absurd hfn h) (fun k hk _ => up1 k hk) (fun _ k hk => up1 k hk) up2 (fun l hl => by rw [hfn] at hl; cases hl) (fun _ _ => rfl) (fun _ => rfl) (fun h => absurd hfn h)
  · have hstk : stamp ∉ ks := fun hmem => by
      obtain ⟨l, hl⟩ := hkeys stamp hmem
      rw [hst] at hl; cases hl
    obtain ⟨up1', up2'⟩ := finW_upd hws hnd (updH H stamp (.segs false l))
    have hne : frOf rvs ≠ none := by rw [hfs]; simp
    have hH : ∀ k, updsH H ((stamp, .segs false l) :: ws) k = updsH (updH H stamp (.segs false l)) ws k := fun k => rfl
    have hstv : updsH H ((stamp, .segs false l) :: ws) stamp = some (.segs false l) := by rw [hH, up1' stamp hstk, updH_same]
    refine ⟨v, rfl, updP ρ stamp pl, updP_keeps hst, u2 _ _ _ (fun _ => ⟨by unfold dmOf; rw [hstv]; rfl, updP_same _ _ _⟩), ?_⟩
    exact main (fun k => k ∈ ks ∨ (k = stamp ∧ frOf rvs ≠ none)) _ (updP ρ stamp pl) (fun k => .rfl) (fun _ => hst) (fun k hk hks => by rw [hH, up1' k hk, updH_ne hks]) (fun h => absurd h hne) (fun i hi => by rw [hH]; exact up2' i hi) (fun l' hl => by rw [hfs] at hl; simp only [Option.some.injEq] at hl; subst hl; exact hstv) (fun k hk => updP_ne hk) (fun h => absurd h hne) (fun _ => updP_same _ _ _)

end
end Go.Gx

/- Write and Clone, as general contracts. -/
namespace Go.Gx
open Go.Proofs Go.Sp
set_option linter.unusedVariables false
set_option maxRecDepth 100000

theorem glow : ∀ g ∈ keysOf gh, g < 490 := fun g hg => by have hg : g ∈ [0, 2] := hg; simp at hg; omega
def R23 (ws bl : List Int) (n : Int) (m : Bool) : List Seg := [.arr .u64 8 false ws, .arr .u8 128 false bl, .one (.i .i64 ⟨false, n⟩), .one (.b false m)]
def H6 (l : List Seg) : Heap := gh ++ (490, .world) :: [(600, .segs false l)]
def L23g : Loops := [(1, ⟨[.p 600 0, .ro 490 (.ints .u8) (.l [])] ++ reps .any 48, H6 (R23 [] [] 0 false), 2000⟩)]
def vc23g (ws bl : List Int) (n : Int) (m : Bool) (d : RO) (K : List RV → List (Option (List Seg)) → Prop) (Q : Nat → List Pv → Prop) : Prop := fnVcG 1 Γ5 Tryd.f23 L23g [.p 600 0, .ro 490 (.ints .u8) d] (H6 (R23 ws bl n m)) K Q
def lc23g (d : RO) (k ws bl : List Int) (n : Int) (m : Bool) (K : List RV → List (Option (List Seg)) → Prop) (Q : Nat → List Pv → Prop) : Prop := loopVcG 1 Γ5 Tryd.f23 L23g 1 [.ro d, .l k, .l ws, .l bl, .z n, .b m] K Q
def vc23n (d : RO) (K : List RV → List (Option (List Seg)) → Prop) (Q : Nat → List Pv → Prop) : Prop := fnVcG 0 Γ5 Tryd.f23 [] [.np, .ro 490 (.ints .u8) d] (gh ++ (490, .world) :: []) K Q
def vc26g (ws bl : List Int) (n : Int) (m : Bool) (K : List RV → List (Option (List Seg)) → Prop) (Q : Nat → List Pv → Prop) : Prop := fnVcG 1 Γ5 Tryd.f26 [] [.p 600 0] (H6 (R23 ws bl n m)) K Q
theorem vc23g_eq : ∀ (ws bl : List Int) (n : Int) (m : Bool) (d : RO) (K : List RV → List (Option (List Seg)) → Prop) (Q : Nat → List Pv → Prop), vc23g ws bl n m d K Q = ∀ (x1 : List Int), x1 = ws → x1.length = (8 : Nat) → AllR IntKind.u64 x1 → ∀ (x2 : List Int), x2 = bl → x2.length = (128 : Nat) → AllR IntKind.u8 x2 → ∀ (x3 : Int), x3 = n → InR IntKind.i64 x3 → ∀ (x4 : Bool), x4 = !m → (x4 = true → K [] [some [Seg.arr IntKind.u64 (8 : Nat) false x1, Seg.arr IntKind.u8 (128 : Nat) false x2, Seg.one (SV.i IntKind.i64 { st := false, z := x3 }), Seg.one (SV.b false m)]]) ∧ (x4 = false → ∀ (x5 : Int), x5 = IntKind.i64.wrap ((1152921504606846976 : Int) - x3) → InR IntKind.i64 x5 → (decide (((roL d).length : Int) > x5) = true → K [] [some [Seg.arr IntKind.u64 (8 : Nat) false x1, Seg.arr IntKind.u8 (128 : Nat) false x2, Seg.one (SV.i IntKind.i64 { st := false, z := x3 }), Seg.one (SV.b false m)]]) ∧ (decide (((roL d).length : Int) > x5) = false → Same Tryd.f23 (1 : Nat) (itemsOf Tryd.f23 (1 : Nat)) ∧ Q (1 : Nat) [Pv.ro d, Pv.l K80, Pv.l x1, Pv.l x2, Pv.z x3, Pv.b m])) := by
  intros
  kernel_rfl
theorem lc23g_eq : ∀ (d : RO) (k ws bl : List Int) (n : Int) (m : Bool) (K : List RV → List (Option (List Seg)) → Prop) (Q : Nat → List Pv → Prop), lc23g d k ws bl n m K Q = ((decide (((roL d).length : Int) > (0 : Int)) = true → ∀ (x1 : Int), x1 = n.tmod (128 : Int) → InR IntKind.i64 x1 → Need ((0 : Int) ≤ x1 ∧ x1 ≤ (128 : Int) ∧ (128 : Int) ≤ (128 : Int)) ∧ Need (x1 + ((128 : Int) - x1) ≤ (128 : Int)) ∧ ∀ (x2 : List Int), x2 = ws → x2.length = (8 : Nat) → AllR IntKind.u64 x2 → ∀ (x3 : List Int), x3 = splice bl x1.toNat (List.take ((128 : Int) - x1).toNat (roL d)) → x3.length = (128 : Nat) → AllR IntKind.u8 x3 → ∀ (x4 : Int), x4 = n → InR IntKind.i64 x4 → ∀ (x5 : Int), x5 = min (((roL d).length : Int)) ((128 : Int) - x1) → InR IntKind.i64 x5 → Need ((0 : Int) ≤ x5 ∧ x5 ≤ ((roL d).length : Int) ∧ ((roL d).length : Int) ≤ ((roL d).length : Int)) ∧ ∀ (x6 : Int), x6 = IntKind.i64.wrap (x4 + x5) → InR IntKind.i64 x6 → ∀ (x7 : Int), x7 = IntKind.i64.wrap (x1 + x5) → InR IntKind.i64 x7 → ((x7 == (128 : Int)) = true → ∀ (x8 : List Int), x8 = compr x2 x3 → x8.length = (8 : Nat) → AllR IntKind.u64 x8 → ∀ (x9 : List Int), x9 = x3 → x9.length = (128 : Nat) → AllR IntKind.u8 x9 → ∀ (x10 : Int), x10 = x6 → InR IntKind.i64 x10 → Same Tryd.f23 (1 : Nat) (itemsOf Tryd.f23 (1 : Nat)) ∧ Q (1 : Nat) [Pv.ro (RO.l (List.take (((roL d).length : Int) - x5).toNat (List.drop x5.toNat (roL d)))), Pv.l k, Pv.l x8, Pv.l x9, Pv.z x10, Pv.b m]) ∧ ((x7 == (128 : Int)) = false → Same Tryd.f23 (1 : Nat) (itemsOf Tryd.f23 (1 : Nat)) ∧ Q (1 : Nat) [Pv.ro (RO.l (List.take (((roL d).length : Int) - x5).toNat (List.drop x5.toNat (roL d)))), Pv.l k, Pv.l x2, Pv.l x3, Pv.z x6, Pv.b m])) ∧ (decide (((roL d).length : Int) > (0 : Int)) = false → K [] [some [Seg.arr IntKind.u64 (8 : Nat) false ws, Seg.arr IntKind.u8 (128 : Nat) false bl, Seg.one (SV.i IntKind.i64 { st := false, z := n }), Seg.one (SV.b false m)]])) := by
  intros
  kernel_rfl
theorem vc23n_eq : ∀ (d : RO) (K : List RV → List (Option (List Seg)) → Prop) (Q : Nat → List Pv → Prop), vc23n d K Q = K [] [] := by
  intros
  kernel_rfl
theorem vc26g_eq : ∀ (ws bl : List Int) (n : Int) (m : Bool) (K : List RV → List (Option (List Seg)) → Prop) (Q : Nat → List Pv → Prop), vc26g ws bl n m K Q = ∀ (x1 : List Int), x1 = ws → x1.length = (8 : Nat) → AllR IntKind.u64 x1 → ∀ (x2 : List Int), x2 = bl → x2.length = (128 : Nat) → AllR IntKind.u8 x2 → ∀ (x3 : Int), x3 = n → InR IntKind.i64 x3 → ∀ (x4 : Bool), x4 = !m → (x4 = true → K [RV.v SV.np] [some [Seg.arr IntKind.u64 (8 : Nat) false x1, Seg.arr IntKind.u8 (128 : Nat) false x2, Seg.one (SV.i IntKind.i64 { st := false, z := x3 }), Seg.one (SV.b false m)]]) ∧ (x4 = false → K [RV.ptr [Seg.arr IntKind.u64 (8 : Nat) false x1, Seg.arr IntKind.u8 (128 : Nat) false x2, Seg.one (SV.i IntKind.i64 { st := false, z := x3 }), Seg.one (SV.b false m)]] [some [Seg.arr IntKind.u64 (8 : Nat) false x1, Seg.arr IntKind.u8 (128 : Nat) false x2, Seg.one (SV.i IntKind.i64 { st := false, z := x3 }), Seg.one (SV.b false m)]]) := by
  intros
  kernel_rfl

/-- What a state holds behind more bytes. -/
def wrR (ws bl : List Int) (n : Int) (m : Bool) (b : List Int) : List Seg := R23 (wr m ⟨ws, bl, n⟩ b).ws (wr m ⟨ws, bl, n⟩ b).bl (wr m ⟨ws, bl, n⟩ b).n m
def writeG : List AV → Option (List Prop × List RV × List (Option (List Seg)))
  | [.m [.arr .u64 8 _ ws, .arr .u8 128 _ bl, .one (.i .i64 n), .one (.b _ m)], .d (.ints .u8) d] => some ([m = true → 0 ≤ n.z ∧ n.z ≤ 1152921504606846976], [], [some (wrR ws bl n.z m (roL d))])
  | [.v .np, .d (.ints .u8) d] => some ([], [], [])
  | _ => none
theorem eqR (ws bl : List Int) (n : Int) (m : Bool) : eqSegs (R23 ws bl n m) (R23 ws bl n m) := ⟨⟨rfl, rfl, rfl⟩, ⟨rfl, rfl, rfl⟩, ⟨rfl, rfl⟩, ⟨rfl, rfl⟩, trivial⟩
theorem eqR' {e1 e2 e3 e4 : Bool} (ws bl : List Int) (n : Int) (m : Bool) : eqSegs [.arr .u64 8 e1 ws, .arr .u8 128 e2 bl, .one (.i .i64 ⟨e3, n⟩), .one (.b e4 m)] (R23 ws bl n m) := ⟨⟨rfl, rfl, rfl⟩, ⟨rfl, rfl, rfl⟩, ⟨rfl, rfl⟩, ⟨rfl, rfl⟩, trivial⟩
def inv23g (b : List Int) (s : HS) (m : Bool) (key : Nat) (ps : List Pv) (mm : Nat) : Prop :=
  key = 1 ∧ ∃ (j : Nat) (d : RO), j ≤ b.length ∧ roL d = b.drop j ∧ ps = [.ro d, .l K80, .l (feed (b.take j) s).ws, .l (feed (b.take j) s).bl, .z (feed (b.take j) s).n, .b m] ∧ mm = b.length - j

set_option maxHeartbeats 2000000 in
theorem writeG_ok : CallOk Tryd.prog gh 23 (genCtr [.m, .d (.ints .u8)] writeG) := by
  refine call_gen (fn := Tryd.f23) Γ5_ok rfl glow rfl (by kernel_rfl) (by kernel_rfl) _ writeG fun av p rvs fin hs hp hf => ?_
  unfold writeG at hs
  split at hs
  · rename_i e1 ws e2 bl n e3 m d
    simp only [Option.some.injEq, Prod.mk.injEq] at hs
    obtain ⟨rfl, rfl, rfl⟩ := hs
    obtain ⟨⟨⟨hws, _⟩, ⟨hbl, hblr⟩, hn, _, _⟩, ⟨hdr, hdl⟩, _⟩ := hf
    obtain ⟨nT, n⟩ := n
    dsimp only at *
    have hp : m = true → 0 ≤ n ∧ n ≤ 1152921504606846976 := hp.1
    generalize hb : roL d = b at *
    refine ⟨[.p 600 0, .ro 490 (.ints .u8) d], [(600, .segs false (R23 ws bl n m))], L23g, fun key ps mm => m = true ∧ n + (b.length : Int) ≤ 1152921504606846976 ∧ inv23g b ⟨ws, bl, n⟩ m key ps mm, ⟨rfl, rfl, ⟨_, rfl, eqR' ws bl n m⟩, rfl, trivial⟩, Nat.le_of_ble_eq_true (by kernel_rfl), ?_, ?_, ?_⟩
    · intro k t ht g hg
      have hg : g ∈ [0, 2, 490, 600] := hg
      simp only [List.mem_cons, List.not_mem_nil, or_false] at hg
      simp only [L23g, List.mem_cons, List.not_mem_nil, or_false, Prod.mk.injEq] at ht
      obtain ⟨rfl, rfl⟩ := ht
      rcases hg with rfl | rfl | rfl | rfl <;> exact ⟨by omega, rfl⟩
    · rintro vk t ps mm ht ⟨rfl, hle, rfl, j, d', hj, hd', rfl, rfl⟩
      simp only [L23g, List.mem_cons, List.not_mem_nil, or_false, Prod.mk.injEq] at ht
      obtain ⟨_, rfl⟩ := ht
      show lc23g d' K80 (feed (b.take j) ⟨ws, bl, n⟩).ws (feed (b.take j) ⟨ws, bl, n⟩).bl (feed (b.take j) ⟨ws, bl, n⟩).n true _ _
      rw [lc23g_eq]
      rw [hd']
      obtain ⟨hn0, hn1⟩ := hp rfl
      have hfn := feed_n (b.take j) ⟨ws, bl, n⟩
      rw [List.length_take, Nat.min_eq_left hj] at hfn
      have hfb := feed_bl (b.take j) ⟨ws, bl, n⟩
      dsimp only at hfn hfb
      have hdl' : ((b.drop j).length : Int) = (b.length : Int) - j := by rw [List.length_drop]; omega
      rw [hdl']
      generalize hS : feed (b.take j) ⟨ws, bl, n⟩ = S at hfn hfb ⊢
      refine ⟨fun hlt => ?_, fun hge => ?_⟩
      · have hlt := of_decide_eq_true hlt
        intro x1 e1 _
        have hx1 : x1 = S.n % 128 := by rw [e1, Int.tmod_eq_emod_of_nonneg (by omega)]
        refine ⟨need_of (by omega), need_of (by omega), fun x2 e2 l2 r2 x3 e3 l3 r3 x4 e4 r4 x5 e5 r5 => ?_⟩
        refine ⟨need_of (by omega), fun x6 e6 r6 x7 e7 r7 => ?_⟩
        rw [wrap_i64 (by omega)] at e6 e7
        obtain ⟨c, rfl⟩ : ∃ c : Nat, x5 = (c : Int) := ⟨x5.toNat, by omega⟩
        have htk : List.take ((128 : Int) - x1).toNat (List.drop j b) = (b.drop j).take c := by
          rcases Nat.lt_or_ge ((128 : Int) - x1).toNat (b.length - j) with h | h
          · rw [show ((128 : Int) - x1).toNat = c by omega]
          · rw [List.take_of_length_le (by rw [List.length_drop]; omega), List.take_of_length_le (by rw [List.length_drop]; omega)]
        rw [htk] at e3
        have hcl : ((b.drop j).take c).length = c := by rw [List.length_take, List.length_drop]; omega
        have hnext : feed (b.take (j + c)) ⟨ws, bl, n⟩ = feed ((b.drop j).take c) S := by
          rw [List.take_add, feed_append, hS]
        have hch := feed_chunk ((b.drop j).take c) S (by omega) (by rw [hfb]; exact hbl) (by rw [hcl]; omega) (fun h => by rw [h] at hcl; simp at hcl; omega)
        rw [hcl] at hch
        have hx1n : x1.toNat = (S.n % 128).toNat := by rw [hx1]
        have hd2 : roL (.l (List.take ((b.length : Int) - j - c).toNat (List.drop ((c : Nat) : Int).toNat (List.drop j b)))) = b.drop (j + c) := by
          show List.take _ _ = _
          rw [Int.toNat_natCast, List.drop_drop, List.take_of_length_le (by rw [List.length_drop]; omega)]
        refine ⟨fun h7 => ?_, fun h7 => ?_⟩
        · have h7 := of_decide_eq_true h7
          intro x8 e8 _ _ x9 e9 _ _ x10 e10 _
          refine ⟨rfl, b.length - (j + c), by omega, rfl, hle, rfl, j + c, _, by omega, hd2, ?_, rfl⟩
          rw [hnext, hch, if_pos (by omega)]
          dsimp only
          rw [e10, e6, e9, e8, e2, e3, e4, hx1n]
        · have h7 := of_decide_eq_false h7
          refine ⟨rfl, b.length - (j + c), by omega, rfl, hle, rfl, j + c, _, by omega, hd2, ?_, rfl⟩
          rw [hnext, hch, if_neg (by omega)]
          dsimp only
          rw [e6, e2, e3, e4, hx1n]
      · have hge := of_decide_eq_false hge
        obtain rfl : j = b.length := by omega
        rw [List.take_of_length_le (Nat.le_refl _)] at hS
        have hw : wr true ⟨ws, bl, n⟩ b = S := by unfold wr; rw [if_pos ⟨rfl, by dsimp only; omega⟩, hS]
        unfold wrR
        rw [hw]
        exact ⟨trivial, eqR _ _ _ _, trivial⟩
    · show vc23g ws bl n m d _ _
      rw [vc23g_eq]
      rw [hb]
      intro x1 e1 _ _ x2 e2 _ _ x3 e3 _ x4 e4
      subst e1 e2 e3
      refine ⟨fun h4 => ?_, fun h4 => ?_⟩
      · obtain rfl : m = false := by rw [e4] at h4; simpa using h4
        have hw : wr false ⟨x1, x2, x3⟩ b = ⟨x1, x2, x3⟩ := by unfold wr; rw [if_neg (fun h => by cases h.1)]
        unfold wrR
        rw [hw]
        exact ⟨trivial, eqR _ _ _ _, trivial⟩
      · obtain rfl : m = true := by rw [e4] at h4; simpa using h4
        obtain ⟨hn0, hn1⟩ := hp rfl
        intro x5 e5 _
        rw [wrap_i64 (by omega)] at e5
        refine ⟨fun h => ?_, fun h => ?_⟩
        · have h := of_decide_eq_true h
          have hw : wr true ⟨x1, x2, x3⟩ b = ⟨x1, x2, x3⟩ := by unfold wr; rw [if_neg (fun h' => by have := h'.2; dsimp only at this; omega)]
          unfold wrR
          rw [hw]
          exact ⟨trivial, eqR _ _ _ _, trivial⟩
        · have h := of_decide_eq_false h
          exact ⟨rfl, b.length - 0, rfl, by omega, rfl, 0, d, by omega, by rw [hb]; rfl, rfl, rfl⟩
  · rename_i d
    simp only [Option.some.injEq, Prod.mk.injEq] at hs
    obtain ⟨rfl, rfl, rfl⟩ := hs
    refine ⟨[.np, .ro 490 (.ints .u8) d], [], [], _, ⟨trivial, rfl, trivial⟩, Nat.le_of_ble_eq_true (by kernel_rfl), vcG_noloops ?_⟩
    show vc23n d _ _
    rw [vc23n_eq]
    exact ⟨trivial, trivial⟩
  · cases hs

def cloneG : List AV → Option (List Prop × List RV × List (Option (List Seg)))
  | [.m [.arr .u64 8 _ ws, .arr .u8 128 _ bl, .one (.i .i64 n), .one (.b _ m)]] => some ([m = true], [.ptr (R23 ws bl n.z m)], [some (R23 ws bl n.z m)])
  | _ => none
theorem cloneG_ok : CallOk Tryd.prog gh 26 (genCtr [.m] cloneG) := by
  refine call_gen (fn := Tryd.f26) Γ5_ok rfl glow rfl (by kernel_rfl) (by kernel_rfl) _ cloneG fun av p rvs fin hs hp hf => ?_
  unfold cloneG at hs
  split at hs
  · rename_i e1 ws e2 bl n e3 m
    simp only [Option.some.injEq, Prod.mk.injEq] at hs
    obtain ⟨rfl, rfl, rfl⟩ := hs
    obtain ⟨nT, n⟩ := n
    obtain rfl : m = true := hp.1
    dsimp only at *
    refine ⟨[.p 600 0], [(600, .segs false (R23 ws bl n true))], [], _, ⟨rfl, rfl, ⟨_, rfl, eqR' ws bl n true⟩, trivial⟩, Nat.le_of_ble_eq_true (by kernel_rfl), vcG_noloops ?_⟩
    show vc26g ws bl n true _ _
    rw [vc26g_eq]
    rintro x1 rfl _ _ x2 rfl _ _ x3 rfl _ x4 rfl
    exact ⟨fun h => (by cases h), fun _ => ⟨⟨eqR _ _ _ _, trivial⟩, eqR _ _ _ _, trivial⟩⟩
  · cases hs
/-- The table: all methods of a state that is there. -/
def Γ8 : Tab := ⟨tys, [(23, genCtr [.m, .d (.ints .u8)] writeG), (26, genCtr [.m] cloneG)] ++ Γ6.ctr, [0, 2], gh⟩
theorem Γ8_ok : TabOk Tryd.prog Γ8 := (Γ6_ok.cons cloneG_ok).cons writeG_ok
end Go.Gx

/- The hash of parts. -/
namespace Go.Sp
open Go.Gx
def st0 : HS := ⟨start8, List.replicate 128 0, 0⟩
/-- The hash of bytes. -/
def sha (b : List Int) : List Int := sumL (feed b st0).ws (feed b st0).bl (feed b st0).n true
/-- The parts of a list, one behind the other. -/
def roJ (d : RO) : List Int := ((roX d).map roL).flatten
end Go.Sp
namespace Go.Gx
open Go.Proofs Go.Sp
set_option linter.unusedVariables false
set_option maxRecDepth 100000


theorem take_succ_map (xs : List RO) (j : Nat) (h : j < xs.length) : ((xs.take (j + 1)).map roL).flatten = ((xs.take j).map roL).flatten ++ roL (xs.getD j (.r [])) := by
  rw [List.take_add_one, List.getElem?_eq_getElem h, List.map_append, List.flatten_append]
  congr 1
  simp [List.getD, h]
theorem flat_take_le (xs : List RO) (j : Nat) : (((xs.take j).map roL).flatten).length ≤ ((xs.map roL).flatten).length := by
  have h : ((xs.map roL).flatten) = (((xs.take j).map roL).flatten) ++ (((xs.drop j).map roL).flatten) := by
    rw [← List.flatten_append, ← List.map_append, List.take_append_drop]
  rw [h, List.length_append]; omega
theorem feed_st0 (b : List Int) : (feed b st0).n = (b.length : Int) := by
  rw [feed_n]; simp [st0]
def L14 : Loops := [(3, ⟨[.any, .any, .p 1000 0, .p 1001 0, .any, .any, .any, .ro 490 (.l (.ints .u8)) (.r []), .i .i64 ⟨false, 0⟩, .i .i64 ⟨false, 0⟩] ++ reps .any 9, gh ++ (490, .world) :: [(1000, .segs false [.arr .u8 64 false []]), (1001, .segs false (R23 [] [] 0 false))], 2000⟩)]
def vc14 (d : RO) (K : List RV → List (Option (List Seg)) → Prop) (Q : Nat → List Pv → Prop) : Prop := fnVcG 0 Γ8 Tryd.f14 L14 [.ro 490 (.l (.ints .u8)) d] (gh ++ (490, .world) :: []) K Q
def lc14 (d : RO) (n i : Int) (k z ws bl : List Int) (c : Int) (m : Bool) (K : List RV → List (Option (List Seg)) → Prop) (Q : Nat → List Pv → Prop) : Prop := loopVcG 0 Γ8 Tryd.f14 L14 3 [.ro d, .z n, .z i, .l k, .l z, .l ws, .l bl, .z c, .b m] K Q
theorem vc14_eq : ∀ (d : RO) (K : List RV → List (Option (List Seg)) → Prop) (Q : Nat → List Pv → Prop), vc14 d K Q = ∀ (x1 : Int), x1 = (7640891576956012808 : Int) → InR IntKind.u64 x1 → ∀ (x2 : Int), x2 = (13503953896175478587 : Int) → InR IntKind.u64 x2 → ∀ (x3 : Int), x3 = (4354685564936845355 : Int) → InR IntKind.u64 x3 → ∀ (x4 : Int), x4 = (11912009170470909681 : Int) → InR IntKind.u64 x4 → ∀ (x5 : Int), x5 = (5840696475078001361 : Int) → InR IntKind.u64 x5 → ∀ (x6 : Int), x6 = (11170449401992604703 : Int) → InR IntKind.u64 x6 → ∀ (x7 : Int), x7 = (2270897969802886507 : Int) → InR IntKind.u64 x7 → ∀ (x8 : Int), x8 = (6620516959819538809 : Int) → InR IntKind.u64 x8 → ∀ (x9 : List Int), x9 = List.replicate (128 : Nat) (0 : Int) → x9.length = (128 : Nat) → AllR IntKind.u8 x9 → Same Tryd.f14 (3 : Nat) (itemsOf Tryd.f14 (3 : Nat)) ∧ Q (3 : Nat) [Pv.ro d, Pv.z ((roX d).length : Int), Pv.z (0 : Int), Pv.l K80, Pv.l (List.replicate (64 : Nat) (0 : Int)), Pv.l [x1, x2, x3, x4, x5, x6, x7, x8], Pv.l x9, Pv.z (0 : Int), Pv.b true] := by
  intros
  kernel_rfl
theorem lc14_eq : ∀ (d : RO) (n i : Int) (k z ws bl : List Int) (c : Int) (m : Bool) (K : List RV → List (Option (List Seg)) → Prop) (Q : Nat → List Pv → Prop), lc14 d n i k z ws bl c m K Q = ((decide (i < n) = true → Need ((0 : Int) ≤ i ∧ i < ((roX d).length : Int)) ∧ Need (m = true → (0 : Int) ≤ c ∧ c ≤ (1152921504606846976 : Int)) ∧ ∀ (x1 : List Int), x1 = (wr m { ws := ws, bl := bl, n := c } (roL (roN d i.toNat))).ws → x1.length = (8 : Nat) → AllR IntKind.u64 x1 → ∀ (x2 : List Int), x2 = (wr m { ws := ws, bl := bl, n := c } (roL (roN d i.toNat))).bl → x2.length = (128 : Nat) → AllR IntKind.u8 x2 → ∀ (x3 : Int), x3 = (wr m { ws := ws, bl := bl, n := c } (roL (roN d i.toNat))).n → InR IntKind.i64 x3 → ∀ (x4 : Int), x4 = IntKind.i64.wrap (i + (1 : Int)) → InR IntKind.i64 x4 → Same Tryd.f14 (3 : Nat) (itemsOf Tryd.f14 (3 : Nat)) ∧ Q (3 : Nat) [Pv.ro d, Pv.z n, Pv.z x4, Pv.l k, Pv.l z, Pv.l x1, Pv.l x2, Pv.z x3, Pv.b m]) ∧ (decide (i < n) = false → Need ((0 : Int) ≤ c) ∧ ∀ (x5 : List Int), x5 = ws → x5.length = (8 : Nat) → AllR IntKind.u64 x5 → ∀ (x6 : List Int), x6 = bl → x6.length = (128 : Nat) → AllR IntKind.u8 x6 → ∀ (x7 : Int), x7 = c → InR IntKind.i64 x7 → ∀ (x8 : List Int), x8 = sumL ws bl c m → x8.length = (64 : Nat) → AllR IntKind.u8 x8 → K [RV.v (SV.arr IntKind.u8 (64 : Nat) false x8)] [])) := by
  intros
  kernel_rfl

def inv14 (d : RO) (key : Nat) (ps : List Pv) (mm : Nat) : Prop :=
  key = 3 ∧ ∃ j : Nat, j ≤ (roX d).length ∧ ps = [.ro d, .z ((roX d).length : Int), .z (j : Int), .l K80, .l (List.replicate 64 0), .l (feed (((roX d).take j).map roL).flatten st0).ws, .l (feed (((roX d).take j).map roL).flatten st0).bl, .z (feed (((roX d).take j).map roL).flatten st0).n, .b true] ∧ mm = (roX d).length - j
def sumG : List AV → Option (List Prop × List RV × List (Option (List Seg)))
  | [.d (.l (.ints .u8)) d] => some ([((roJ d).length : Int) ≤ 1152921504606846976], [.v (.arr .u8 64 false (sha (roJ d)))], [])
  | _ => none
theorem sumG_ok : CallOk Tryd.prog gh 14 (genCtr [.d (.l (.ints .u8))] sumG) := by
  refine call_gen (fn := Tryd.f14) Γ8_ok rfl glow rfl (by kernel_rfl) (by kernel_rfl) _ sumG fun av p rvs fin hs hp hf => ?_
  unfold sumG at hs
  split at hs
  · rename_i d
    simp only [Option.some.injEq, Prod.mk.injEq] at hs
    obtain ⟨rfl, rfl, rfl⟩ := hs
    have hp : ((roJ d).length : Int) ≤ 1152921504606846976 := hp.1
    obtain ⟨⟨_, hlen⟩, _⟩ := hf
    refine ⟨[.ro 490 (.l (.ints .u8)) d], [], L14, inv14 d, ⟨rfl, trivial⟩, Nat.le_of_ble_eq_true (by kernel_rfl), ?_, ?_, ?_⟩
    · intro k t ht g hg
      have hg : g ∈ [0, 2, 490] := hg
      simp only [List.mem_cons, List.not_mem_nil, or_false] at hg
      simp only [L14, List.mem_cons, List.not_mem_nil, or_false, Prod.mk.injEq] at ht
      obtain ⟨rfl, rfl⟩ := ht
      rcases hg with rfl | rfl | rfl <;> exact ⟨by omega, rfl⟩
    · rintro vk t ps mm ht ⟨rfl, j, hj, rfl, rfl⟩
      simp only [L14, List.mem_cons, List.not_mem_nil, or_false, Prod.mk.injEq] at ht
      obtain ⟨_, rfl⟩ := ht
      show lc14 d ((roX d).length : Int) (j : Int) K80 (List.replicate 64 0) (feed (((roX d).take j).map roL).flatten st0).ws (feed (((roX d).take j).map roL).flatten st0).bl (feed (((roX d).take j).map roL).flatten st0).n true _ _
      rw [lc14_eq]
      have hn := feed_st0 (((roX d).take j).map roL).flatten
      refine ⟨fun hlt => ?_, fun hge => ?_⟩
      · have hlt := of_decide_eq_true hlt
        have hjl : j < (roX d).length := by omega
        have e1 := take_succ_map (roX d) j hjl
        have e2 := flat_take_le (roX d) (j + 1)
        have e3 : (((roX d).take (j + 1)).map roL).flatten.length = (((roX d).take j).map roL).flatten.length + (roL (roN d j)).length := by rw [e1, List.length_append]; rfl
        have hT : (roJ d).length = ((roX d).map roL).flatten.length := rfl
        have hw : wr true (feed (((roX d).take j).map roL).flatten st0) (roL (roN d (j : Int).toNat)) = feed (((roX d).take (j + 1)).map roL).flatten st0 := by
          unfold wr
          rw [Int.toNat_natCast, if_pos ⟨rfl, by rw [hn]; omega⟩, e1, feed_append]; rfl
        refine ⟨need_of (by omega), need_of (fun _ => by rw [hn]; omega), ?_⟩
        rw [show (HS.mk (feed (((roX d).take j).map roL).flatten st0).ws (feed (((roX d).take j).map roL).flatten st0).bl (feed (((roX d).take j).map roL).flatten st0).n) = feed (((roX d).take j).map roL).flatten st0 from rfl, hw]
        rintro x1 rfl _ _ x2 rfl _ _ x3 rfl _ x4 e4 _
        rw [wrap_i64 (by omega)] at e4
        subst e4
        exact ⟨rfl, (roX d).length - (j + 1), by omega, rfl, j + 1, by omega, rfl, rfl⟩
      · have hge := of_decide_eq_false hge
        obtain rfl : j = (roX d).length := by omega
        refine ⟨need_of (by rw [hn]; omega), ?_⟩
        intro x5 e5 _ _ x6 e6 _ _ x7 e7 _ x8 e8 _ _
        refine ⟨⟨?_, trivial⟩, trivial⟩
        show x8 = sha (roJ d)
        rw [e8]
        unfold sha roJ
        rw [List.take_of_length_le (Nat.le_refl _)]
    · show vc14 d _ _
      rw [vc14_eq]
      rintro x1 rfl _ x2 rfl _ x3 rfl _ x4 rfl _ x5 rfl _ x6 rfl _ x7 rfl _ x8 rfl _ x9 rfl _ _
      refine ⟨rfl, (roX d).length - 0, rfl, 0, by omega, ?_, rfl⟩
      simp only [List.take_zero, List.map_nil, List.flatten_nil, feed, st0, start8]
      rfl
  · cases hs
def Γ9 : Tab := ⟨tys, (14, genCtr [.d (.l (.ints .u8))] sumG) :: Γ8.ctr, [0, 2], gh⟩
theorem Γ9_ok : TabOk Tryd.prog Γ9 := Γ8_ok.cons sumG_ok
end Go.Gx

/- The hash of "abc" is what is known of it. -/
namespace Go.Gx
open Go.Proofs Go.Sp
set_option linter.unusedVariables false
set_option maxRecDepth 100000

def vc15 (K : List RV → List (Option (List Seg)) → Prop) (Q : Nat → List Pv → Prop) : Prop := fnVcG 0 Γ9 Tryd.f15 [] [] (gh ++ (490, .world) :: []) K Q
theorem vc15_eq : ∀ (K : List RV → List (Option (List Seg)) → Prop) (Q : Nat → List Pv → Prop), vc15 K Q = (Need ((3 : Int) ≤ (3 : Int)) ∧ Need ((3 : Int) ≤ (1152921504606846976 : Int)) ∧ ∀ (x1 : List Int), x1 = sha (roJ (RO.r [RO.l (List.take (3 : Nat) (List.drop (0 : Nat) [(97 : Int), (98 : Int), (99 : Int)]))])) → x1.length = (64 : Nat) → AllR IntKind.u8 x1 → K [RV.v (SV.b false ([x1.getD (0 : Nat) (0 : Int), x1.getD (1 : Nat) (0 : Int), x1.getD (2 : Nat) (0 : Int), x1.getD (3 : Nat) (0 : Int), x1.getD (4 : Nat) (0 : Int), x1.getD (5 : Nat) (0 : Int), x1.getD (6 : Nat) (0 : Int), x1.getD (7 : Nat) (0 : Int)] == [(221 : Int), (175 : Int), (53 : Int), (161 : Int), (147 : Int), (97 : Int), (122 : Int), (186 : Int)]))] []) := by
  intros
  kernel_rfl

theorem sha_abc : (sha [97, 98, 99]).take 8 = [221, 175, 53, 161, 147, 97, 122, 186] ∧ (sha [97, 98, 99]).length = 64 ∧ (sha [97, 98, 99]).getD 63 0 = 159 := by decide +kernel
theorem sha_none : (sha []).take 8 = [207, 131, 225, 53, 126, 239, 184, 189] ∧ (sha []).length = 64 := by decide +kernel
theorem take8 (l : List Int) (h : l.length = 64) : [l.getD 0 0, l.getD 1 0, l.getD 2 0, l.getD 3 0, l.getD 4 0, l.getD 5 0, l.getD 6 0, l.getD 7 0] = l.take 8 := by
  match l, h with
  | a :: b :: c :: d :: e :: f :: g :: i :: r, _ => rfl
def worksG : List AV → Option (List Prop × List RV × List (Option (List Seg)))
  | [] => some ([], [.v (.b true true)], [])
  | _ => none
theorem worksG_ok : CallOk Tryd.prog gh 15 (genCtr [] worksG) := by
  refine call_gen (fn := Tryd.f15) Γ9_ok rfl glow rfl (by kernel_rfl) (by kernel_rfl) _ worksG fun av p rvs fin hs hp hf => ?_
  unfold worksG at hs
  split at hs
  · simp only [Option.some.injEq, Prod.mk.injEq] at hs
    obtain ⟨rfl, rfl, rfl⟩ := hs
    refine ⟨[], [], [], _, trivial, Nat.le_of_ble_eq_true (by kernel_rfl), vcG_noloops ?_⟩
    show vc15 _ _
    rw [vc15_eq]
    refine ⟨need_of (by omega), need_of (by omega), ?_⟩
    intro x1 e1 hl _
    refine ⟨⟨?_, trivial⟩, trivial⟩
    show _ = true
    have e : x1 = sha [97, 98, 99] := e1
    rw [take8 x1 hl, e, sha_abc.1]
    rfl
  · cases hs
def Γ10 : Tab := ⟨tys, (15, genCtr [] worksG) :: Γ9.ctr, [0, 2], gh⟩
theorem Γ10_ok : TabOk Tryd.prog Γ10 := Γ9_ok.cons worksG_ok
end Go.Gx

/- How many bits a number has. -/
namespace Go.Gx
open Go.Proofs Go.Sp
set_option linter.unusedVariables false
set_option maxRecDepth 100000

/-- The program's table of the first bytes' lengths. -/
def lenTab : ByteArray := ⟨#[0, 1, 2, 2, 3, 3, 3, 3, 4, 4, 4, 4, 4, 4, 4, 4, 5, 5, 5, 5, 5, 5, 5, 5, 5, 5, 5, 5, 5, 5, 5, 5, 6, 6, 6, 6, 6, 6, 6, 6, 6, 6, 6, 6, 6, 6, 6, 6, 6, 6, 6, 6, 6, 6, 6, 6, 6, 6, 6, 6, 6, 6, 6, 6, 7, 7, 7, 7, 7, 7, 7, 7, 7, 7, 7, 7, 7, 7, 7, 7, 7, 7, 7, 7, 7, 7, 7, 7, 7, 7, 7, 7, 7, 7, 7, 7, 7, 7, 7, 7, 7, 7, 7, 7, 7, 7, 7, 7, 7, 7, 7, 7, 7, 7, 7, 7, 7, 7, 7, 7, 7, 7, 7, 7, 7, 7, 7, 7, 8, 8, 8, 8, 8, 8, 8, 8, 8, 8, 8, 8, 8, 8, 8, 8, 8, 8, 8, 8, 8, 8, 8, 8, 8, 8, 8, 8, 8, 8, 8, 8, 8, 8, 8, 8, 8, 8, 8, 8, 8, 8, 8, 8, 8, 8, 8, 8, 8, 8, 8, 8, 8, 8, 8, 8, 8, 8, 8, 8, 8, 8, 8, 8, 8, 8, 8, 8, 8, 8, 8, 8, 8, 8, 8, 8, 8, 8, 8, 8, 8, 8, 8, 8, 8, 8, 8, 8, 8, 8, 8, 8, 8, 8, 8, 8, 8, 8, 8, 8, 8, 8, 8, 8, 8, 8, 8, 8, 8, 8, 8, 8, 8, 8, 8, 8, 8, 8, 8, 8, 8, 8, 8, 8, 8, 8, 8, 8]⟩
def vc50 (x : Int) (K : SV → Prop) (Q : Nat → List Pv → Prop) : Prop := fnVc Γ10 Tryd.f50 [] [.i .u64 ⟨false, x⟩] gh K Q
theorem vc50_eq : ∀ (x : Int) (K : SV → Prop) (Q : Nat → List Pv → Prop), vc50 x K Q = ((decide (x ≥ (4294967296 : Int)) = true → ∀ (x1 : Int), x1 = shrI IntKind.u64 x (32 : Int) → InR IntKind.u64 x1 → (decide (x1 ≥ (65536 : Int)) = true → ∀ (x2 : Int), x2 = shrI IntKind.u64 x1 (16 : Int) → InR IntKind.u64 x2 → (decide (x2 ≥ (256 : Int)) = true → ∀ (x3 : Int), x3 = shrI IntKind.u64 x2 (8 : Int) → InR IntKind.u64 x3 → ∀ (x4 : Int), x4 = IntKind.u8.wrap x3 → InR IntKind.u8 x4 → Need ((0 : Int) ≤ x4 ∧ x4 < (256 : Int)) ∧ ∀ (x5 : Int), x5 = ↑(lenTab.data.getD x4.toNat (0 : UInt8)).toNat → InR IntKind.u8 x5 → ∀ (x6 : Int), x6 = IntKind.i64.wrap x5 → InR IntKind.i64 x6 → ∀ (x7 : Int), x7 = IntKind.i64.wrap ((56 : Int) + x6) → InR IntKind.i64 x7 → K (SV.i IntKind.i64 { st := false, z := x7 })) ∧ (decide (x2 ≥ (256 : Int)) = false → ∀ (x8 : Int), x8 = IntKind.u8.wrap x2 → InR IntKind.u8 x8 → Need ((0 : Int) ≤ x8 ∧ x8 < (256 : Int)) ∧ ∀ (x9 : Int), x9 = ↑(lenTab.data.getD x8.toNat (0 : UInt8)).toNat → InR IntKind.u8 x9 → ∀ (x10 : Int), x10 = IntKind.i64.wrap x9 → InR IntKind.i64 x10 → ∀ (x11 : Int), x11 = IntKind.i64.wrap ((48 : Int) + x10) → InR IntKind.i64 x11 → K (SV.i IntKind.i64 { st := false, z := x11 }))) ∧ (decide (x1 ≥ (65536 : Int)) = false → (decide (x1 ≥ (256 : Int)) = true → ∀ (x12 : Int), x12 = shrI IntKind.u64 x1 (8 : Int) → InR IntKind.u64 x12 → ∀ (x13 : Int), x13 = IntKind.u8.wrap x12 → InR IntKind.u8 x13 → Need ((0 : Int) ≤ x13 ∧ x13 < (256 : Int)) ∧ ∀ (x14 : Int), x14 = ↑(lenTab.data.getD x13.toNat (0 : UInt8)).toNat → InR IntKind.u8 x14 → ∀ (x15 : Int), x15 = IntKind.i64.wrap x14 → InR IntKind.i64 x15 → ∀ (x16 : Int), x16 = IntKind.i64.wrap ((40 : Int) + x15) → InR IntKind.i64 x16 → K (SV.i IntKind.i64 { st := false, z := x16 })) ∧ (decide (x1 ≥ (256 : Int)) = false → ∀ (x17 : Int), x17 = IntKind.u8.wrap x1 → InR IntKind.u8 x17 → Need ((0 : Int) ≤ x17 ∧ x17 < (256 : Int)) ∧ ∀ (x18 : Int), x18 = ↑(lenTab.data.getD x17.toNat (0 : UInt8)).toNat → InR IntKind.u8 x18 → ∀ (x19 : Int), x19 = IntKind.i64.wrap x18 → InR IntKind.i64 x19 → ∀ (x20 : Int), x20 = IntKind.i64.wrap ((32 : Int) + x19) → InR IntKind.i64 x20 → K (SV.i IntKind.i64 { st := false, z := x20 })))) ∧ (decide (x ≥ (4294967296 : Int)) = false → (decide (x ≥ (65536 : Int)) = true → ∀ (x21 : Int), x21 = shrI IntKind.u64 x (16 : Int) → InR IntKind.u64 x21 → (decide (x21 ≥ (256 : Int)) = true → ∀ (x22 : Int), x22 = shrI IntKind.u64 x21 (8 : Int) → InR IntKind.u64 x22 → ∀ (x23 : Int), x23 = IntKind.u8.wrap x22 → InR IntKind.u8 x23 → Need ((0 : Int) ≤ x23 ∧ x23 < (256 : Int)) ∧ ∀ (x24 : Int), x24 = ↑(lenTab.data.getD x23.toNat (0 : UInt8)).toNat → InR IntKind.u8 x24 → ∀ (x25 : Int), x25 = IntKind.i64.wrap x24 → InR IntKind.i64 x25 → ∀ (x26 : Int), x26 = IntKind.i64.wrap ((24 : Int) + x25) → InR IntKind.i64 x26 → K (SV.i IntKind.i64 { st := false, z := x26 })) ∧ (decide (x21 ≥ (256 : Int)) = false → ∀ (x27 : Int), x27 = IntKind.u8.wrap x21 → InR IntKind.u8 x27 → Need ((0 : Int) ≤ x27 ∧ x27 < (256 : Int)) ∧ ∀ (x28 : Int), x28 = ↑(lenTab.data.getD x27.toNat (0 : UInt8)).toNat → InR IntKind.u8 x28 → ∀ (x29 : Int), x29 = IntKind.i64.wrap x28 → InR IntKind.i64 x29 → ∀ (x30 : Int), x30 = IntKind.i64.wrap ((16 : Int) + x29) → InR IntKind.i64 x30 → K (SV.i IntKind.i64 { st := false, z := x30 }))) ∧ (decide (x ≥ (65536 : Int)) = false → (decide (x ≥ (256 : Int)) = true → ∀ (x31 : Int), x31 = shrI IntKind.u64 x (8 : Int) → InR IntKind.u64 x31 → ∀ (x32 : Int), x32 = IntKind.u8.wrap x31 → InR IntKind.u8 x32 → Need ((0 : Int) ≤ x32 ∧ x32 < (256 : Int)) ∧ ∀ (x33 : Int), x33 = ↑(lenTab.data.getD x32.toNat (0 : UInt8)).toNat → InR IntKind.u8 x33 → ∀ (x34 : Int), x34 = IntKind.i64.wrap x33 → InR IntKind.i64 x34 → ∀ (x35 : Int), x35 = IntKind.i64.wrap ((8 : Int) + x34) → InR IntKind.i64 x35 → K (SV.i IntKind.i64 { st := false, z := x35 })) ∧ (decide (x ≥ (256 : Int)) = false → ∀ (x36 : Int), x36 = IntKind.u8.wrap x → InR IntKind.u8 x36 → Need ((0 : Int) ≤ x36 ∧ x36 < (256 : Int)) ∧ ∀ (x37 : Int), x37 = ↑(lenTab.data.getD x36.toNat (0 : UInt8)).toNat → InR IntKind.u8 x37 → ∀ (x38 : Int), x38 = IntKind.i64.wrap x37 → InR IntKind.i64 x38 → ∀ (x39 : Int), x39 = IntKind.i64.wrap ((0 : Int) + x38) → InR IntKind.i64 x39 → K (SV.i IntKind.i64 { st := false, z := x39 }))))) := by
  intros
  kernel_rfl

def _root_.Go.Sp.lenI (x : Int) : Int := if x ≤ 0 then 0 else ((Nat.log2 x.toNat : Nat) : Int) + 1
theorem log2_div {n k : Nat} (h : 2 ^ k ≤ n) : (n / 2 ^ k).log2 + k = n.log2 := by
  have hp : 0 < 2 ^ k := Nat.pow_pos (by omega)
  have hn : n ≠ 0 := by omega
  have hd : n / 2 ^ k ≠ 0 := by
    have := Nat.div_pos h hp
    omega
  have h1 : 2 ^ ((n / 2 ^ k).log2) ≤ n / 2 ^ k := (Nat.le_log2 hd).1 (Nat.le_refl _)
  have h2 : n / 2 ^ k < 2 ^ ((n / 2 ^ k).log2 + 1) := (Nat.log2_lt hd).1 (by omega)
  have h3 : (n / 2 ^ k).log2 + k ≤ n.log2 := (Nat.le_log2 hn).2 (by rw [Nat.pow_add]; exact (Nat.le_div_iff_mul_le hp).1 h1)
  have h4 : n.log2 < (n / 2 ^ k).log2 + 1 + k := (Nat.log2_lt hn).2 (by rw [Nat.pow_add]; exact (Nat.div_lt_iff_lt_mul hp).1 h2)
  omega
theorem lenI_div {x : Int} (k : Nat) (h : (2 : Int) ^ k ≤ x) : lenI (x / 2 ^ k) + k = lenI x := by
  have hp : (0 : Int) < 2 ^ k := Int.pow_pos (by omega)
  obtain ⟨n, rfl⟩ := Int.eq_ofNat_of_zero_le (show 0 ≤ x by omega)
  have h' : 2 ^ k ≤ n := by
    have : ((2 ^ k : Nat) : Int) ≤ (n : Int) := by rw [Int.natCast_pow]; exact h
    omega
  have e : (n : Int) / 2 ^ k = ((n / 2 ^ k : Nat) : Int) := by rw [Int.natCast_ediv, Int.natCast_pow]; rfl
  have hpn : 0 < 2 ^ k := Nat.pow_pos (by omega)
  have hd := Nat.div_pos h' hpn
  have := log2_div h'
  rw [e]
  unfold lenI
  rw [if_neg (by omega), if_neg (by omega), Int.toNat_natCast, Int.toNat_natCast]
  omega
theorem lenTab_at : ∀ j : Fin 256, ((lenTab.data.getD j.val 0).toNat : Int) = lenI (j.val : Int) := by decide +kernel
theorem lenTab_of {x : Int} (h : 0 ≤ x ∧ x < 256) : ((lenTab.data.getD x.toNat 0).toNat : Int) = lenI x := by
  have := lenTab_at ⟨x.toNat, by omega⟩
  rw [this]
  congr 1
  show ((x.toNat : Nat) : Int) = x
  omega
theorem shr_div {x : Int} (k : Nat) (hk : k ≤ 64) : shrI .u64 x (k : Int) = x / 2 ^ k := by
  unfold shrI
  rw [show (min ((k : Int)).toNat IntKind.u64.bits) = k by simp [IntKind.bits]; omega, Int.fdiv_eq_ediv_of_nonneg]
  exact Int.le_of_lt (Int.pow_pos (by omega))
theorem lenI_small {x : Int} (h : 0 ≤ x ∧ x < 256) : 0 ≤ lenI x ∧ lenI x ≤ 8 := by
  rw [← lenTab_of h]
  have : ∀ j : Fin 256, (lenTab.data.getD j.val 0).toNat ≤ 8 := by decide +kernel
  have := this ⟨x.toNat, by omega⟩
  constructor
  · omega
  · have e : (⟨x.toNat, by omega⟩ : Fin 256).val = x.toNat := rfl
    rw [e] at this
    omega
theorem wrap_u8 {x : Int} (h : 0 ≤ x ∧ x < 256) : IntKind.u8.wrap x = x := wrap_of_InR h
def lenS : List SV → Option (List Prop × SV)
  | [.i .u64 x] => some ([], .i .i64 ⟨false, lenI x.z⟩)
  | _ => none
theorem len64_ok : CallOk Tryd.prog gh 50 (pureCtr lenS) := by
  refine call_pure (fn := Tryd.f50) Γ10_ok rfl (by kernel_rfl) (by kernel_rfl) (by kernel_rfl) lenS fun args P0 Y0 hs hp hf => ?_
  unfold lenS at hs
  split at hs
  · rename_i x
    simp only [Option.some.injEq, Prod.mk.injEq] at hs
    obtain ⟨rfl, rfl⟩ := hs
    obtain ⟨nT, x⟩ := x
    obtain ⟨hx, _⟩ := hf
    simp only [FactV, InR] at hx
    refine ⟨[.i .u64 ⟨false, x⟩], [], _, ⟨rfl, trivial⟩, Nat.le_of_ble_eq_true (by kernel_rfl), vc_noloops ?_⟩
    show vc50 x _ _
    rw [vc50_eq]
    have s8 := fun x => shr_div (x := x) 8 (by omega)
    have s16 := fun x => shr_div (x := x) 16 (by omega)
    have s32 := fun x => shr_div (x := x) 32 (by omega)
    have d8 := fun x => lenI_div (x := x) 8
    have d16 := fun x => lenI_div (x := x) 16
    have d32 := fun x => lenI_div (x := x) 32
    simp only [show ((8 : Nat) : Int) = 8 from rfl, show ((16 : Nat) : Int) = 16 from rfl, show ((32 : Nat) : Int) = 32 from rfl, show (2 : Int) ^ 8 = 256 from rfl, show (2 : Int) ^ 16 = 65536 from rfl, show (2 : Int) ^ 32 = 4294967296 from rfl] at s8 s16 s32 d8 d16 d32
    simp only [s8, s16, s32, forall_eq, decide_eq_true_eq, decide_eq_false_iff_not]
    have leaf : ∀ (c y : Int), 0 ≤ y → y < 256 → 0 ≤ c → c ≤ 56 → lenI y + c = lenI x → InR .u8 (IntKind.u8.wrap y) → (Need (0 ≤ IntKind.u8.wrap y ∧ IntKind.u8.wrap y < 256) ∧ (InR .u8 ((lenTab.data.getD (IntKind.u8.wrap y).toNat 0).toNat : Int) → InR .i64 (IntKind.i64.wrap ((lenTab.data.getD (IntKind.u8.wrap y).toNat 0).toNat : Int)) → InR .i64 (IntKind.i64.wrap (c + IntKind.i64.wrap ((lenTab.data.getD (IntKind.u8.wrap y).toNat 0).toNat : Int))) → eqV (.i .i64 ⟨false, IntKind.i64.wrap (c + IntKind.i64.wrap ((lenTab.data.getD (IntKind.u8.wrap y).toNat 0).toNat : Int))⟩) (.i .i64 ⟨false, lenI x⟩))) := by
      intro c y h1 h2 h3 h4 h5 _
      rw [wrap_u8 ⟨h1, h2⟩, lenTab_of ⟨h1, h2⟩]
      have h6 := lenI_small ⟨h1, h2⟩
      rw [wrap_i64 (by omega), wrap_i64 (by omega)]
      exact ⟨need_of ⟨h1, h2⟩, fun _ _ _ => by show c + lenI y = lenI x; omega⟩
    refine ⟨fun h1 _ => ⟨fun h2 _ => ⟨fun h3 _ hr => leaf 56 _ ?_ ?_ ?_ ?_ ?_ hr, fun h3 hr => leaf 48 _ ?_ ?_ ?_ ?_ ?_ hr⟩, fun h2 => ⟨fun h3 _ hr => leaf 40 _ ?_ ?_ ?_ ?_ ?_ hr, fun h3 hr => leaf 32 _ ?_ ?_ ?_ ?_ ?_ hr⟩⟩,
      fun h1 => ⟨fun h2 _ => ⟨fun h3 _ hr => leaf 24 _ ?_ ?_ ?_ ?_ ?_ hr, fun h3 hr => leaf 16 _ ?_ ?_ ?_ ?_ ?_ hr⟩, fun h2 => ⟨fun h3 _ hr => leaf 8 _ ?_ ?_ ?_ ?_ ?_ hr, fun h3 hr => leaf 0 _ ?_ ?_ ?_ ?_ ?_ hr⟩⟩⟩
    all_goals first
      | omega
      | (have a1 := d32 x h1; have a2 := d16 _ h2; have a3 := d8 _ h3; omega)
      | (have a1 := d32 x h1; have a2 := d16 _ h2; omega)
      | (have a1 := d32 x h1; have a3 := d8 _ h3; omega)
      | (have a1 := d32 x h1; omega)
      | (have a2 := d16 _ h2; have a3 := d8 _ h3; omega)
      | (have a2 := d16 _ h2; omega)
      | (have a3 := d8 _ h3; omega)
  · cases hs
def ΓL1 : Tab := ⟨tys, (50, pureCtr lenS) :: Γ10.ctr, [0, 2], gh⟩
theorem ΓL1_ok : TabOk Tryd.prog ΓL1 := Γ10_ok.cons len64_ok
def vc45 (x : Int) (K : SV → Prop) (Q : Nat → List Pv → Prop) : Prop := fnVc ΓL1 Tryd.f45 [] [.i .u64 ⟨false, x⟩] gh K Q
theorem vc45_eq : ∀ (x : Int) (K : SV → Prop) (Q : Nat → List Pv → Prop), vc45 x K Q = ∀ (x1 : Int), x1 = lenI x → InR IntKind.i64 x1 → K (SV.i IntKind.i64 { st := false, z := x1 }) := by
  intros
  kernel_rfl

theorem len_ok : CallOk Tryd.prog gh 45 (pureCtr lenS) := by
  refine call_pure (fn := Tryd.f45) ΓL1_ok rfl (by kernel_rfl) (by kernel_rfl) (by kernel_rfl) lenS fun args P0 Y0 hs hp hf => ?_
  unfold lenS at hs
  split at hs
  · rename_i x
    simp only [Option.some.injEq, Prod.mk.injEq] at hs
    obtain ⟨rfl, rfl⟩ := hs
    obtain ⟨nT, x⟩ := x
    refine ⟨[.i .u64 ⟨false, x⟩], [], _, ⟨rfl, trivial⟩, Nat.le_of_ble_eq_true (by kernel_rfl), vc_noloops ?_⟩
    show vc45 x _ _
    rw [vc45_eq]
    intro x1 e1 _
    exact e1
  · cases hs
def ΓL : Tab := ⟨tys, (45, pureCtr lenS) :: ΓL1.ctr, [0, 2], gh⟩
theorem ΓL_ok : TabOk Tryd.prog ΓL := ΓL1_ok.cons len_ok
end Go.Gx

namespace Go.Sp
open Go.Gx
/-- The root of a tree of hashes. -/
def rootN : Nat → List (List Int) → List Int
  | 0, _ => []
  | m + 1, ls => match ls with
    | [] => sha []
    | [a] => sha (0 :: a)
    | ls => sha (1 :: (rootN m (ls.take (2 ^ (ls.length - 1).log2)) ++ rootN m (ls.drop (2 ^ (ls.length - 1).log2))))
def rootL (ls : List (List Int)) : List Int := rootN (ls.length + 1) ls
end Go.Sp
namespace Go.Gx
open Go.Proofs Go.Sp
set_option linter.unusedVariables false
set_option maxRecDepth 100000
def rootG (m : Nat) : List AV → Option (List Prop × List RV × List (Option (List Seg)))
  | [.d (.l (.ints .u8)) d] => some ([(roX d).length < m, ∀ x ∈ roX d, ((roL x).length : Int) ≤ 576460752303423488], [.v (.arr .u8 64 false (rootL ((roX d).map roL)))], [])
  | _ => none
end Go.Gx

/- Contracts in general: another telling of the same. -/
namespace Go.Gx
open Go.RowKit
set_option linter.unusedVariables false

def RP.bind {α β : Type} : RP α → (α → RP β) → RP β
  | .ret a, f => f a
  | .fail, _ => .fail
  | .get k h, f => .get k fun b => (h b).bind f

theorem RP.run_bind {α β : Type} {H : Nat → Option SB} (f : α → RP β) : ∀ (g : RP α) (rs : List Nat), (g.bind f).run H rs = (match g.run H rs with | some (a, rs1) => (f a).run H rs1 | none => none)
  | .ret a, rs => rfl
  | .fail, rs => rfl
  | .get k h, rs => by simp only [RP.bind, RP.run]; exact RP.run_bind f (h (H k)) (k :: rs)

/-- Does it only read, and hand on what it has read? -/
def Uni {α : Type} (F : (α → RP Delta) → RP Delta) : Prop := ∃ g : RP α, ∀ f, F f = g.bind f

theorem Uni.fail {α : Type} : Uni (α := α) fun _ => .fail := ⟨.fail, fun _ => rfl⟩
theorem Uni.ret {α : Type} (a : α) : Uni (α := α) fun f => f a := ⟨.ret a, fun _ => rfl⟩
theorem Uni.get {α : Type} (k : Nat) {F : Option SB → (α → RP Delta) → RP Delta} (h : ∀ b, Uni (F b)) : Uni fun f => .get k fun b => F b f :=
  ⟨.get k fun b => Classical.choose (h b), fun f => by
    simp only [RP.bind]
    congr 1
    funext b
    exact Classical.choose_spec (h b) f⟩
theorem Uni.bind {α β : Type} {F : (α → RP Delta) → RP Delta} (hF : Uni F) {G : α → (β → RP Delta) → RP Delta} (hG : ∀ a, Uni (G a)) : Uni fun f => F fun a => G a f := by
  obtain ⟨g, hg⟩ := hF
  have bb : ∀ {α β γ : Type} (g : RP α) (h : α → RP β) (f : β → RP γ), (g.bind h).bind f = g.bind fun a => (h a).bind f := by
    intro α β γ g h f
    induction g with
    | ret a => rfl
    | fail => rfl
    | get k r ih => simp only [RP.bind]; congr 1; funext b; exact ih b
  have hG' : ∀ a, ∃ k : RP β, ∀ f, G a f = k.bind f := hG
  refine ⟨g.bind fun a => Classical.choose (hG' a), fun f => ?_⟩
  show F (fun a => G a f) = _
  rw [hg, bb]
  congr 1
  funext a
  exact Classical.choose_spec (hG' a) f

theorem uni_withCon (x : SV) : Uni (α := List Prop × Con) fun f => withCon x fun p q => f (p, q) := by
  cases x <;> simp only [withCon] <;> try exact .fail
  case s v => exact .ret _
  case sl key c est off len =>
    refine .get _ fun b => ?_
    match b with
    | some (.segs ro l) =>
      simp only
      cases segAt l c with
      | none => exact .fail
      | some gj =>
        obtain ⟨g, j⟩ := gj
        cases j with
        | succ j => exact .fail
        | zero =>
          simp only
          cases conSeg g est off len with
          | none => exact .fail
          | some pq => exact .ret (pq.1, pq.2)
    | some .gone => exact .fail
    | some (.pool _ _) => exact .fail
    | some (.alias _ _) => exact .fail
    | some .world => exact .fail
    | none => exact .fail
  case ro key sh d =>
    refine .get _ fun b => ?_
    match b with
    | some .world => cases sh <;> first | exact .fail | exact .ret _
    | some (.segs ro l) => exact .fail
    | some .gone => exact .fail
    | some (.pool _ _) => exact .fail
    | some (.alias _ _) => exact .fail
    | none => exact .fail
  case ps key r len =>
    refine .get _ fun b => ?_
    match b with
    | some (.pool k ms) => exact .ret (_, _)
    | some .world => exact .fail
    | some (.segs ro l) => exact .fail
    | some .gone => exact .fail
    | some (.alias _ _) => exact .fail
    | none => exact .fail

theorem uni_each {g : SV → (List Prop → RO → RP Delta) → RP Delta} (hg : ∀ x, Uni (α := List Prop × RO) fun f => g x fun p d => f (p, d)) : ∀ xs : List SV, Uni (α := List Prop × List RO) fun f => eachRO g xs fun p d => f (p, d)
  | [] => .ret ([], [])
  | x :: r => by
    simp only [eachRO]
    exact Uni.bind (F := fun f => g x fun p d => f (p, d)) (hg x) (G := fun a f => eachRO g r fun p' ds => f (a.1 ++ p', a.2 :: ds)) fun a =>
      Uni.bind (F := fun f => eachRO g r fun p d => f (p, d)) (uni_each hg r) (G := fun b f => f (a.1 ++ b.1, a.2 :: b.2)) fun b => .ret _

theorem uni_hdr (k : IntKind) (off len : SI) (pk : Nat) (hs : List (Nat × Nat)) : Uni (α := List Prop × RO) fun f => hdrRO k off len pk hs fun p d => f (p, d) := by
  simp only [hdrRO]
  refine .get _ fun b => ?_
  match b with
  | some (.pool k' ms) => simp only; cases keq k' k <;> first | exact .fail | exact .ret (_, _)
  | some .world => exact .fail
  | some (.segs ro l) => exact .fail
  | some .gone => exact .fail
  | some (.alias _ _) => exact .fail
  | none => exact .fail

mutual
theorem uni_view (ban : List Nat) : ∀ (sh : Sh) (x : SV), Uni (α := List Prop × RO) fun f => viewRO ban sh x fun p d => f (p, d)
  | .ints k, x => by
    simp only [viewRO]
    cases x <;> try exact .fail
    case nsl => exact .ret _
    case ro key sh d =>
      refine .get _ fun b => ?_
      match b with
      | some .world => simp only; cases shEq sh (.ints k) <;> first | exact .fail | exact .ret _
      | some (.segs ro l) => exact .fail
      | some .gone => exact .fail
      | some (.pool _ _) => exact .fail
      | some (.alias _ _) => exact .fail
      | none => exact .fail
    case sl key c est off len =>
      simp only
      cases memN key ban with
      | true => exact .fail
      | false =>
        refine Uni.bind (F := fun f => withCon (.sl key c est off len) fun p q => f (p, q)) (uni_withCon _) (G := fun a f => match a.2 with | .ints k' l => (match keq k' k with | true => f (a.1, RO.l l) | false => .fail) | _ => .fail) fun a => ?_
        obtain ⟨p, q⟩ := a
        cases q with
        | arrs => exact .fail
        | ints k' l => simp only; cases keq k' k <;> first | exact .fail | exact .ret _
    case ps key r len =>
      refine Uni.bind (F := fun f => withCon (.ps key r len) fun p q => f (p, q)) (uni_withCon _) (G := fun a f => match a.2 with | .ints k' l => (match keq k' k with | true => f (a.1, RO.l l) | false => .fail) | _ => .fail) fun a => ?_
      obtain ⟨p, q⟩ := a
      cases q with
      | arrs => exact .fail
      | ints k' l => simp only; cases keq k' k <;> first | exact .fail | exact .ret _
  | .l e, x => by
    simp only [viewRO]
    cases x <;> try exact .fail
    case nsl => exact .ret _
    case ro key sh d =>
      refine .get _ fun b => ?_
      match b with
      | some .world => simp only; cases shEq sh (.l e) <;> first | exact .fail | exact .ret _
      | some (.segs ro l) => exact .fail
      | some .gone => exact .fail
      | some (.pool _ _) => exact .fail
      | some (.alias _ _) => exact .fail
      | none => exact .fail
    case sl key c est off len =>
      split
      · rename_i h; cases h
      · rename_i h; cases h
      · rename_i key' n h
        cases memN key' ban with
        | true => exact .fail
        | false =>
          refine .get _ fun b => ?_
          match b with
          | some .world => exact .fail
          | some .gone => exact .fail
          | some (.pool _ _) => exact .fail
          | some (.alias _ _) => exact .fail
          | none => exact .fail
          | some (.segs ro l) =>
            simp only
            cases onesOf l with
            | none => exact .fail
            | some xs =>
              simp only
              cases (Nat.beq xs.length n && Nat.blt 0 n) with
              | false => exact .fail
              | true => exact Uni.bind (F := fun f => eachRO (viewRO ban e) xs fun p d => f (p, d)) (uni_each (fun x => uni_view ban e x) xs) (G := fun a f => f (a.1, RO.r a.2)) fun a => .ret _
      · rename_i key' off' len' _ h
        cases memN key' ban with
        | true => exact .fail
        | false =>
          refine .get _ fun b => ?_
          match b with
          | some .world => exact .fail
          | some .gone => exact .fail
          | some (.pool _ _) => exact .fail
          | some (.alias _ _) => exact .fail
          | none => exact .fail
          | some (.segs ro l) =>
            match l with
            | [.rowH pk hs] => cases e <;> first | exact .fail | exact uni_hdr _ _ _ _ _
            | [] => exact .fail
            | [.one _] => exact .fail
            | [.arr ..] => exact .fail
            | [.rowI ..] => exact .fail
            | [.rowA ..] => exact .fail
            | a :: b :: c => cases a <;> exact .fail
      · exact .fail
  | .i _, x => by simp only [viewRO]; exact .fail
  | .tb, x => by simp only [viewRO]; exact .fail
  | .ts, x => by simp only [viewRO]; exact .fail
  | .arr _ _, x => by simp only [viewRO]; exact .fail
  | .r fs, x => by
    simp only [viewRO]
    cases x <;> try exact .fail
    case agg xs => exact Uni.bind (F := fun f => viewROs ban fs xs fun p d => f (p, d)) (uni_views ban fs xs) (G := fun a f => f (a.1, RO.r a.2)) fun a => .ret _
theorem uni_views (ban : List Nat) : ∀ (fs : List Sh) (xs : List SV), Uni (α := List Prop × List RO) fun f => viewROs ban fs xs fun p d => f (p, d)
  | [], [] => .ret ([], [])
  | [], _ :: _ => .fail
  | _ :: _, [] => .fail
  | s :: fs, x :: xs => by
    simp only [viewROs]
    exact Uni.bind (F := fun f => viewRO ban s x fun p d => f (p, d)) (uni_view ban s x) (G := fun a f => viewROs ban fs xs fun p' ds => f (a.1 ++ p', a.2 :: ds)) fun a =>
      Uni.bind (F := fun f => viewROs ban fs xs fun p d => f (p, d)) (uni_views ban fs xs) (G := fun b f => f (a.1 ++ b.1, a.2 :: b.2)) fun b => .ret _
end

theorem uni_getA (ban : List Nat) : ∀ (ms : List Md) (xs : List SV), Uni (α := List Prop × List AV) fun f => getA ban ms xs fun p a => f (p, a)
  | [], [] => .ret ([], [])
  | [], _ :: _ => .fail
  | .v :: _, [] => .fail
  | .d _ :: _, [] => .fail
  | .m :: _, [] => .fail
  | .o :: _, [] => .fail
  | .v :: ms, x :: xs => by
    simp only [getA]
    exact Uni.bind (F := fun f => getA ban ms xs fun p a => f (p, a)) (uni_getA ban ms xs) (G := fun b f => f (b.1, .v x :: b.2)) fun b => .ret _
  | .d sh :: ms, x :: xs => by
    simp only [getA]
    exact Uni.bind (F := fun f => viewRO ban sh x fun p d => f (p, d)) (uni_view ban sh x) (G := fun a f => getA ban ms xs fun p' b => f (a.1 ++ p', .d sh a.2 :: b)) fun a =>
      Uni.bind (F := fun f => getA ban ms xs fun p a => f (p, a)) (uni_getA ban ms xs) (G := fun b f => f (a.1 ++ b.1, .d sh a.2 :: b.2)) fun b => .ret _
  | .m :: ms, x :: xs => by
    simp only [getA]
    cases x <;> try exact .fail
    case np => exact Uni.bind (F := fun f => getA ban ms xs fun p a => f (p, a)) (uni_getA ban ms xs) (G := fun b f => f (b.1, .v .np :: b.2)) fun b => .ret _
    case p key c =>
      cases c with
      | succ c => exact .fail
      | zero =>
        refine .get _ fun b => ?_
        match b with
        | some .world => exact .fail
        | some .gone => exact .fail
        | some (.pool _ _) => exact .fail
        | some (.alias _ _) => exact .fail
        | none => exact .fail
        | some (.segs true l) => exact .fail
        | some (.segs false l) => exact Uni.bind (F := fun f => getA ban ms xs fun p a => f (p, a)) (uni_getA ban ms xs) (G := fun b f => f (b.1, .m l :: b.2)) fun b => .ret _
  | .o :: ms, x :: xs => by
    simp only [getA]
    cases x <;> try exact .fail
    case nsl => exact Uni.bind (F := fun f => getA ban ms xs fun p a => f (p, a)) (uni_getA ban ms xs) (G := fun b f => f (b.1, .v .nsl :: b.2)) fun b => .ret _
    case sl key c est off len =>
      show Uni fun f => (match (SV.sl key c est off len) with
        | .sl key 0 est ⟨true, .ofNat 0⟩ len => _
        | .nsl => _
        | _ => _)
      split
      · rename_i key' est' len' h
        refine .get _ fun b => ?_
        match b with
        | some .world => exact .fail
        | some .gone => exact .fail
        | some (.pool _ _) => exact .fail
        | some (.alias _ _) => exact .fail
        | none => exact .fail
        | some (.segs true l) => exact .fail
        | some (.segs false []) => exact .fail
        | some (.segs false (_ :: _ :: _)) => exact .fail
        | some (.segs false [g]) =>
          simp only
          cases rowCon g with
          | none => exact .fail
          | some q =>
            simp only
            cases Nat.beq est' (conSize q) with
            | false => exact .fail
            | true => exact Uni.bind (F := fun f => getA ban ms xs fun p a => f (p, a)) (uni_getA ban ms xs) (G := fun b f => f ((len'.z = ((conLen q : Nat) : Int)) :: b.1, .o q :: b.2)) fun b => .ret _
      · rename_i h; cases h
      · exact .fail

section
variable {P : Program}

/-- A contract's answers, told by other contracts of the same function. -/
theorem gen_weaken {gh : Heap} {f : FuncId} {ms : List Md} {spec : List AV → Option (List Prop × List RV × List (Option (List Seg)))}
    (h : ∀ av p rvs fin, spec av = some (p, rvs, fin) → AllP p → ∃ spec' p', CallOk P gh f (genCtr ms spec') ∧ spec' av = some (p', rvs, fin) ∧ AllP p') : CallOk P gh f (genCtr ms spec) := by
  intro stamp args H rs rs' d vs w0 M ρ w hG hc hp hD hm
  obtain ⟨g, hg⟩ := uni_getA (ownKeys ms args) ms args
  have run : ∀ spec : List AV → Option (List Prop × List RV × List (Option (List Seg))), genCtr ms spec stamp args = (match nodupN (ownKeys ms args) with
      | true => g.bind (fun x => match spec x.2 with
        | some (p', rvs, fin) => (match finW (ownKeys ms args) fin, oneFr rvs && Nat.ble fin.length 100 with
          | some ws, true => (match frOf rvs with
            | none => .ret ⟨x.1 ++ p', resOf stamp rvs, ws, true⟩
            | some l => .get stamp fun b => (match b with
              | none => .ret ⟨x.1 ++ p', resOf stamp rvs, (stamp, .segs false l) :: ws, true⟩
              | some _ => .fail))
          | _, _ => .fail)
        | none => .fail)
      | false => .fail) := fun spec => by
    unfold genCtr
    simp only
    cases nodupN (ownKeys ms args) with
    | false => rfl
    | true => exact hg fun x => match spec x.2 with
        | some (p', rvs, fin) => (match finW (ownKeys ms args) fin, oneFr rvs && Nat.ble fin.length 100 with
          | some ws, true => (match frOf rvs with
            | none => .ret ⟨x.1 ++ p', resOf stamp rvs, ws, true⟩
            | some l => .get stamp fun b => (match b with
              | none => .ret ⟨x.1 ++ p', resOf stamp rvs, (stamp, .segs false l) :: ws, true⟩
              | some _ => .fail))
          | _, _ => .fail)
        | none => .fail
  rw [run] at hc
  cases hn : nodupN (ownKeys ms args) with
  | false => rw [hn] at hc; simp [RP.run] at hc
  | true =>
    rw [hn] at hc
    simp only [RP.run_bind] at hc
    cases hr : g.run H rs with
    | none => rw [hr] at hc; cases hc
    | some pa =>
      obtain ⟨⟨p, av⟩, rs1⟩ := pa
      rw [hr] at hc
      simp only at hc
      cases hs : spec av with
      | none => rw [hs] at hc; simp [RP.run] at hc
      | some t =>
        obtain ⟨p', rvs, fin⟩ := t
        rw [hs] at hc
        simp only at hc
        have hpp : AllP p' := by
          split at hc
          · split at hc
            · have e := run_ret hc; subst e; exact (AllP.append (l := p) (r := p') hp).2
            · simp only [RP.run] at hc
              split at hc
              · have e := run_ret hc; subst e; exact (AllP.append (l := p) (r := p') hp).2
              · simp [RP.run] at hc
          · simp [RP.run] at hc
        obtain ⟨spec', p'', hok, hs', hp''⟩ := h av p' rvs fin hs hpp
        have happ : ∀ a b : List Prop, AllP a → AllP b → AllP (a ++ b) := by
          intro a b ha hb
          induction a with
          | nil => exact hb
          | cons x r ih => exact ⟨ha.1, ih ha.2⟩
        have hrun : (genCtr ms spec' stamp args).run H rs = some (⟨p ++ p'', d.v, d.ws, d.gen⟩, rs') ∧ AllP p := by
          rw [run, hn]
          simp only [RP.run_bind, hr, hs']
          split at hc
          · rename_i ws e1 e2
            split at hc
            · rename_i e3
              have e := run_ret hc
              simp only [RP.run, Option.some.injEq, Prod.mk.injEq] at hc
              subst e
              exact ⟨by simp only [RP.run, hc.2], (AllP.append (l := p) (r := p') hp).1⟩
            · rename_i l e3
              simp only [RP.run] at hc ⊢
              split at hc
              · rename_i e4
                have e := run_ret hc
                simp only [RP.run, Option.some.injEq, Prod.mk.injEq] at hc
                subst e
                exact ⟨by simp only [RP.run, hc.2], (AllP.append (l := p) (r := p') hp).1⟩
              · simp [RP.run] at hc
          · simp [RP.run] at hc
        have hfin := hok stamp args H rs rs' ⟨p ++ p'', d.v, d.ws, d.gen⟩ vs w0 M ρ w hG hrun.1 (happ _ _ hrun.2 hp'') hD hm
        exact hfin

end
end Go.Gx

/- The root of a tree. -/
namespace Go.Gx
open Go.Proofs Go.Sp
set_option linter.unusedVariables false
set_option maxRecDepth 100000

def ΓR (m : Nat) : Tab := ⟨tys, (35, genCtr [.d (.l (.ints .u8))] (rootG m)) :: ΓL.ctr, [0, 2], gh⟩
def vc35 (m : Nat) (d : RO) (K : List RV → List (Option (List Seg)) → Prop) (Q : Nat → List Pv → Prop) : Prop := fnVcG 0 (ΓR m) Tryd.f35 [] [.ro 490 (.l (.ints .u8)) d] (gh ++ (490, .world) :: []) K Q
theorem vc35_eq : ∀ (m : Nat) (d : RO) (K : List RV → List (Option (List Seg)) → Prop) (Q : Nat → List Pv → Prop), vc35 m d K Q = (((((roX d).length : Int) == (0 : Int)) = true → Need ((0 : Int) ≤ (1152921504606846976 : Int)) ∧ ∀ (x1 : List Int), x1 = sha (roJ (RO.r [])) → x1.length = (64 : Nat) → AllR IntKind.u8 x1 → K [RV.v (SV.arr IntKind.u8 (64 : Nat) false x1)] []) ∧ ((((roX d).length : Int) == (0 : Int)) = false → ((((roX d).length : Int) == (1 : Int)) = true → Need ((0 : Int) ≤ (0 : Int) ∧ (0 : Int) < ((roX d).length : Int)) ∧ Need ((1 : Int) ≤ (1 : Int)) ∧ Need (↑(roJ (RO.r [RO.l (List.take (1 : Nat) (List.drop (0 : Nat) [(0 : Int)])), roN d (0 : Nat)])).length ≤ (1152921504606846976 : Int)) ∧ ∀ (x2 : List Int), x2 = sha (roJ (RO.r [RO.l (List.take (1 : Nat) (List.drop (0 : Nat) [(0 : Int)])), roN d (0 : Nat)])) → x2.length = (64 : Nat) → AllR IntKind.u8 x2 → K [RV.v (SV.arr IntKind.u8 (64 : Nat) false x2)] []) ∧ ((((roX d).length : Int) == (1 : Int)) = false → ∀ (x3 : Int), x3 = IntKind.i64.wrap (((roX d).length : Int) - (1 : Int)) → InR IntKind.i64 x3 → ∀ (x4 : Int), x4 = IntKind.u64.wrap x3 → InR IntKind.u64 x4 → ∀ (x5 : Int), x5 = lenI x4 → InR IntKind.i64 x5 → ∀ (x6 : Int), x6 = IntKind.i64.wrap (x5 - (1 : Int)) → InR IntKind.i64 x6 → Need ((0 : Int) ≤ x6) ∧ ∀ (x7 : Int), x7 = shlI IntKind.i64 (1 : Int) x6 → InR IntKind.i64 x7 → Need ((0 : Int) ≤ (0 : Int) ∧ (0 : Int) ≤ x7 ∧ x7 ≤ ((roX d).length : Int)) ∧ Need ((roX (RO.r (List.take (x7 - (0 : Int)).toNat (List.drop (0 : Nat) (roX d))))).length < m) ∧ Need (∀ (x : RO), x ∈ roX (RO.r (List.take (x7 - (0 : Int)).toNat (List.drop (0 : Nat) (roX d)))) → ((roL x).length : Int) ≤ (576460752303423488 : Int)) ∧ ∀ (x8 : List Int), x8 = rootL (List.map roL (roX (RO.r (List.take (x7 - (0 : Int)).toNat (List.drop (0 : Nat) (roX d)))))) → x8.length = (64 : Nat) → AllR IntKind.u8 x8 → Need ((0 : Int) ≤ x7 ∧ x7 ≤ ((roX d).length : Int) ∧ ((roX d).length : Int) ≤ ((roX d).length : Int)) ∧ Need ((roX (RO.r (List.take (((roX d).length : Int) - x7).toNat (List.drop x7.toNat (roX d))))).length < m) ∧ Need (∀ (x : RO), x ∈ roX (RO.r (List.take (((roX d).length : Int) - x7).toNat (List.drop x7.toNat (roX d)))) → ((roL x).length : Int) ≤ (576460752303423488 : Int)) ∧ ∀ (x9 : List Int), x9 = rootL (List.map roL (roX (RO.r (List.take (((roX d).length : Int) - x7).toNat (List.drop x7.toNat (roX d)))))) → x9.length = (64 : Nat) → AllR IntKind.u8 x9 → Need ((1 : Int) ≤ (1 : Int)) ∧ Need (↑(roJ (RO.r [RO.l (List.take (1 : Nat) (List.drop (0 : Nat) [(1 : Int)])), RO.l (List.take (64 : Nat) (List.drop (0 : Nat) x8)), RO.l (List.take (64 : Nat) (List.drop (0 : Nat) x9))])).length ≤ (1152921504606846976 : Int)) ∧ ∀ (x10 : List Int), x10 = sha (roJ (RO.r [RO.l (List.take (1 : Nat) (List.drop (0 : Nat) [(1 : Int)])), RO.l (List.take (64 : Nat) (List.drop (0 : Nat) x8)), RO.l (List.take (64 : Nat) (List.drop (0 : Nat) x9))])) → x10.length = (64 : Nat) → AllR IntKind.u8 x10 → K [RV.v (SV.arr IntKind.u8 (64 : Nat) false x10)] []))) := by
  intros
  kernel_rfl

theorem rootN_len : ∀ (m : Nat) (ls : List (List Int)), (rootN m ls).length ≤ 64 → True := fun _ _ _ => trivial
theorem rootN_mono : ∀ (m n : Nat) (ls : List (List Int)), ls.length < m → ls.length < n → rootN m ls = rootN n ls
  | 0, n, ls, h, _ => by omega
  | m + 1, 0, ls, _, h => by omega
  | m + 1, n + 1, ls, h1, h2 => by
    match ls with
    | [] => rfl
    | [a] => rfl
    | a :: b :: r =>
      have hl : (a :: b :: r).length = r.length + 2 := rfl
      have hne : (a :: b :: r).length - 1 ≠ 0 := by omega
      have e1 : 2 ^ ((a :: b :: r).length - 1).log2 ≤ (a :: b :: r).length - 1 := (Nat.le_log2 hne).1 (Nat.le_refl _)
      have e2 : 0 < 2 ^ ((a :: b :: r).length - 1).log2 := Nat.pow_pos (by omega)
      show sha (1 :: (rootN m _ ++ rootN m _)) = sha (1 :: (rootN n _ ++ rootN n _))
      rw [rootN_mono m n _ (by rw [List.length_take]; omega) (by rw [List.length_take]; omega), rootN_mono m n _ (by rw [List.length_drop]; omega) (by rw [List.length_drop]; omega)]
theorem rootL_nil : rootL [] = sha [] := rfl
theorem rootL_one (a : List Int) : rootL [a] = sha (0 :: a) := rfl
theorem rootL_two (ls : List (List Int)) (h : 2 ≤ ls.length) : rootL ls = sha (1 :: (rootL (ls.take (2 ^ (ls.length - 1).log2)) ++ rootL (ls.drop (2 ^ (ls.length - 1).log2)))) := by
  have hne : ls.length - 1 ≠ 0 := by omega
  have e1 : 2 ^ (ls.length - 1).log2 ≤ ls.length - 1 := (Nat.le_log2 hne).1 (Nat.le_refl _)
  have e2 : 0 < 2 ^ (ls.length - 1).log2 := Nat.pow_pos (by omega)
  have e : rootL ls = sha (1 :: (rootN ls.length (ls.take (2 ^ (ls.length - 1).log2)) ++ rootN ls.length (ls.drop (2 ^ (ls.length - 1).log2)))) := by
    match ls, h with
    | a :: b :: r, _ => rfl
  rw [e]
  unfold rootL
  rw [rootN_mono ls.length ((ls.take (2 ^ (ls.length - 1).log2)).length + 1) _ (by rw [List.length_take]; omega) (by omega), rootN_mono ls.length ((ls.drop (2 ^ (ls.length - 1).log2)).length + 1) _ (by rw [List.length_drop]; omega) (by omega)]

theorem roJ_r (xs : List RO) : roJ (.r xs) = (xs.map roL).flatten := rfl
theorem roX_r (xs : List RO) : roX (.r xs) = xs := rfl
theorem roL_l (l : List Int) : roL (.l l) = l := rfl
theorem rootG_ok : ∀ m, CallOk Tryd.prog gh 35 (genCtr [.d (.l (.ints .u8))] (rootG m))
  | 0 => by
    refine call_gen (fn := Tryd.f35) ΓL_ok rfl glow rfl (by kernel_rfl) (by kernel_rfl) _ (rootG 0) fun av p rvs fin hs hp hf => ?_
    unfold rootG at hs
    split at hs
    · rename_i d
      simp only [Option.some.injEq, Prod.mk.injEq] at hs
      obtain ⟨rfl, rfl, rfl⟩ := hs
      exact absurd hp.1 (Nat.not_lt_zero _)
    · cases hs
  | m + 1 => by
    have hΓ : TabOk Tryd.prog (ΓR m) := ΓL_ok.cons (rootG_ok m)
    refine call_gen (fn := Tryd.f35) hΓ rfl glow rfl (by kernel_rfl) (by kernel_rfl) _ (rootG (m + 1)) fun av p rvs fin hs hp hf => ?_
    unfold rootG at hs
    split at hs
    · rename_i d
      simp only [Option.some.injEq, Prod.mk.injEq] at hs
      obtain ⟨rfl, rfl, rfl⟩ := hs
      obtain ⟨hm, hx, _⟩ := hp
      obtain ⟨⟨_, hlen⟩, _⟩ := hf
      refine ⟨[.ro 490 (.l (.ints .u8)) d], [], [], _, ⟨rfl, trivial⟩, Nat.le_of_ble_eq_true (by kernel_rfl), vcG_noloops ?_⟩
      show vc35 m d _ _
      rw [vc35_eq]
      simp only [roJ_r, roX_r, List.map_cons, List.map_nil, List.flatten_cons, List.flatten_nil, List.append_nil, roL_l, List.drop_zero]
      generalize hxs : roX d = xs at *
      have hmap : (xs.map roL).length = xs.length := by simp
      refine ⟨fun h0 => ?_, fun h0 => ⟨fun h1 => ?_, fun h1 => ?_⟩⟩
      · have h0 : xs.length = 0 := by simpa using h0
        obtain rfl := List.eq_nil_of_length_eq_zero h0
        refine ⟨need_of (by omega), ?_⟩
        intro x1 e1 _ _
        exact ⟨⟨e1, trivial⟩, trivial⟩
      · have h1 : xs.length = 1 := by
          have h1 : ((xs.length : Nat) : Int) = 1 := by simpa using h1
          omega
        obtain ⟨a, rfl⟩ := List.length_eq_one_iff.1 h1
        have ha := hx a (by simp)
        have hr : roN d 0 = a := by unfold roN; rw [hxs]; rfl
        rw [hr]
        refine ⟨need_of (by simp), need_of (by omega), need_of (by simp; omega), ?_⟩
        intro x2 e2 _ _
        exact ⟨⟨e2, trivial⟩, trivial⟩
      · have h0 : xs.length ≠ 0 := by simpa using h0
        have h1 : xs.length ≠ 1 := by
          intro h; rw [h] at h1; simp at h1
        have h2 : 2 ≤ xs.length := by omega
        have hne : xs.length - 1 ≠ 0 := by omega
        have hk1 : 2 ^ (xs.length - 1).log2 ≤ xs.length - 1 := (Nat.le_log2 hne).1 (Nat.le_refl _)
        have hk2 : 0 < 2 ^ (xs.length - 1).log2 := Nat.pow_pos (by omega)
        have hlog : (xs.length - 1).log2 < 63 := (Nat.log2_lt hne).2 (by omega)
        have hv := rootL_two (xs.map roL) (by rw [hmap]; exact h2)
        rw [hmap] at hv
        intro x3 e3 _
        rw [wrap_i64 (by omega)] at e3
        intro x4 e4 _
        have e4 : x4 = x3 := by rw [e4]; exact wrap_of_InR (by simp only [InR]; omega)
        intro x5 e5 _
        have e5 : x5 = (((xs.length - 1).log2 : Nat) : Int) + 1 := by
          rw [e5, e4, e3]
          unfold lenI
          rw [if_neg (by omega)]
          congr 2
          congr 1
          omega
        intro x6 e6 _
        rw [e5, wrap_i64 (by omega)] at e6
        have e6 : x6 = (((xs.length - 1).log2 : Nat) : Int) := by omega
        refine ⟨need_of (by omega), ?_⟩
        intro x7 e7 _
        have e7 : x7 = ((2 ^ (xs.length - 1).log2 : Nat) : Int) := by
          rw [e7, e6]
          unfold shlI
          rw [Int.toNat_natCast, show min (xs.length - 1).log2 IntKind.i64.bits = (xs.length - 1).log2 by simp [IntKind.bits]; omega, Int.one_mul]
          rw [wrap_i64]
          · rw [Int.natCast_pow]; rfl
          · have : ((2 ^ (xs.length - 1).log2 : Nat) : Int) = (2 : Int) ^ (xs.length - 1).log2 := by rw [Int.natCast_pow]; rfl
            omega
        generalize 2 ^ (xs.length - 1).log2 = k at *
        have hx7 : x7.toNat = k := by omega
        have ht : (x7 - 0).toNat = k := by omega
        have hdl : ((xs.length : Int) - x7).toNat = xs.length - k := by omega
        rw [ht, hdl, hx7]
        have htk : (xs.drop k).take (xs.length - k) = xs.drop k := List.take_of_length_le (by rw [List.length_drop]; omega)
        rw [htk]
        refine ⟨need_of (by omega), need_of (by rw [List.length_take]; omega), need_of (fun x hx' => hx x (List.mem_of_mem_take hx')), ?_⟩
        intro x8 e8 h8 _
        refine ⟨need_of (by omega), need_of (by rw [List.length_drop]; omega), need_of (fun x hx' => hx x (List.mem_of_mem_drop hx')), ?_⟩
        intro x9 e9 h9 _
        have t8 : x8.take 64 = x8 := List.take_of_length_le (by omega)
        have t9 : x9.take 64 = x9 := List.take_of_length_le (by omega)
        rw [t8, t9]
        refine ⟨need_of (by omega), need_of (by simp; omega), ?_⟩
        intro x10 e10 _ _
        refine ⟨⟨?_, trivial⟩, trivial⟩
        show x10 = rootL (xs.map roL)
        rw [e10, hv, ← List.map_take, ← List.map_drop, ← e8, ← e9]
        rfl
    · cases hs
def rootF : List AV → Option (List Prop × List RV × List (Option (List Seg)))
  | [.d (.l (.ints .u8)) d] => some ([∀ x ∈ roX d, ((roL x).length : Int) ≤ 576460752303423488], [.v (.arr .u8 64 false (rootL ((roX d).map roL)))], [])
  | _ => none
theorem rootF_ok : CallOk Tryd.prog gh 35 (genCtr [.d (.l (.ints .u8))] rootF) := by
  refine gen_weaken fun av p rvs fin hs hp => ?_
  unfold rootF at hs
  split at hs
  · rename_i d
    simp only [Option.some.injEq, Prod.mk.injEq] at hs
    obtain ⟨rfl, rfl, rfl⟩ := hs
    exact ⟨_, _, rootG_ok ((roX d).length + 1), rfl, Nat.lt_succ_self _, hp.1, trivial⟩
  · cases hs
def Γ11 : Tab := ⟨tys, (35, genCtr [.d (.l (.ints .u8))] rootF) :: ΓL.ctr, [0, 2], gh⟩
theorem Γ11_ok : TabOk Tryd.prog Γ11 := ΓL_ok.cons rootF_ok
end Go.Gx
