/- Write, Reset, Clone of nil. -/
import Derived.Test.YtihihilhfijloaaDoorHaG
import Derived.Test.YtihihilhfijloaaDoorMethv
namespace Go.Sp
open Go.Gx
/-- A state of the hash: the words, the block, how many bytes. -/
structure HS where
  ws : List Int
  bl : List Int
  n : Int
/-- One byte more. -/
def stp (s : HS) (c : Int) : HS := ⟨if (s.n % 128).toNat = 127 then compr s.ws (s.bl.set 127 c) else s.ws, s.bl.set (s.n % 128).toNat c, s.n + 1⟩
def feed : List Int → HS → HS
  | [], s => s
  | c :: r, s => feed r (stp s c)
/-- Write: bytes behind a state; none of them, if they are too many, or if the state was not made. -/
def wr (m : Bool) (s : HS) (b : List Int) : HS := if m = true ∧ (b.length : Int) ≤ 1152921504606846976 - s.n then feed b s else s
end Go.Sp
namespace Go.Gx
open Go.Proofs Go.Sp
set_option linter.unusedVariables false
set_option maxRecDepth 100000

theorem feed_append : ∀ (a b : List Int) (s : HS), feed (a ++ b) s = feed b (feed a s)
  | [], b, s => rfl
  | c :: r, b, s => by rw [List.cons_append, feed, feed, feed_append r b]
theorem feed_n : ∀ (b : List Int) (s : HS), (feed b s).n = s.n + (b.length : Int)
  | [], s => by simp [feed]
  | c :: r, s => by rw [feed, feed_n r]; simp [stp]; omega
theorem feed_bl : ∀ (b : List Int) (s : HS), (feed b s).bl.length = s.bl.length
  | [], s => rfl
  | c :: r, s => by rw [feed, feed_bl r]; simp [stp]
theorem splice_nil (l : List Int) (j : Nat) (h : j ≤ l.length) : splice l j [] = l := by simp [splice]
theorem splice_cons (l : List Int) (j : Nat) (c : Int) (r : List Int) (h : j < l.length) : splice (l.set j c) (j + 1) r = splice l j (c :: r) := by
  unfold splice
  have h1 : (l.set j c).take (j + 1) = l.take j ++ [c] := by
    rw [List.take_set]
    rw [List.take_add_one, List.getElem?_eq_getElem h]
    simp only [Option.toList_some]
    rw [List.set_append_right _ _ (by simp; omega)]
    simp [Nat.min_eq_left (Nat.le_of_lt h)]
  rw [h1, List.drop_set_of_lt (by omega)]
  simp [List.append_assoc, Nat.add_assoc, Nat.add_comm, Nat.add_left_comm]
/-- A piece that ends with the block or within it. -/
theorem feed_chunk : ∀ (t : List Int) (s : HS), 0 ≤ s.n → s.bl.length = 128 → (s.n % 128).toNat + t.length ≤ 128 → t ≠ [] →
    feed t s = ⟨if (s.n % 128).toNat + t.length = 128 then compr s.ws (splice s.bl (s.n % 128).toNat t) else s.ws, splice s.bl (s.n % 128).toNat t, s.n + (t.length : Int)⟩
  | [], s, _, _, _, h => absurd rfl h
  | [c], s, h0, hb, hl, _ => by
    have hlt : (s.n % 128).toNat < s.bl.length := by rw [hb]; omega
    have e : splice s.bl (s.n % 128).toNat [c] = s.bl.set (s.n % 128).toNat c := by
      rw [← splice_cons _ _ _ _ hlt, splice_nil _ _ (by rw [List.length_set]; omega)]
    rw [feed, feed, e]
    unfold stp
    by_cases h7 : (s.n % 128).toNat = 127
    · rw [h7]; simp
    · have : ¬ ((s.n % 128).toNat + [c].length = 128) := by simp; omega
      rw [if_neg h7, if_neg this]
      simp
  | c :: d :: r, s, h0, hb, hl, _ => by
    have hl' : (s.n % 128).toNat + (r.length + 2) ≤ 128 := by simpa using hl
    have h7 : ¬ (s.n % 128).toNat = 127 := by omega
    have hst : stp s c = ⟨s.ws, s.bl.set (s.n % 128).toNat c, s.n + 1⟩ := by unfold stp; rw [if_neg h7]
    have hm : ((s.n + 1) % 128).toNat = (s.n % 128).toNat + 1 := by omega
    rw [feed, hst, feed_chunk (d :: r) _ (by show 0 ≤ s.n + 1; omega) (by show (s.bl.set _ c).length = 128; rw [List.length_set]; exact hb) (by show ((s.n + 1) % 128).toNat + (d :: r).length ≤ 128; rw [hm]; simp; omega) (by simp)]
    show HS.mk _ _ _ = _
    dsimp only
    rw [hm, splice_cons _ _ _ _ (by rw [hb]; omega)]
    simp only [List.length_cons]
    by_cases h8 : (s.n % 128).toNat + (r.length + 1 + 1) = 128
    · rw [if_pos h8, if_pos (by omega)]
      congr 1
      push_cast; omega
    · rw [if_neg h8, if_neg (by omega)]
      congr 1
      push_cast; omega

def W23 (b : List Int) (l : List Seg) : Heap := gh ++ ([(500, .segs true [.rowI .u8 b])] ++ [(600, .segs false l)])
def L23 : Loops := [(1, ⟨[.p 600 0, .sl 500 0 1 ⟨false, 0⟩ ⟨false, 0⟩] ++ reps .any 48, W23 [] [.arr .u64 8 false [], .arr .u8 128 false [], .one (.i .i64 ⟨false, 0⟩), .one (.b false false)], 2000⟩)]
def vc23 (ws bl : List Int) (n : Int) (m : Bool) (b : List Int) (K : SV → List Seg → Prop) (Q : Nat → List Pv → Prop) : Prop := fnVcM Γ5 Tryd.f23 L23 [.p 600 0, .sl 500 0 1 ⟨true, 0⟩ ⟨false, ((b.length : Nat) : Int)⟩] (W23 b [.arr .u64 8 false ws, .arr .u8 128 false bl, .one (.i .i64 ⟨false, n⟩), .one (.b false m)]) K Q
def lc23 (off len : Int) (k b ws bl : List Int) (n : Int) (m : Bool) (K : SV → List Seg → Prop) (Q : Nat → List Pv → Prop) : Prop := loopVcM Γ5 Tryd.f23 L23 1 [.z off, .z len, .l k, .l b, .l ws, .l bl, .z n, .b m] K Q
def vc23z (ws bl : List Int) (n : Int) (m : Bool) (K : SV → List Seg → Prop) (Q : Nat → List Pv → Prop) : Prop := fnVcM Γ5 Tryd.f23 [] [.p 600 0, .nsl] (rec8 ws bl n m) K Q
def vc23b (b : List Int) (K : SV → Prop) (Q : Nat → List Pv → Prop) : Prop := fnVc Γ5 Tryd.f23 [] [.np, .sl 500 0 1 ⟨true, 0⟩ ⟨false, ((b.length : Nat) : Int)⟩] (gh ++ [(500, .segs true [.rowI .u8 b])]) K Q
def vc23c (K : SV → Prop) (Q : Nat → List Pv → Prop) : Prop := fnVc Γ5 Tryd.f23 [] [.np, .nsl] gh K Q
def vc28 (ws bl : List Int) (n : Int) (m : Bool) (K : SV → List Seg → Prop) (Q : Nat → List Pv → Prop) : Prop := fnVcM Γ5 Tryd.f28 [] [.p 600 0] (rec8 ws bl n m) K Q
def vc28n (K : SV → Prop) (Q : Nat → List Pv → Prop) : Prop := fnVc Γ5 Tryd.f28 [] [.np] gh K Q
def vc26n (K : SV → Prop) (Q : Nat → List Pv → Prop) : Prop := fnVc Γ5 Tryd.f26 [] [.np] gh K Q
def vc26 (ws bl : List Int) (n : Int) (m : Bool) (K : SV → List Seg → Prop) (Q : Nat → List Pv → Prop) : Prop := fnVcM Γ5 Tryd.f26 [] [.p 600 0] (rec8 ws bl n m) K Q
theorem vc23_eq : ∀ (ws bl : List Int) (n : Int) (m : Bool) (b : List Int) (K : SV → List Seg → Prop) (Q : Nat → List Pv → Prop), vc23 ws bl n m b K Q = ∀ (x1 : List Int), x1 = ws → x1.length = (8 : Nat) → AllR IntKind.u64 x1 → ∀ (x2 : List Int), x2 = bl → x2.length = (128 : Nat) → AllR IntKind.u8 x2 → ∀ (x3 : Int), x3 = n → InR IntKind.i64 x3 → ∀ (x4 : Bool), x4 = !m → (x4 = true → K (SV.tup []) [Seg.arr IntKind.u64 (8 : Nat) false x1, Seg.arr IntKind.u8 (128 : Nat) false x2, Seg.one (SV.i IntKind.i64 { st := false, z := x3 }), Seg.one (SV.b false m)]) ∧ (x4 = false → ∀ (x5 : Int), x5 = IntKind.i64.wrap ((1152921504606846976 : Int) - x3) → InR IntKind.i64 x5 → (decide (↑b.length > x5) = true → K (SV.tup []) [Seg.arr IntKind.u64 (8 : Nat) false x1, Seg.arr IntKind.u8 (128 : Nat) false x2, Seg.one (SV.i IntKind.i64 { st := false, z := x3 }), Seg.one (SV.b false m)]) ∧ (decide (↑b.length > x5) = false → Same Tryd.f23 (1 : Nat) (itemsOf Tryd.f23 (1 : Nat)) ∧ Q (1 : Nat) [Pv.z (0 : Int), Pv.z ↑b.length, Pv.l K80, Pv.l b, Pv.l x1, Pv.l x2, Pv.z x3, Pv.b m])) := by
  intros
  kernel_rfl
theorem lc23_eq : ∀ (off len : Int) (k b ws bl : List Int) (n : Int) (m : Bool) (K : SV → List Seg → Prop) (Q : Nat → List Pv → Prop), lc23 off len k b ws bl n m K Q = ((decide (len > (0 : Int)) = true → ∀ (x1 : Int), x1 = n.tmod (128 : Int) → InR IntKind.i64 x1 → Need ((0 : Int) ≤ x1 ∧ x1 ≤ (128 : Int) ∧ (128 : Int) ≤ (128 : Int)) ∧ Need (x1 + ((128 : Int) - x1) ≤ (128 : Int)) ∧ Need (off + len ≤ ↑b.length) ∧ ∀ (x2 : List Int), x2 = ws → x2.length = (8 : Nat) → AllR IntKind.u64 x2 → ∀ (x3 : List Int), x3 = splice bl x1.toNat (List.take ((128 : Int) - x1).toNat (List.take len.toNat (List.drop off.toNat b))) → x3.length = (128 : Nat) → AllR IntKind.u8 x3 → ∀ (x4 : Int), x4 = n → InR IntKind.i64 x4 → ∀ (x5 : Int), x5 = min (↑(List.take len.toNat (List.drop off.toNat b)).length) ((128 : Int) - x1) → InR IntKind.i64 x5 → Need ((0 : Int) ≤ x5 ∧ x5 ≤ len ∧ len ≤ len) ∧ ∀ (x6 : Int), x6 = IntKind.i64.wrap (x4 + x5) → InR IntKind.i64 x6 → ∀ (x7 : Int), x7 = IntKind.i64.wrap (x1 + x5) → InR IntKind.i64 x7 → ((x7 == (128 : Int)) = true → ∀ (x8 : List Int), x8 = compr x2 x3 → x8.length = (8 : Nat) → AllR IntKind.u64 x8 → ∀ (x9 : List Int), x9 = x3 → x9.length = (128 : Nat) → AllR IntKind.u8 x9 → ∀ (x10 : Int), x10 = x6 → InR IntKind.i64 x10 → Same Tryd.f23 (1 : Nat) (itemsOf Tryd.f23 (1 : Nat)) ∧ Q (1 : Nat) [Pv.z (off + x5), Pv.z (len - x5), Pv.l k, Pv.l b, Pv.l x8, Pv.l x9, Pv.z x10, Pv.b m]) ∧ ((x7 == (128 : Int)) = false → Same Tryd.f23 (1 : Nat) (itemsOf Tryd.f23 (1 : Nat)) ∧ Q (1 : Nat) [Pv.z (off + x5), Pv.z (len - x5), Pv.l k, Pv.l b, Pv.l x2, Pv.l x3, Pv.z x6, Pv.b m])) ∧ (decide (len > (0 : Int)) = false → K (SV.tup []) [Seg.arr IntKind.u64 (8 : Nat) false ws, Seg.arr IntKind.u8 (128 : Nat) false bl, Seg.one (SV.i IntKind.i64 { st := false, z := n }), Seg.one (SV.b false m)])) := by
  intros
  kernel_rfl
theorem vc23z_eq : ∀ (ws bl : List Int) (n : Int) (m : Bool) (K : SV → List Seg → Prop) (Q : Nat → List Pv → Prop), vc23z ws bl n m K Q = ∀ (x1 : List Int), x1 = ws → x1.length = (8 : Nat) → AllR IntKind.u64 x1 → ∀ (x2 : List Int), x2 = bl → x2.length = (128 : Nat) → AllR IntKind.u8 x2 → ∀ (x3 : Int), x3 = n → InR IntKind.i64 x3 → ∀ (x4 : Bool), x4 = !m → (x4 = true → K (SV.tup []) [Seg.arr IntKind.u64 (8 : Nat) false x1, Seg.arr IntKind.u8 (128 : Nat) false x2, Seg.one (SV.i IntKind.i64 { st := false, z := x3 }), Seg.one (SV.b false m)]) ∧ (x4 = false → ∀ (x5 : Int), x5 = IntKind.i64.wrap ((1152921504606846976 : Int) - x3) → InR IntKind.i64 x5 → (decide ((0 : Int) > x5) = true → K (SV.tup []) [Seg.arr IntKind.u64 (8 : Nat) false x1, Seg.arr IntKind.u8 (128 : Nat) false x2, Seg.one (SV.i IntKind.i64 { st := false, z := x3 }), Seg.one (SV.b false m)]) ∧ (decide ((0 : Int) > x5) = false → K (SV.tup []) [Seg.arr IntKind.u64 (8 : Nat) false x1, Seg.arr IntKind.u8 (128 : Nat) false x2, Seg.one (SV.i IntKind.i64 { st := false, z := x3 }), Seg.one (SV.b false m)])) := by
  intros
  kernel_rfl
theorem vc23b_eq : ∀ (b : List Int) (K : SV → Prop) (Q : Nat → List Pv → Prop), vc23b b K Q = K (SV.tup []) := by
  intros
  kernel_rfl
theorem vc23c_eq : ∀ (K : SV → Prop) (Q : Nat → List Pv → Prop), vc23c K Q = K (SV.tup []) := by
  intros
  kernel_rfl
theorem vc28_eq : ∀ (ws bl : List Int) (n : Int) (m : Bool) (K : SV → List Seg → Prop) (Q : Nat → List Pv → Prop), vc28 ws bl n m K Q = ∀ (x1 : List Int), x1 = ws → x1.length = (8 : Nat) → AllR IntKind.u64 x1 → ∀ (x2 : List Int), x2 = bl → x2.length = (128 : Nat) → AllR IntKind.u8 x2 → ∀ (x3 : Int), x3 = n → InR IntKind.i64 x3 → ∀ (x4 : Bool), x4 = !m → ((!x4) = true → ∀ (x5 : Int), x5 = (7640891576956012808 : Int) → InR IntKind.u64 x5 → ∀ (x6 : Int), x6 = (13503953896175478587 : Int) → InR IntKind.u64 x6 → ∀ (x7 : Int), x7 = (4354685564936845355 : Int) → InR IntKind.u64 x7 → ∀ (x8 : Int), x8 = (11912009170470909681 : Int) → InR IntKind.u64 x8 → ∀ (x9 : Int), x9 = (5840696475078001361 : Int) → InR IntKind.u64 x9 → ∀ (x10 : Int), x10 = (11170449401992604703 : Int) → InR IntKind.u64 x10 → ∀ (x11 : Int), x11 = (2270897969802886507 : Int) → InR IntKind.u64 x11 → ∀ (x12 : Int), x12 = (6620516959819538809 : Int) → InR IntKind.u64 x12 → ∀ (x13 : List Int), x13 = List.replicate (128 : Nat) (0 : Int) → x13.length = (128 : Nat) → AllR IntKind.u8 x13 → K (SV.tup []) [Seg.arr IntKind.u64 (8 : Nat) true [x5, x6, x7, x8, x9, x10, x11, x12], Seg.arr IntKind.u8 (128 : Nat) false x13, Seg.one (SV.i IntKind.i64 { st := true, z := (0 : Int) }), Seg.one (SV.b true true)]) ∧ ((!x4) = false → K (SV.tup []) [Seg.arr IntKind.u64 (8 : Nat) false x1, Seg.arr IntKind.u8 (128 : Nat) false x2, Seg.one (SV.i IntKind.i64 { st := false, z := x3 }), Seg.one (SV.b false m)]) := by
  intros
  kernel_rfl
theorem vc28n_eq : ∀ (K : SV → Prop) (Q : Nat → List Pv → Prop), vc28n K Q = K (SV.tup []) := by
  intros
  kernel_rfl
theorem vc26n_eq : ∀ (K : SV → Prop) (Q : Nat → List Pv → Prop), vc26n K Q = K SV.np := by
  intros
  kernel_rfl
theorem vc26_eq : ∀ (ws bl : List Int) (n : Int) (m : Bool) (K : SV → List Seg → Prop) (Q : Nat → List Pv → Prop), vc26 ws bl n m K Q = ∀ (x1 : List Int), x1 = ws → x1.length = (8 : Nat) → AllR IntKind.u64 x1 → ∀ (x2 : List Int), x2 = bl → x2.length = (128 : Nat) → AllR IntKind.u8 x2 → ∀ (x3 : Int), x3 = n → InR IntKind.i64 x3 → ∀ (x4 : Bool), x4 = !m → (x4 = true → K SV.np [Seg.arr IntKind.u64 (8 : Nat) false x1, Seg.arr IntKind.u8 (128 : Nat) false x2, Seg.one (SV.i IntKind.i64 { st := false, z := x3 }), Seg.one (SV.b false m)]) ∧ (x4 = false → K (SV.p ((1003 : Nat) + (1 : Nat) + (1 : Nat) + (1 : Nat)) (0 : Nat)) [Seg.arr IntKind.u64 (8 : Nat) false x1, Seg.arr IntKind.u8 (128 : Nat) false x2, Seg.one (SV.i IntKind.i64 { st := false, z := x3 }), Seg.one (SV.b false m)]) := by
  intros
  kernel_rfl

def inv23 (b : List Int) (s : HS) (m : Bool) (key : Nat) (ps : List Pv) (mm : Nat) : Prop :=
  key = 1 ∧ ∃ j : Nat, j ≤ b.length ∧ ps = [.z (j : Int), .z ((b.length - j : Nat) : Int), .l K80, .l b, .l (feed (b.take j) s).ws, .l (feed (b.take j) s).bl, .z (feed (b.take j) s).n, .b m] ∧ mm = b.length - j

def writeS : List Seg → Con → Option (List Prop × SV × List Seg)
  | [.arr .u64 8 _ ws, .arr .u8 128 _ bl, .one (.i .i64 n), .one (.b _ m)], .ints .u8 b => some ([m = true → 0 ≤ n.z ∧ n.z ≤ 1152921504606846976], .tup [], [.arr .u64 8 false (wr m ⟨ws, bl, n.z⟩ b).ws, .arr .u8 128 false (wr m ⟨ws, bl, n.z⟩ b).bl, .one (.i .i64 ⟨false, (wr m ⟨ws, bl, n.z⟩ b).n⟩), .one (.b false m)])
  | _, _ => none

set_option maxHeartbeats 2000000 in
theorem writeV_ok : CallOk Tryd.prog gh 23 (methvCtr writeS) := by
  refine call_methv (fn := Tryd.f23) Γ5_ok rfl (fun g hg => by have hg : g ∈ [0, 2] := hg; simp at hg; omega) (by kernel_rfl) (by kernel_rfl) (by kernel_rfl) writeS (Nat.le_of_ble_eq_true (by kernel_rfl)) fun l q p v l' hs hp hf hq hlq => ?_
  unfold writeS at hs
  split at hs
  · rename_i e1 ws e2 bl n e3 m b
    simp only [Option.some.injEq, Prod.mk.injEq] at hs
    obtain ⟨rfl, rfl, rfl⟩ := hs
    obtain ⟨⟨hws, _⟩, ⟨hbl, hblr⟩, hn, _, _⟩ := hf
    obtain ⟨nT, n⟩ := n
    dsimp only at *
    have hp : m = true → 0 ≤ n ∧ n ≤ 1152921504606846976 := hp.1
    have hlb : ((b.length : Nat) : Int) < 9223372036854775808 := hlq
    refine ⟨fun dm ρ cs hcs => rec_pos (k' := .u64) (e' := true) (bl := []) dm ρ cs hcs, [.arr .u64 8 false ws, .arr .u8 128 false bl, .one (.i .i64 ⟨false, n⟩), .one (.b false m)], L23, fun key ps mm => m = true ∧ n + (b.length : Int) ≤ 1152921504606846976 ∧ inv23 b ⟨ws, bl, n⟩ m key ps mm, ⟨⟨rfl, rfl, rfl⟩, ⟨rfl, rfl, rfl⟩, ⟨rfl, rfl⟩, ⟨rfl, rfl⟩, trivial⟩, ?_, ?_, ?_⟩
    · intro k t ht g hg
      have hg : g ∈ [0, 2, 500, 600] := hg
      simp only [List.mem_cons, List.not_mem_nil, or_false] at hg
      simp only [L23, List.mem_cons, List.not_mem_nil, or_false, Prod.mk.injEq] at ht
      obtain ⟨rfl, rfl⟩ := ht
      rcases hg with rfl | rfl | rfl | rfl <;> exact ⟨by omega, rfl⟩
    · rintro vk t ps mm ht ⟨rfl, hle, rfl, j, hj, rfl, rfl⟩
      simp only [L23, List.mem_cons, List.not_mem_nil, or_false, Prod.mk.injEq] at ht
      obtain ⟨_, rfl⟩ := ht
      show lc23 (j : Int) ((b.length - j : Nat) : Int) K80 b (feed (b.take j) ⟨ws, bl, n⟩).ws (feed (b.take j) ⟨ws, bl, n⟩).bl (feed (b.take j) ⟨ws, bl, n⟩).n true _ _
      rw [lc23_eq]
      obtain ⟨hn0, hn1⟩ := hp rfl
      have hfn := feed_n (b.take j) ⟨ws, bl, n⟩
      rw [List.length_take, Nat.min_eq_left hj] at hfn
      have hfb := feed_bl (b.take j) ⟨ws, bl, n⟩
      dsimp only at hfn hfb
      generalize hS : feed (b.take j) ⟨ws, bl, n⟩ = S at hfn hfb ⊢
      refine ⟨fun hlt => ?_, fun hge => ?_⟩
      · have hlt := of_decide_eq_true hlt
        intro x1 e1 _
        have hx1 : x1 = S.n % 128 := by rw [e1, Int.tmod_eq_emod_of_nonneg (by omega)]
        refine ⟨need_of (by omega), need_of (by omega), need_of (by omega), fun x2 e2 l2 r2 x3 e3 l3 r3 x4 e4 r4 x5 e5 r5 => ?_⟩
        have hlen : ((List.take ((b.length - j : Nat) : Int).toNat (List.drop (j : Int).toNat b)).length : Int) = (b.length - j : Nat) := by
          rw [List.length_take, List.length_drop]; omega
        rw [hlen] at e5
        rw [Int.toNat_natCast, Int.toNat_natCast, List.take_of_length_le (i := b.length - j) (by rw [List.length_drop]; omega)] at e3
        refine ⟨need_of (by omega), fun x6 e6 r6 x7 e7 r7 => ?_⟩
        rw [wrap_i64 (by omega)] at e6 e7
        obtain ⟨c, rfl⟩ : ∃ c : Nat, x5 = (c : Int) := ⟨x5.toNat, by omega⟩
        have htk : List.take ((128 : Int) - x1).toNat (List.drop j b) = (b.drop j).take c := by
          rcases Nat.lt_or_ge ((128 : Int) - x1).toNat (b.length - j) with h | h
          · rw [show ((128 : Int) - x1).toNat = c by omega]
          · rw [List.take_of_length_le (by rw [List.length_drop]; omega), List.take_of_length_le (by rw [List.length_drop]; omega)]
        rw [htk] at e3
        have hcl : ((b.drop j).take c).length = c := by rw [List.length_take, List.length_drop]; omega
        have hnext : feed (b.take (j + c)) ⟨ws, bl, n⟩ = feed ((b.drop j).take c) S := by
          rw [List.take_add, feed_append, hS]
        have hch := feed_chunk ((b.drop j).take c) S (by omega) (by rw [hfb]; exact hbl) (by rw [hcl]; omega) (fun h => by rw [h] at hcl; simp at hcl; omega)
        rw [hcl] at hch
        have hx1n : x1.toNat = (S.n % 128).toNat := by rw [hx1]
        refine ⟨fun h7 => ?_, fun h7 => ?_⟩
        · have h7 := of_decide_eq_true h7
          intro x8 e8 _ _ x9 e9 _ _ x10 e10 _
          refine ⟨rfl, b.length - (j + c), by omega, rfl, hle, rfl, j + c, by omega, ?_, rfl⟩
          rw [hnext, hch, if_pos (by omega)]
          dsimp only
          rw [e10, e6, e9, e8, e2, e3, e4, hx1n]
          rw [show (j : Int) + (c : Int) = ((j + c : Nat) : Int) by omega, show ((b.length - j : Nat) : Int) - (c : Int) = ((b.length - (j + c) : Nat) : Int) by omega]
        · have h7 := of_decide_eq_false h7
          refine ⟨rfl, b.length - (j + c), by omega, rfl, hle, rfl, j + c, by omega, ?_, rfl⟩
          rw [hnext, hch, if_neg (by omega)]
          dsimp only
          rw [e6, e2, e3, e4, hx1n]
          rw [show (j : Int) + (c : Int) = ((j + c : Nat) : Int) by omega, show ((b.length - j : Nat) : Int) - (c : Int) = ((b.length - (j + c) : Nat) : Int) by omega]
      · have hge := of_decide_eq_false hge
        obtain rfl : j = b.length := by omega
        rw [List.take_of_length_le (Nat.le_refl _)] at hS
        have hw : wr true ⟨ws, bl, n⟩ b = S := by unfold wr; rw [if_pos ⟨rfl, by dsimp only; omega⟩, hS]
        rw [hw]
        exact ⟨trivial, ⟨rfl, rfl, rfl⟩, ⟨rfl, rfl, rfl⟩, ⟨rfl, rfl⟩, ⟨rfl, rfl⟩, trivial⟩
    · show vc23 ws bl n m b _ _
      rw [vc23_eq]
      intro x1 e1 _ _ x2 e2 _ _ x3 e3 _ x4 e4
      subst e1 e2 e3
      refine ⟨fun h4 => ?_, fun h4 => ?_⟩
      · obtain rfl : m = false := by rw [e4] at h4; simpa using h4
        have hw : wr false ⟨x1, x2, x3⟩ b = ⟨x1, x2, x3⟩ := by unfold wr; rw [if_neg (fun h => by cases h.1)]
        rw [hw]
        exact ⟨trivial, ⟨rfl, rfl, rfl⟩, ⟨rfl, rfl, rfl⟩, ⟨rfl, rfl⟩, ⟨rfl, rfl⟩, trivial⟩
      · obtain rfl : m = true := by rw [e4] at h4; simpa using h4
        obtain ⟨hn0, hn1⟩ := hp rfl
        intro x5 e5 _
        rw [wrap_i64 (by omega)] at e5
        refine ⟨fun hgt => ?_, fun hng => ?_⟩
        · have hgt := of_decide_eq_true hgt
          have hw : wr true ⟨x1, x2, x3⟩ b = ⟨x1, x2, x3⟩ := by unfold wr; rw [if_neg (fun h => by have := h.2; dsimp only at this; omega)]
          rw [hw]
          exact ⟨trivial, ⟨rfl, rfl, rfl⟩, ⟨rfl, rfl, rfl⟩, ⟨rfl, rfl⟩, ⟨rfl, rfl⟩, trivial⟩
        · have hng := of_decide_eq_false hng
          refine ⟨rfl, b.length - 0, rfl, by omega, rfl, 0, by omega, ?_, rfl⟩
          rfl
  · cases hs

def writeZ : List Seg → List SV → Option (List Prop × SV × List Seg)
  | [.arr .u64 8 _ ws, .arr .u8 128 _ bl, .one (.i .i64 n), .one (.b _ m)], [.nsl] => some ([], .tup [], [.arr .u64 8 false ws, .arr .u8 128 false bl, .one (.i .i64 ⟨false, n.z⟩), .one (.b false m)])
  | _, _ => none
theorem writeZ_ok : CallOk Tryd.prog gh 23 (methCtr writeZ) := by
  refine call_meth (fn := Tryd.f23) Γ5_ok rfl (fun g hg => by have hg : g ∈ [0, 2] := hg; simp at hg; omega) (by kernel_rfl) (by kernel_rfl) (by kernel_rfl) writeZ fun l rest p v l' hs hp hf hr => ?_
  unfold writeZ at hs
  split at hs
  · rename_i e1 ws e2 bl n e3 m
    simp only [Option.some.injEq, Prod.mk.injEq] at hs
    obtain ⟨rfl, rfl, rfl⟩ := hs
    obtain ⟨nT, n⟩ := n
    dsimp only at *
    refine ⟨fun dm ρ cs hcs => rec_pos (k' := .u64) (e' := true) (bl := []) dm ρ cs hcs, [.arr .u64 8 false ws, .arr .u8 128 false bl, .one (.i .i64 ⟨false, n⟩), .one (.b false m)], [.nsl], [], _, ⟨⟨rfl, rfl, rfl⟩, ⟨rfl, rfl, rfl⟩, ⟨rfl, rfl⟩, ⟨rfl, rfl⟩, trivial⟩, ⟨trivial, trivial⟩, Nat.le_of_ble_eq_true (by kernel_rfl), vcM_noloops ?_⟩
    show vc23z ws bl n m _ _
    rw [vc23z_eq]
    intro x1 e1 _ _ x2 e2 _ _ x3 e3 _ x4 e4
    subst e1 e2 e3
    have hk : ∀ x y z m, eqV (SV.tup []) (SV.tup []) ∧ eqSegs [Seg.arr IntKind.u64 8 false x, Seg.arr IntKind.u8 128 false y, Seg.one (SV.i IntKind.i64 ⟨false, z⟩), Seg.one (SV.b false m)] [Seg.arr IntKind.u64 8 false x, Seg.arr IntKind.u8 128 false y, Seg.one (SV.i IntKind.i64 ⟨false, z⟩), Seg.one (SV.b false m)] :=
      fun x y z m => ⟨trivial, ⟨rfl, rfl, rfl⟩, ⟨rfl, rfl, rfl⟩, ⟨rfl, rfl⟩, ⟨rfl, rfl⟩, trivial⟩
    exact ⟨fun _ => hk _ _ _ _, fun _ x5 _ _ => ⟨fun _ => hk _ _ _ _, fun _ => hk _ _ _ _⟩⟩
  · cases hs
def writeN : List RA → Option (List Prop × SV)
  | [.v .np, .c (.ints .u8 b)] => some ([], .tup [])
  | [.v .np, .n] => some ([], .tup [])
  | _ => none
theorem writeN_ok : CallOk Tryd.prog gh 23 (readCtr [false, true] writeN) := by
  refine call_read (fn := Tryd.f23) Γ5_ok rfl (fun g hg => by have hg : g ∈ [0, 2] := hg; simp at hg; omega) rfl (by kernel_rfl) (by kernel_rfl) [false, true] writeN fun ras P0 Y0 hs hp hv hc => ?_
  unfold writeN at hs
  split at hs
  · rename_i b
    simp only [Option.some.injEq, Prod.mk.injEq] at hs
    obtain ⟨rfl, rfl⟩ := hs
    refine ⟨[.np, .sl 500 0 1 ⟨true, 0⟩ ⟨false, ((b.length : Nat) : Int)⟩], [], _, ⟨trivial, rfl, trivial⟩, Nat.le_of_ble_eq_true (by kernel_rfl), vc_noloops ?_⟩
    show vc23b b _ _
    rw [vc23b_eq]
    exact trivial
  · simp only [Option.some.injEq, Prod.mk.injEq] at hs
    obtain ⟨rfl, rfl⟩ := hs
    refine ⟨[.np, .nsl], [], _, ⟨trivial, rfl, trivial⟩, Nat.le_of_ble_eq_true (by kernel_rfl), vc_noloops ?_⟩
    show vc23c _ _
    rw [vc23c_eq]
    exact trivial
  · cases hs

/-- A method of a pointer that may be nil, and of a slice that may be. -/
def wrCtr (cN cZ cV : Ctr) : Ctr := fun stamp args =>
  match args with
  | .np :: _ => cN stamp args
  | [_, .nsl] => cZ stamp args
  | _ => cV stamp args
theorem wr_ok {P : Program} {gh : Heap} {f : FuncId} {cN cZ cV : Ctr} (h1 : CallOk P gh f cN) (h2 : CallOk P gh f cZ) (h3 : CallOk P gh f cV) : CallOk P gh f (wrCtr cN cZ cV) := by
  intro stamp args H rs rs' d vs w0 M ρ w hG hc hp hD hm
  unfold wrCtr at hc
  split at hc
  · exact h1 stamp _ H rs rs' d vs w0 M ρ w hG hc hp hD hm
  · exact h2 stamp _ H rs rs' d vs w0 M ρ w hG hc hp hD hm
  · exact h3 stamp _ H rs rs' d vs w0 M ρ w hG hc hp hD hm

def resetS : List Seg → List SV → Option (List Prop × SV × List Seg)
  | [.arr .u64 8 _ ws, .arr .u8 128 _ bl, .one (.i .i64 n), .one (.b _ m)], [] => some ([], .tup [], [.arr .u64 8 false (if m = true then start8 else ws), .arr .u8 128 false (if m = true then List.replicate 128 0 else bl), .one (.i .i64 ⟨false, if m = true then 0 else n.z⟩), .one (.b false m)])
  | _, _ => none
theorem resetP_ok : CallOk Tryd.prog gh 28 (methCtr resetS) := by
  refine call_meth (fn := Tryd.f28) Γ5_ok rfl (fun g hg => by have hg : g ∈ [0, 2] := hg; simp at hg; omega) (by kernel_rfl) (by kernel_rfl) (by kernel_rfl) resetS fun l rest p v l' hs hp hf hr => ?_
  unfold resetS at hs
  split at hs
  · rename_i e1 ws e2 bl n e3 m
    simp only [Option.some.injEq, Prod.mk.injEq] at hs
    obtain ⟨rfl, rfl, rfl⟩ := hs
    obtain ⟨nT, n⟩ := n
    dsimp only at *
    refine ⟨fun dm ρ cs hcs => rec_pos (k' := .u64) (e' := true) (bl := []) dm ρ cs hcs, [.arr .u64 8 false ws, .arr .u8 128 false bl, .one (.i .i64 ⟨false, n⟩), .one (.b false m)], [], [], _, ⟨⟨rfl, rfl, rfl⟩, ⟨rfl, rfl, rfl⟩, ⟨rfl, rfl⟩, ⟨rfl, rfl⟩, trivial⟩, trivial, Nat.le_of_ble_eq_true (by kernel_rfl), vcM_noloops ?_⟩
    show vc28 ws bl n m _ _
    rw [vc28_eq]
    intro x1 e1 _ _ x2 e2 _ _ x3 e3 _ x4 e4
    subst e1 e2 e3
    refine ⟨fun h => ?_, fun h => ?_⟩
    · obtain rfl : m = true := by rw [e4] at h; simpa using h
      rintro x5 rfl _ x6 rfl _ x7 rfl _ x8 rfl _ x9 rfl _ x10 rfl _ x11 rfl _ x12 rfl _ x13 rfl _ _
      exact ⟨trivial, ⟨rfl, rfl, rfl⟩, ⟨rfl, rfl, rfl⟩, ⟨rfl, rfl⟩, ⟨rfl, rfl⟩, trivial⟩
    · obtain rfl : m = false := by rw [e4] at h; simpa using h
      exact ⟨trivial, ⟨rfl, rfl, rfl⟩, ⟨rfl, rfl, rfl⟩, ⟨rfl, rfl⟩, ⟨rfl, rfl⟩, trivial⟩
  · cases hs
def resetN : List SV → Option (List Prop × SV)
  | [.np] => some ([], .tup [])
  | _ => none
theorem resetN_ok : CallOk Tryd.prog gh 28 (pureCtr resetN) := by
  refine call_pure (fn := Tryd.f28) Γ5_ok rfl (by kernel_rfl) (by kernel_rfl) (by kernel_rfl) resetN fun args P0 Y0 hs hp hf => ?_
  unfold resetN at hs
  split at hs
  · simp only [Option.some.injEq, Prod.mk.injEq] at hs
    obtain ⟨rfl, rfl⟩ := hs
    refine ⟨[.np], [], _, ⟨trivial, trivial⟩, Nat.le_of_ble_eq_true (by kernel_rfl), vc_noloops ?_⟩
    show vc28n _ _
    rw [vc28n_eq]
    exact trivial
  · cases hs
def cloneN : List SV → Option (List Prop × SV)
  | [.np] => some ([], .np)
  | _ => none
theorem cloneN_ok : CallOk Tryd.prog gh 26 (pureCtr cloneN) := by
  refine call_pure (fn := Tryd.f26) Γ5_ok rfl (by kernel_rfl) (by kernel_rfl) (by kernel_rfl) cloneN fun args P0 Y0 hs hp hf => ?_
  unfold cloneN at hs
  split at hs
  · simp only [Option.some.injEq, Prod.mk.injEq] at hs
    obtain ⟨rfl, rfl⟩ := hs
    refine ⟨[.np], [], _, ⟨trivial, trivial⟩, Nat.le_of_ble_eq_true (by kernel_rfl), vc_noloops ?_⟩
    show vc26n _ _
    rw [vc26n_eq]
    exact trivial
  · cases hs
def cloneF : List Seg → List SV → Option (List Prop × SV × List Seg)
  | [.arr .u64 8 _ ws, .arr .u8 128 _ bl, .one (.i .i64 n), .one (.b _ m)], [] => some ([m = false], .np, [.arr .u64 8 false ws, .arr .u8 128 false bl, .one (.i .i64 ⟨false, n.z⟩), .one (.b false m)])
  | _, _ => none
theorem cloneF_ok : CallOk Tryd.prog gh 26 (methCtr cloneF) := by
  refine call_meth (fn := Tryd.f26) Γ5_ok rfl (fun g hg => by have hg : g ∈ [0, 2] := hg; simp at hg; omega) (by kernel_rfl) (by kernel_rfl) (by kernel_rfl) cloneF fun l rest p v l' hs hp hf hr => ?_
  unfold cloneF at hs
  split at hs
  · rename_i e1 ws e2 bl n e3 m
    simp only [Option.some.injEq, Prod.mk.injEq] at hs
    obtain ⟨rfl, rfl, rfl⟩ := hs
    obtain ⟨nT, n⟩ := n
    dsimp only at *
    have hmf : m = false := hp.1
    refine ⟨fun dm ρ cs hcs => rec_pos (k' := .u64) (e' := true) (bl := []) dm ρ cs hcs, [.arr .u64 8 false ws, .arr .u8 128 false bl, .one (.i .i64 ⟨false, n⟩), .one (.b false m)], [], [], _, ⟨⟨rfl, rfl, rfl⟩, ⟨rfl, rfl, rfl⟩, ⟨rfl, rfl⟩, ⟨rfl, rfl⟩, trivial⟩, trivial, Nat.le_of_ble_eq_true (by kernel_rfl), vcM_noloops ?_⟩
    show vc26 ws bl n m _ _
    rw [vc26_eq]
    intro x1 e1 _ _ x2 e2 _ _ x3 e3 _ x4 e4
    subst e1 e2 e3
    refine ⟨fun h => ?_, fun h => ?_⟩
    · exact ⟨trivial, ⟨rfl, rfl, rfl⟩, ⟨rfl, rfl, rfl⟩, ⟨rfl, rfl⟩, ⟨rfl, rfl⟩, trivial⟩
    · rw [e4, hmf] at h; cases h
  · cases hs
theorem write_ok : CallOk Tryd.prog gh 23 (wrCtr (readCtr [false, true] writeN) (methCtr writeZ) (methvCtr writeS)) := wr_ok writeN_ok writeZ_ok writeV_ok
theorem reset_ok : CallOk Tryd.prog gh 28 (nilCtr (pureCtr resetN) (methCtr resetS)) := nil_ok resetN_ok resetP_ok
theorem clone_ok : CallOk Tryd.prog gh 26 (nilCtr (pureCtr cloneN) (methCtr cloneF)) := nil_ok cloneN_ok cloneF_ok
def Γ6 : Tab := ⟨tys, [(23, wrCtr (readCtr [false, true] writeN) (methCtr writeZ) (methvCtr writeS)), (28, nilCtr (pureCtr resetN) (methCtr resetS)), (26, nilCtr (pureCtr cloneN) (methCtr cloneF))] ++ Γ5.ctr, [0, 2], gh⟩
theorem Γ6_ok : TabOk Tryd.prog Γ6 := ((Γ5_ok.cons clone_ok).cons reset_ok).cons write_ok
end Go.Gx
