/- Memory against a symbolic heap: growing, storing, handing a block over. -/
import Derived.Test.YtihihilhfijloaaDoorRel
namespace Go.Gx
open Go.RowKit
set_option linter.unusedVariables false

/-- The blocks that a call does not turn. -/
def OutB (w0 : World) (M : Nat → Prop) : Nat → Prop := fun b => b < w0.heap.size ∧ ¬ M b

def dmOf (H : Nat → Option SB) : Nat → Prop := fun k => (H k).isSome = true

def BlkD (dm : Nat → Prop) (ρ : Nat → Pl) (w : World) (key : Nat) : SB → Prop
  | .gone => True
  | .world => True
  | .segs ro l => ∃ vs, SegsD dm ρ l vs ∧ vs.length ≤ (ρ key).cap ∧ w.rangeAt (ρ key).blk (ρ key).off vs ∧ (ro = false → w.there (ρ key).blk (ρ key).off (ρ key).cap)

structure HeapD (ρ : Nat → Pl) (H : Nat → Option SB) (w : World) : Prop where
  blk : ∀ k b, H k = some b → BlkD (dmOf H) ρ w k b
  sep : ∀ k k' ro ro' l l', H k = some (.segs ro l) → H k' = some (.segs ro' l') → k ≠ k' → (ro = false ∨ ro' = false) → 0 < (ρ k).cap → 0 < (ρ k').cap → (ρ k).blk ≠ (ρ k').blk
  lt : ∀ k ro l, H k = some (.segs ro l) → 0 < (ρ k).cap → (ρ k).blk < w.heap.size

/-- Of what was there when 'w0' was, nothing has turned but in the blocks of M. -/
structure FrameW (M : Nat → Prop) (w0 w : World) : Prop where
  os : w.os = w0.os
  tape : w.tape = w0.tape
  output : w.output = w0.output
  size : w0.heap.size ≤ w.heap.size
  block : ∀ k, k < w0.heap.size → ¬ M k → w.heap[k]? = w0.heap[k]?

theorem FrameW.refl (M : Nat → Prop) (w : World) : FrameW M w w := ⟨rfl, rfl, rfl, Nat.le_refl _, fun _ _ _ => rfl⟩

theorem FrameW.trans {M : Nat → Prop} {a b c : World} (h : FrameW M a b) (k : FrameW M b c) : FrameW M a c :=
  ⟨k.os.trans h.os, k.tape.trans h.tape, k.output.trans h.output, Nat.le_trans h.size k.size, fun i hi hm => (k.block i (Nat.lt_of_lt_of_le hi h.size) hm).trans (h.block i hi hm)⟩

theorem FrameW.below {M : Nat → Prop} {a b : World} (h : FrameW M a b) (hM : ∀ k, ¬ M k) : Below a.heap.size a b :=
  ⟨h.os, h.tape, h.output, h.size, fun k hk => h.block k hk (hM k)⟩

theorem FrameW.of_below {M : Nat → Prop} {a b : World} (h : Below a.heap.size a b) : FrameW M a b := ⟨h.os, h.tape, h.output, h.size, fun k hk _ => h.block k hk⟩

structure Mem (w0 : World) (M : Nat → Prop) (ρ : Nat → Pl) (H : Nat → Option SB) (w : World) : Prop where
  heap : HeapD ρ H w
  frame : FrameW M w0 w
  own : ∀ k l, H k = some (.segs false l) → 0 < (ρ k).cap → w0.heap.size ≤ (ρ k).blk ∨ M (ρ k).blk
  view : ∀ k, H k = some .world → (ρ k).rel = RoD w0 (OutB w0 M)

def updH (H : Nat → Option SB) (key : Nat) (b : SB) : Nat → Option SB := fun k => if k = key then some b else H k
def updP (ρ : Nat → Pl) (key : Nat) (p : Pl) : Nat → Pl := fun k => if k = key then p else ρ k

theorem updH_same (H : Nat → Option SB) (key : Nat) (b : SB) : updH H key b key = some b := by simp [updH]
theorem updH_ne {H : Nat → Option SB} {key k : Nat} {b : SB} (h : k ≠ key) : updH H key b k = H k := by simp [updH, h]
theorem view_up {w0 : World} {M : Nat → Prop} {ρ : Nat → Pl} {H : Nat → Option SB} (h : ∀ k, H k = some .world → (ρ k).rel = RoD w0 (OutB w0 M)) {key : Nat} {b : SB} (hb : b ≠ .world) {p : Pl} : ∀ k, updH H key b k = some .world → (updP ρ key p k).rel = RoD w0 (OutB w0 M) := fun k hk => by
  by_cases e : k = key
  · subst e; simp [updH] at hk; exact absurd hk hb
  · simp only [updH, updP, e, if_false] at hk ⊢; exact h k hk
theorem view_upH {w0 : World} {M : Nat → Prop} {ρ : Nat → Pl} {H : Nat → Option SB} (h : ∀ k, H k = some .world → (ρ k).rel = RoD w0 (OutB w0 M)) {key : Nat} {b : SB} (hb : b ≠ .world) : ∀ k, updH H key b k = some .world → (ρ k).rel = RoD w0 (OutB w0 M) := fun k hk => by
  by_cases e : k = key
  · subst e; simp [updH] at hk; exact absurd hk hb
  · simp only [updH, e, if_false] at hk ⊢; exact h k hk
theorem updP_same (ρ : Nat → Pl) (key : Nat) (p : Pl) : updP ρ key p key = p := by simp [updP]
theorem updP_ne {ρ : Nat → Pl} {key k : Nat} {p : Pl} (h : k ≠ key) : updP ρ key p k = ρ k := by simp [updP, h]

theorem dm_updH (H : Nat → Option SB) (key : Nat) (b : SB) (k : Nat) (h : dmOf H k) : dmOf (updH H key b) k := by
  unfold dmOf updH at *; split <;> simp_all
theorem dm_updH_of {H : Nat → Option SB} {key : Nat} {b : SB} (hk : (H key).isSome = true) (k : Nat) (h : dmOf (updH H key b) k) : dmOf H k := by
  unfold dmOf updH at *; split at h <;> simp_all

theorem updP_keeps {H : Nat → Option SB} {ρ : Nat → Pl} {key : Nat} {p : Pl} (hn : H key = none) : ∀ k, dmOf H k → updP ρ key p k = ρ k := by
  intro k hk
  refine updP_ne fun e => ?_
  subst e
  unfold dmOf at hk
  rw [hn] at hk; cases hk

/-! ### Nothing is written -/

theorem there_of_block {w w' : World} {b o n : Nat} (h : w'.heap[b]? = w.heap[b]?) (ht : w.there b o n) : w'.there b o n := fun j hj => by
  have := ht j hj
  rw [World.cell?_of_block (a := ⟨b, o + j, none⟩) h, World.frozen?_of_block (a := ⟨b, o + j, none⟩) h]; exact this
theorem rangeAt_of_block {w w' : World} {b o : Nat} {cs : List Value} (h : w'.heap[b]? = w.heap[b]?) (ht : w.rangeAt b o cs) : w'.rangeAt b o cs := fun j v hv => by
  rw [World.cell?_of_block (a := ⟨b, o + j, none⟩) h]; exact ht j v hv

theorem rangeAt_nil (w : World) (b o : Nat) : w.rangeAt b o [] := fun j v h => by simp at h
theorem there_zero (w : World) (b o : Nat) : w.there b o 0 := fun j h => by omega

/-- A block whose cells stand. -/
theorem BlkD.of_block {dm dm' : Nat → Prop} {ρ ρ' : Nat → Pl} {w w' : World} {key : Nat} {b : SB} (hd : ∀ k, dm k → dm' k) (hρ : ∀ k, dm k → ρ' k = ρ k) (hk : ρ' key = ρ key)
    (hb : ∀ ro l, b = .segs ro l → 0 < (ρ key).cap → w'.heap[(ρ key).blk]? = w.heap[(ρ key).blk]?) (h : BlkD dm ρ w key b) : BlkD dm' ρ' w' key b := by
  cases b with
  | gone => trivial
  | world => trivial
  | segs ro l =>
    obtain ⟨vs, h1, h2, h3, h4⟩ := h
    rcases Nat.eq_zero_or_pos (ρ key).cap with h0 | h0
    · have hv : vs = [] := List.eq_nil_of_length_eq_zero (by omega)
      subst hv
      exact ⟨[], SegsD.mono hd hρ l [] h1, by simp, rangeAt_nil _ _ _, fun _ => by rw [hk, h0]; exact there_zero _ _ _⟩
    · have e := hb ro l rfl h0
      exact ⟨vs, SegsD.mono hd hρ l vs h1, by rw [hk]; exact h2, by rw [hk]; exact rangeAt_of_block e h3, fun hr => by rw [hk]; exact there_of_block e (h4 hr)⟩

/-- The world goes on, none of the heap's blocks is touched. -/
theorem HeapD.keep {ρ : Nat → Pl} {H : Nat → Option SB} {w w' : World} (h : HeapD ρ H w) (hs : w.heap.size ≤ w'.heap.size)
    (hb : ∀ k ro l, H k = some (.segs ro l) → 0 < (ρ k).cap → w'.heap[(ρ k).blk]? = w.heap[(ρ k).blk]?) : HeapD ρ H w' :=
  ⟨fun k b hk => (h.blk k b hk).of_block (fun _ h => h) (fun _ _ => rfl) rfl (fun ro l e => hb k ro l (by rw [hk, e])), h.sep, fun k ro l hk hc => Nat.lt_of_lt_of_le (h.lt k ro l hk hc) hs⟩

theorem Mem.drew {w0 : World} {M : Nat → Prop} {ρ : Nat → Pl} {H : Nat → Option SB} {w : World} (h : Mem w0 M ρ H w) (n : Nat) : Mem w0 M ρ H { w with drawn := n } :=
  ⟨h.heap.keep (Nat.le_refl _) (fun _ _ _ _ _ => rfl), ⟨h.frame.os, h.frame.tape, h.frame.output, h.frame.size, h.frame.block⟩, h.own, h.view⟩

theorem Mem.keep {w0 : World} {M : Nat → Prop} {ρ : Nat → Pl} {H : Nat → Option SB} {w w' : World} (h : Mem w0 M ρ H w) (hb : Below w.heap.size w w') : Mem w0 M ρ H w' :=
  ⟨h.heap.keep hb.size (fun k ro l hk hc => hb.block _ (h.heap.lt k ro l hk hc)), h.frame.trans (.of_below hb), h.own, h.view⟩

/-! ### A new block -/

theorem heap_alloc_lt (w : World) (o : Obj) {k : Nat} (h : k < w.heap.size) : (w.alloc o).heap[k]? = w.heap[k]? := by
  show (w.heap.push o)[k]? = _
  rw [Array.getElem?_push, if_neg (by omega)]

theorem heap_alloc_at (w : World) (o : Obj) : (w.alloc o).heap[w.heap.size]? = some o := by
  show (w.heap.push o)[w.heap.size]? = _
  simp

theorem Mem.alloc {w0 : World} {M : Nat → Prop} {ρ : Nat → Pl} {H : Nat → Option SB} {w : World} (h : Mem w0 M ρ H w) {key : Nat} (hn : H key = none) {l : List Seg} {vs : List Value}
    (hl : SegsD (dmOf H) ρ l vs) {cells : Array Value} {T : TypeId} {fr : Nat × Nat} {extra : List Value} (hc : cells.toList = vs ++ extra) (hfr : ∀ j, j < cells.size → ¬ (fr.1 ≤ j ∧ j < fr.2)) :
    Mem w0 M (updP ρ key ({ blk := w.heap.size, off := 0, cap := cells.size } : Pl)) (updH H key (.segs false l)) (w.alloc (.cells cells T fr)) := by
  have hk := updP_keeps (ρ := ρ) (p := ({ blk := w.heap.size, off := 0, cap := cells.size } : Pl)) hn
  have hne : ∀ k b, H k = some b → k ≠ key := fun k b hb e => by subst e; rw [hn] at hb; cases hb
  have hsz : vs.length ≤ cells.size := by rw [← Array.length_toList, hc]; simp
  refine ⟨⟨fun k b hb => ?_, fun k k' ro ro' l1 l2 h1 h2 hkk hr c1 c2 => ?_, fun k ro l1 h1 c1 => ?_⟩, ⟨h.frame.os, h.frame.tape, h.frame.output, by simp; exact Nat.le_succ_of_le h.frame.size, fun k hk1 hk2 => ?_⟩, fun k l1 h1 c1 => ?_, view_up h.view (by simp)⟩
  · by_cases e : k = key
    · subst e
      rw [updH_same] at hb
      simp only [Option.some.injEq] at hb; subst hb
      refine ⟨vs, SegsD.mono (dm_updH _ _ _) hk l vs hl, by rw [updP_same]; exact hsz, ?_, fun _ => ?_⟩
      · rw [updP_same]
        intro j v hv
        have hj : j < vs.length := (List.getElem?_eq_some_iff.1 hv).1
        rw [cell_of_row _ w.heap.size (0 + j) cells T fr (heap_alloc_at _ _)]
        rw [← Array.getElem?_toList, hc, Nat.zero_add, List.getElem?_append_left hj, hv]
      · rw [updP_same]
        intro j hj
        refine ⟨?_, ?_⟩
        · rw [cell_of_row _ w.heap.size (0 + j) cells T fr (heap_alloc_at _ _)]
          simp at hj ⊢; omega
        · show World.frozen? _ _ = false
          simp only [World.frozen?, heap_alloc_at]
          have := hfr j hj
          simp only [Nat.zero_add, Bool.and_eq_false_iff, decide_eq_false_iff_not]
          omega
    · rw [updH_ne e] at hb
      exact (h.heap.blk k b hb).of_block (dm_updH _ _ _) hk (updP_ne e) (fun ro l1 e1 c1 => heap_alloc_lt _ _ (h.heap.lt k ro l1 (by rw [hb, e1]) c1))
  · by_cases e : k = key
    · subst e
      rw [updH_ne (Ne.symm hkk)] at h2
      rw [updP_ne (Ne.symm hkk)] at c2
      have := h.heap.lt k' ro' l2 h2 c2
      rw [updP_same, updP_ne (Ne.symm hkk)]; intro hh
      rw [← hh] at this; simp at this
    · rw [updH_ne e] at h1
      rw [updP_ne e] at c1 ⊢
      by_cases e' : k' = key
      · subst e'
        have := h.heap.lt k ro l1 h1 c1
        rw [updP_same]; intro hh
        rw [hh] at this; simp at this
      · rw [updH_ne e'] at h2
        rw [updP_ne e'] at c2 ⊢
        exact h.heap.sep k k' ro ro' l1 l2 h1 h2 hkk hr c1 c2
  · by_cases e : k = key
    · subst e; rw [updP_same]; simp
    · rw [updH_ne e] at h1; rw [updP_ne e] at c1 ⊢; have := h.heap.lt k ro l1 h1 c1; simp; omega
  · rw [heap_alloc_lt _ _ (Nat.lt_of_lt_of_le hk1 h.frame.size)]; exact h.frame.block k hk1 hk2
  · by_cases e : k = key
    · subst e; rw [updP_same]; exact .inl h.frame.size
    · rw [updH_ne e] at h1; rw [updP_ne e] at c1 ⊢; exact h.own k l1 h1 c1

/-! ### A store -/

theorem setCells_block (b : Nat) : ∀ (vs : List Value) (o : Nat) (w : World) (k : Nat), k ≠ b → (w.setCells b o vs).heap[k]? = w.heap[k]?
  | [], _, _, _, _ => rfl
  | v :: r, o, w, k, h => by
    rw [World.setCells, setCells_block b r (o + 1) _ k h]
    exact Below.heap_setCell _ _ _ _ (by simpa using h)
theorem setCells_size (b : Nat) : ∀ (vs : List Value) (o : Nat) (w : World), (w.setCells b o vs).heap.size = w.heap.size
  | [], _, _ => rfl
  | v :: r, o, w => by rw [World.setCells, setCells_size b r (o + 1)]; simp
theorem setCells_os (b : Nat) : ∀ (vs : List Value) (o : Nat) (w : World), (w.setCells b o vs).os = w.os ∧ (w.setCells b o vs).tape = w.tape ∧ (w.setCells b o vs).output = w.output
  | [], _, _ => ⟨rfl, rfl, rfl⟩
  | v :: r, o, w => by rw [World.setCells]; exact setCells_os b r (o + 1) _

theorem Mem.store {w0 : World} {M : Nat → Prop} {ρ : Nat → Pl} {H : Nat → Option SB} {w : World} (h : Mem w0 M ρ H w) {key : Nat} {l l' : List Seg} (hk : H key = some (.segs false l))
    {vs vs' nv : List Value} {o : Nat} (hr : w.rangeAt (ρ key).blk (ρ key).off vs) (ho : o ≤ vs.length) (hcap : o + nv.length ≤ (ρ key).cap) (hcap' : vs.length ≤ (ρ key).cap)
    (hvs : vs' = vs.take o ++ nv ++ vs.drop (o + nv.length)) (hl : SegsD (dmOf H) ρ l' vs') :
    Mem w0 M ρ (updH H key (.segs false l')) (w.setCells (ρ key).blk ((ρ key).off + o) nv) := by
  have hth : w.there (ρ key).blk (ρ key).off (ρ key).cap := by
    obtain ⟨_, _, _, _, h4⟩ := h.heap.blk key _ hk; exact h4 rfl
  have hsome : (H key).isSome = true := by rw [hk]; rfl
  have hos := setCells_os (ρ key).blk nv ((ρ key).off + o) w
  have hsz := setCells_size (ρ key).blk nv ((ρ key).off + o) w
  refine ⟨⟨fun k b hb => ?_, fun k k' ro ro' l1 l2 h1 h2 hkk hr c1 c2 => ?_, fun k ro l1 h1 c1 => ?_⟩, ⟨hos.1.trans h.frame.os, hos.2.1.trans h.frame.tape, hos.2.2.trans h.frame.output, by rw [hsz]; exact h.frame.size, fun k hk1 hk2 => ?_⟩, fun k l1 h1 c1 => ?_, view_upH h.view (by simp)⟩
  · by_cases e : k = key
    · subst e
      rw [updH_same] at hb
      simp only [Option.some.injEq] at hb; subst hb
      have hlen : vs'.length ≤ (ρ k).cap := by rw [hvs]; simp; omega
      refine ⟨vs', SegsD.mono (dm_updH _ _ _) (fun _ _ => rfl) l' vs' hl, hlen, ?_, fun _ => World.there_setCells hth _ _ _⟩
      intro j v hv
      by_cases c1 : j < o
      · rw [World.cell?_setCells_out _ _ _ _ ⟨(ρ k).blk, (ρ k).off + j, none⟩ (fun _ _ => Or.inl (by show (ρ k).off + j < (ρ k).off + o; omega))]
        refine hr j v ?_
        rw [hvs, List.append_assoc, List.getElem?_append_left (by simp; omega), List.getElem?_take, if_pos c1] at hv
        exact hv
      · by_cases c2 : j < o + nv.length
        · have hlt : j - o < nv.length := by omega
          have hth2 : ∀ i, i < nv.length → (w.cell? ⟨(ρ k).blk, (ρ k).off + o + i, none⟩).isSome = true := fun i hi => by
            have := (hth (o + i) (by omega)).1
            rwa [← Nat.add_assoc] at this
          have := World.cell?_setCells_in (ρ k).blk nv ((ρ k).off + o) w hth2 (j - o) hlt
          rw [show (ρ k).off + o + (j - o) = (ρ k).off + j by omega] at this
          rw [this]
          rw [hvs, List.append_assoc, List.getElem?_append_right (by simp; omega)] at hv
          simp only [List.length_take, Nat.min_eq_left ho] at hv
          rw [List.getElem?_append_left hlt] at hv
          rw [← hv, List.getElem?_eq_getElem hlt]
        · rw [World.cell?_setCells_out _ _ _ _ ⟨(ρ k).blk, (ρ k).off + j, none⟩ (fun _ _ => Or.inr (by show (ρ k).off + o + nv.length ≤ (ρ k).off + j; omega))]
          refine hr j v ?_
          rw [hvs, List.append_assoc, List.getElem?_append_right (by simp; omega)] at hv
          simp only [List.length_take, Nat.min_eq_left ho] at hv
          rw [List.getElem?_append_right (by omega), List.getElem?_drop] at hv
          rwa [show o + nv.length + (j - o - nv.length) = j by omega] at hv
    · rw [updH_ne e] at hb
      refine (h.heap.blk k b hb).of_block (dm_updH _ _ _) (fun _ _ => rfl) rfl (fun ro l1 e1 c1 => ?_)
      rcases Nat.eq_zero_or_pos (ρ key).cap with h0 | h0
      · have hv : nv = [] := List.eq_nil_of_length_eq_zero (by omega)
        rw [hv]; rfl
      · exact setCells_block _ _ _ _ _ (h.heap.sep k key ro false l1 l (by rw [hb, e1]) hk e (.inr rfl) c1 h0)
  · have hx : ∀ k ro l1, updH H key (.segs false l') k = some (.segs ro l1) → ∃ l2, H k = some (.segs ro l2) := fun k ro l1 h1 => by
      by_cases e : k = key
      · subst e; rw [updH_same] at h1; simp only [Option.some.injEq, SB.segs.injEq] at h1; rw [← h1.1]; exact ⟨_, hk⟩
      · rw [updH_ne e] at h1; exact ⟨_, h1⟩
    obtain ⟨m1, e1⟩ := hx k ro l1 h1
    obtain ⟨m2, e2⟩ := hx k' ro' l2 h2
    exact h.heap.sep k k' ro ro' m1 m2 e1 e2 hkk hr c1 c2
  · rw [hsz]
    by_cases e : k = key
    · subst e; exact h.heap.lt k false l hk c1
    · rw [updH_ne e] at h1; exact h.heap.lt k ro l1 h1 c1
  · rcases Nat.eq_zero_or_pos (ρ key).cap with h0 | h0
    · have hv : nv = [] := List.eq_nil_of_length_eq_zero (by omega)
      rw [hv]; exact h.frame.block k hk1 hk2
    · rw [setCells_block]
      · exact h.frame.block k hk1 hk2
      · intro e
        rcases h.own key l hk h0 with h' | h'
        · omega
        · rw [e] at hk2; exact hk2 h'
  · by_cases e : k = key
    · subst e; exact h.own k l hk c1
    · rw [updH_ne e] at h1; exact h.own k l1 h1 c1

/-! ### A block let go, or under another key -/

theorem Mem.gone {w0 : World} {M : Nat → Prop} {ρ : Nat → Pl} {H : Nat → Option SB} {w : World} (h : Mem w0 M ρ H w) (key : Nat) (hk : (H key).isSome = true) : Mem w0 M ρ (updH H key .gone) w := by
  have hx : ∀ k ro l, updH H key .gone k = some (.segs ro l) → H k = some (.segs ro l) := fun k ro l h1 => by
    by_cases e : k = key
    · subst e; rw [updH_same] at h1; cases h1
    · rwa [updH_ne e] at h1
  refine ⟨⟨fun k b hb => ?_, fun k k' ro ro' l1 l2 h1 h2 => h.heap.sep k k' ro ro' l1 l2 (hx _ _ _ h1) (hx _ _ _ h2), fun k ro l1 h1 => h.heap.lt k ro l1 (hx _ _ _ h1)⟩, h.frame, fun k l1 h1 => h.own k l1 (hx _ _ _ h1), view_upH h.view (by simp)⟩
  by_cases e : k = key
  · subst e; rw [updH_same] at hb; simp only [Option.some.injEq] at hb; subst hb; trivial
  · rw [updH_ne e] at hb
    exact (h.heap.blk k b hb).of_block (dm_updH _ _ _) (fun _ _ => rfl) rfl (fun _ _ _ _ => rfl)

theorem Mem.rekey {w0 : World} {M : Nat → Prop} {ρ : Nat → Pl} {H : Nat → Option SB} {w : World} (h : Mem w0 M ρ H w) {key new : Nat} {l : List Seg} (hk : H key = some (.segs false l)) (hn : H new = none) :
    Mem w0 M (updP ρ new (ρ key)) (updH (updH H key .gone) new (.segs false l)) w := by
  have hne : new ≠ key := fun e => by rw [e, hk] at hn; cases hn
  have hg := h.gone key (by rw [hk]; rfl)
  have hn' : updH H key .gone new = none := by rw [updH_ne hne]; exact hn
  have hkp := updP_keeps (ρ := ρ) (p := ρ key) hn'
  refine ⟨⟨fun k b hb => ?_, fun k k' ro ro' l1 l2 h1 h2 hkk hr c1 c2 => ?_, fun k ro l1 h1 c1 => ?_⟩, h.frame, fun k l1 h1 c1 => ?_, view_up (view_upH h.view (by simp)) (by simp)⟩
  · by_cases e : k = new
    · subst e
      rw [updH_same] at hb; simp only [Option.some.injEq] at hb; subst hb
      obtain ⟨vs, h1, h2, h3, h4⟩ := h.heap.blk key _ hk
      refine ⟨vs, SegsD.mono (fun k hk => dm_updH _ _ _ k (dm_updH _ _ _ k hk)) (fun k hk => hkp k (dm_updH _ _ _ k hk)) l vs h1, by rw [updP_same]; exact h2, by rw [updP_same]; exact h3, fun hr => by rw [updP_same]; exact h4 hr⟩
    · rw [updH_ne e] at hb
      exact (hg.heap.blk k b hb).of_block (dm_updH _ _ _) hkp (updP_ne e) (fun _ _ _ _ => rfl)
  · have hx : ∀ k ro l1, updH (updH H key .gone) new (.segs false l) k = some (.segs ro l1) → (k = new ∧ ro = false) ∨ (k ≠ new ∧ k ≠ key ∧ H k = some (.segs ro l1)) := fun k ro l1 h1 => by
      by_cases e : k = new
      · subst e; rw [updH_same] at h1; simp only [Option.some.injEq, SB.segs.injEq] at h1; exact .inl ⟨rfl, h1.1.symm⟩
      · rw [updH_ne e] at h1
        by_cases e' : k = key
        · subst e'; rw [updH_same] at h1; cases h1
        · rw [updH_ne e'] at h1; exact .inr ⟨e, e', h1⟩
    rcases hx _ _ _ h1 with ⟨rfl, rfl⟩ | ⟨n1, n2, e1⟩ <;> rcases hx _ _ _ h2 with ⟨rfl, rfl⟩ | ⟨n1', n2', e2⟩
    · exact absurd rfl hkk
    · rw [updP_same] at c1 ⊢; rw [updP_ne n1'] at c2 ⊢; exact h.heap.sep key k' false ro' l l2 hk e2 (Ne.symm n2') (.inl rfl) c1 c2
    · rw [updP_same] at c2 ⊢; rw [updP_ne n1] at c1 ⊢; exact h.heap.sep k key ro false l1 l e1 hk n2 (.inr rfl) c1 c2
    · rw [updP_ne n1] at c1 ⊢; rw [updP_ne n1'] at c2 ⊢; exact h.heap.sep k k' ro ro' l1 l2 e1 e2 hkk hr c1 c2
  · by_cases e : k = new
    · subst e; rw [updP_same] at c1 ⊢; exact h.heap.lt key false l hk c1
    · rw [updH_ne e] at h1; rw [updP_ne e] at c1 ⊢; exact hg.heap.lt k ro l1 h1 c1
  · by_cases e : k = new
    · subst e; rw [updP_same] at c1 ⊢; exact h.own key l hk c1
    · rw [updH_ne e] at h1; rw [updP_ne e] at c1 ⊢; exact hg.own k l1 h1 c1

/-! ### The list that a heap is -/

theorem assoc_hset : ∀ (h h' : Heap) (key : Nat) (b : SB), hset h key b = some h' → assoc h' = updH (assoc h) key b
  | [], h', key, b, hs => by
    simp only [hset, Option.some.injEq] at hs; subst hs
    funext k
    simp only [assoc, updH]
    by_cases e : k = key
    · subst e; simp [Nat.beq_refl]
    · have : Nat.beq key k = false := by
        cases hb : Nat.beq key k with
        | false => rfl
        | true => exact absurd (Nat.eq_of_beq_eq_true hb).symm e
      simp [e, this]
  | (k', b') :: r, h', key, b, hs => by
    simp only [hset] at hs
    split at hs
    · rename_i hb
      have := Nat.eq_of_beq_eq_true hb
      subst this
      simp only [Option.some.injEq] at hs; subst hs
      funext k
      simp only [assoc, updH]
      by_cases e : k = k'
      · subst e; simp [Nat.beq_refl]
      · have : Nat.beq k' k = false := by
          cases hb : Nat.beq k' k with
          | false => rfl
          | true => exact absurd (Nat.eq_of_beq_eq_true hb).symm e
        simp [e, this]
    · rename_i hb
      have hne : k' ≠ key := fun e => by subst e; rw [Nat.beq_refl] at hb; cases hb
      split at hs
      · rename_i r' hr'
        simp only [Option.some.injEq] at hs; subst hs
        have ih := assoc_hset r r' key b hr'
        funext k
        simp only [assoc, ih, updH]
        by_cases e : k = key
        · subst e; simp [hb]
        · simp [e]
      · cases hs

def updsH (H : Nat → Option SB) : List (Nat × SB) → Nat → Option SB
  | [] => H
  | (k, b) :: r => updsH (updH H k b) r

theorem assoc_hsets : ∀ (ws : List (Nat × SB)) (h h' : Heap), hsets ws h = some h' → assoc h' = updsH (assoc h) ws
  | [], h, h', hs => by simp only [hsets, Option.some.injEq] at hs; subst hs; rfl
  | (k, b) :: r, h, h', hs => by
    simp only [hsets] at hs
    split at hs
    · rename_i h1 e1
      rw [assoc_hsets r h1 h' hs, assoc_hset h h1 k b e1]; rfl
    · cases hs

theorem dm_updsH : ∀ (ws : List (Nat × SB)) (H : Nat → Option SB) (k : Nat), dmOf H k → dmOf (updsH H ws) k
  | [], H, k, h => h
  | (k', b) :: r, H, k, h => dm_updsH r _ k (dm_updH H k' b k h)

end Go.Gx
