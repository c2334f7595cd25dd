/- Part 2 of the proof: the evaluator of the code, its soundness, and what it shows of the functions. -/
import Derived.Test.YthgclfedhgmpiaaDoorM1
import Derived.Great.BuildSlice
import Derived.Laws.MakeOwn

/- Boxes in the memory: let go, joined, seen. -/
namespace Go.Gx
open Go.RowKit
set_option linter.unusedVariables false

section
variable {w0 : World} {M : Nat → Prop} {ρ : Nat → Pl} {H : Nat → Option SB} {w : World}

theorem PoolD.cell {p : Pl} {k : IntKind} {v : Option (Nat × Nat)} {ms : List (List Int)} (hP : PoolD w0 M w p (.b k v) ms) {r : Nat} (hr : r < ms.length) :
  AllR k (ms.getD r []) ∧ 0 < p.pc r ∧ w.there (p.pb r) (p.po r) (p.pc r) ∧ ∃ a cap, w.cell? ⟨p.pb r, p.po r, none⟩ = some (.slice a (ms.getD r []).length cap) ∧ (ms.getD r []).length ≤ cap ∧
   ((∃ b o, a = some ⟨b, o, none⟩ ∧ w.rangeAt b o ((ms.getD r []).map (Value.int k)) ∧ w.there b o cap) ∨ (ms.getD r [] = [] ∧ cap = 0)) := by
 have hrm : ms[r]? = some (ms.getD r []) := by rw [List.getD_eq_getElem?_getD, List.getElem?_eq_getElem hr]; rfl
 obtain ⟨vs, ⟨h1, a, cap, rfl, h3, h4⟩, h5, h6, h7⟩ := hP.rowD r _ hrm
 simp at h5
 exact ⟨h1, h5, h7, a, cap, by simpa using h6 0 _ rfl, h3, h4⟩

theorem setCells_cell {b o : Nat} {v : Value} (h : (w.cell? ⟨b, o, none⟩).isSome = true) : (w.setCells b o [v]).cell? ⟨b, o, none⟩ = some v := by
 have := World.cell?_setCells_in b [v] o w (fun i hi => by
  have : i = 0 := by simp at hi; omega
  subst this; exact h) 0 (by simp)
 simpa using this

theorem FzD.hav {p : Pl} (h : FzD w p) : HavD w p := by
 obtain ⟨wF, h1, h2⟩ := h
 exact ⟨wF, h1, fun b x hb => by rw [World.cell?_of_block (a := ⟨b, x, none⟩) (h2 b hb)]; exact .inl rfl⟩
theorem PoolD.spoil {p : Pl} {ms : List (List Int)} (h : PoolD w0 M w p .z ms) : PoolD w0 M w p .h ms :=
 ⟨h.cnt, h.rowD, fun i c hi ho => h.ltD i c hi ho, fun i c hi ho => h.ownD i c hi ho, fun i c hi ho => h.cleanD i c hi ho, fun i j c hi hj ho ho' => h.sepD i j c hi hj ho ho', h.inn, (fun e => by cases e), fun _ => (h.fzD rfl).hav, (fun e => by cases e)⟩

theorem PoolD.drop {p : Pl} {k : IntKind} {v v' : Option (Nat × Nat)} {ms : List (List Int)} (h : PoolD w0 M w p (.b k v) ms) : PoolD w0 M w p (.b k v') ms :=
 ⟨h.cnt, h.rowD, fun i c hi ho => h.ltD i c hi ho, fun i c hi ho => h.ownD i c hi ho, fun i c hi ho => h.cleanD i c hi ho, fun i j c hi hj ho ho' => h.sepD i j c hi hj ho ho', h.inn, (fun e => by cases e), (fun e => by cases e), (fun e => by cases e)⟩

theorem PkLe.own {a b : PK} (h : PkLe a b) {p : Pl} {i c : Nat} (ho : OwnB w p a i c) : OwnB w p b i c := by
 obtain ⟨_, rfl | ⟨k, v, rfl, rfl⟩ | ⟨rfl, rfl⟩⟩ := h
 ·exact ho
 ·exact ho
 ·exact ho
theorem PkLe.pool {a b : PK} (h : PkLe a b) {p : Pl} {ms : List (List Int)} (hp : PoolD w0 M w p b ms) : PoolD w0 M w p a ms := by
 obtain ⟨_, rfl | ⟨k, v, rfl, rfl⟩ | ⟨rfl, rfl⟩⟩ := h
 ·exact hp
 ·exact hp.drop
 ·exact hp.spoil

theorem Mem.box_nil (h : Mem w0 M ρ H w) {key : Nat} {k : IntKind} {v : Option (Nat × Nat)} {ms : List (List Int)} (hk : H key = some (.pool (.b k v) ms)) {r : Nat} (hrl : r < ms.length) :
  Mem w0 M ρ (updH H key (.pool (.b k none) (ms.set r []))) (w.setCells ((ρ key).pb r) ((ρ key).po r) [.slice none 0 0]) := by
 have hP := h.pools.pool key _ ms hk
 obtain ⟨_, hc, hth, a0, cap0, hcell, _, _⟩ := hP.cell hrl
 have hos := setCells_os ((ρ key).pb r) [.slice none 0 0] ((ρ key).po r) w
 have hsz := setCells_size ((ρ key).pb r) [.slice none 0 0] ((ρ key).po r) w
 have hnew := setCells_cell (w := w) (b := (ρ key).pb r) (o := (ρ key).po r) (v := .slice none 0 0) (by rw [hcell]; rfl)
 generalize hw' : w.setCells ((ρ key).pb r) ((ρ key).po r) [.slice none 0 0] = w' at *
 have hblk : ∀ c, c ≠ (ρ key).pb r → w'.heap[c]? = w.heap[c]? := fun c hne => by rw [← hw']; exact setCells_block _ _ _ _ _ hne
 have hnb : ∀ c, ¬ boxB w' ((ρ key).pb r) ((ρ key).po r) c := fun c ⟨o', n, cap, e, _⟩ => by rw [hnew] at e; cases e
 have hx1 : ∀ k' ro l, updH H key (.pool (.b k none) (ms.set r [])) k' = some (.segs ro l) → k' ≠ key ∧ H k' = some (.segs ro l) := fun k' ro l h1 => by
  by_cases e : k' = key
  ·subst e; rw [updH_same] at h1; cases h1
  ·rw [updH_ne e] at h1; exact ⟨e, h1⟩
 have hx2 : ∀ k' kd ms', updH H key (.pool (.b k none) (ms.set r [])) k' = some (.pool kd ms') → (k' = key ∧ kd = .b k none ∧ ms' = ms.set r []) ∨ (k' ≠ key ∧ H k' = some (.pool kd ms')) := fun k' kd ms' h1 => by
  by_cases e : k' = key
  ·subst e; rw [updH_same] at h1; simp only [Option.some.injEq, SB.pool.injEq] at h1; exact .inl ⟨rfl, h1.1.symm, h1.2.symm⟩
  ·rw [updH_ne e] at h1; exact .inr ⟨e, h1⟩
 have hlen : ∀ k' kd ms', updH H key (.pool (.b k none) (ms.set r [])) k' = some (.pool kd ms') → ∃ kd0 ms0, H k' = some (.pool kd0 ms0) ∧ ms0.length = ms'.length ∧ (k' = key → kd0 = .b k v) := fun k' kd ms' h1 => by
  rcases hx2 k' kd ms' h1 with ⟨rfl, rfl, rfl⟩ | ⟨hne, e⟩
  ·exact ⟨_, ms, hk, by simp, fun _ => rfl⟩
  ·exact ⟨kd, ms', e, rfl, fun e => absurd e hne⟩
 have hOk : ∀ i c, i < ms.length → OwnB w' (ρ key) (.b k none) i c → OwnB w (ρ key) (.b k v) i c := fun i c hi ⟨h0, h1⟩ => by
  by_cases e : i = r
  ·subst e
   rcases h1 with h1 | ⟨_, h1⟩
   ·exact ⟨h0, .inl h1⟩
   ·exact absurd h1 (hnb c)
  ·rcases h1 with h1 | ⟨_, h1⟩
   ·exact ⟨h0, .inl h1⟩
   ·exact ⟨h0, .inr ⟨rfl, h1.of_block (hblk _ fun e2 => e (hP.sep i r hi hrl h0 hc e2))⟩⟩
 have hO : ∀ k' kd ms' kd0 ms0 i c, updH H key (.pool (.b k none) (ms.set r [])) k' = some (.pool kd ms') → H k' = some (.pool kd0 ms0) → i < ms0.length → OwnB w' (ρ k') kd i c → OwnB w (ρ k') kd0 i c := fun k' kd ms' kd0 ms0 i c h1 h0 hi ho => by
   rcases hx2 k' kd ms' h1 with ⟨rfl, rfl, rfl⟩ | ⟨hne, e⟩
   ·rw [hk] at h0
    simp only [Option.some.injEq, SB.pool.injEq] at h0
    obtain ⟨rfl, rfl⟩ := h0
    exact hOk i c hi ho
   ·rw [h0] at e
    simp only [Option.some.injEq, SB.pool.injEq] at e
    obtain ⟨rfl, rfl⟩ := e
    exact ho.of_block fun hp => hblk _ fun e2 => h.pools.twoD k' _ ms0 key _ ms i r _ h0 hk hne hi hrl (.pb hp) (by rw [e2]; exact .pb hc)
 refine ⟨⟨fun k' b hb => ?_, fun k1 k2 ro ro' l1 l2 h1 h2 hkk hro c1 c2 => h.heap.sep k1 k2 ro ro' l1 l2 (hx1 _ _ _ h1).2 (hx1 _ _ _ h2).2 hkk hro c1 c2, fun k' ro l1 h1 c1 => ?_⟩,
  ⟨hos.1.trans h.frame.os, hos.2.1.trans h.frame.tape, hos.2.2.trans h.frame.output, by rw [hsz]; exact h.frame.size, fun k' hk1 hk2 => ?_⟩, fun k' l1 h1 c1 => h.own k' l1 (hx1 _ _ _ h1).2 c1, view_upH h.view (by simp), fun k' l1 h1 c1 => ?_, ?_⟩
 ·by_cases e : k' = key
  ·subst e; rw [updH_same] at hb; simp only [Option.some.injEq] at hb; subst hb; trivial
  ·rw [updH_ne e] at hb
   exact (h.heap.blk k' b hb).of_block (dm_updH _ _ _) (fun _ _ => .refl _) rfl (fun ro l1 e1 c1 => hblk _ (h.pools.apart key _ ms k' ro l1 r hk (by rw [hb, e1]) c1 hrl hc))
 ·rw [hsz]; exact h.heap.lt k' ro l1 (hx1 _ _ _ h1).2 c1
 ·rw [hblk]
  ·exact h.frame.block k' hk1 hk2
  ·intro e
   rcases hP.own r hrl hc with h' | h'
   ·omega
   ·rw [e] at hk2; exact hk2 h'
 ·rw [← hw']; exact clean_setCells _ _ _ (h.clean k' l1 (hx1 _ _ _ h1).2 c1)
 ·refine ⟨fun k' kd ms' hk' => ?_, fun k1 kd ms1 k2 ro l i c h1 h2 c1 hi hc1 => ?_, fun k1 kd1 ms1 k2 kd2 ms2 i j c h1 h2 hkk hi hj c1 c2 => ?_, fun k' kb q r' ms' hk' => ?_⟩
  rotate_left 3
  ·rcases hx2 _ _ _ hk' with ⟨rfl, e, rfl⟩ | ⟨hne, e⟩
   ·cases e
   ·obtain ⟨v1, v2, v3, v4⟩ := h.pools.view k' kb q r' ms' e
    exact ⟨dm_updH _ _ _ _ v1, v2, v3, v4.step (hblk _ fun e2 => h.pools.two k' _ ms' key _ ms r' r e hk hne v2 hrl v3 hc e2) (.refl _)⟩
  ·rcases hx2 k' kd ms' hk' with ⟨rfl, rfl, rfl⟩ | ⟨hne, e⟩
   ·refine ⟨by rw [List.length_set]; exact hP.cnt, fun i m' hi => ?_, fun i c hi ho => by rw [hsz]; exact hP.ltD i c (by simpa using hi) (hOk i c (by simpa using hi) ho), fun i c hi ho => hP.ownD i c (by simpa using hi) (hOk i c (by simpa using hi) ho),
     fun i c hi ho => by rw [← hw']; exact clean_setCells _ _ _ (hP.cleanD i c (by simpa using hi) (hOk i c (by simpa using hi) ho)), fun i j c hi hj ho ho' => hP.sepD i j c (by simpa using hi) (by simpa using hj) (hOk i c (by simpa using hi) ho) (hOk j c (by simpa using hj) ho'), fun i hi h0 hb hx => ?_, (fun e => by cases e), (fun e => by cases e), (fun e => by cases e)⟩
    ·by_cases e : r = i
     ·subst e
      rw [List.getElem?_set_self hrl] at hi
      simp only [Option.some.injEq] at hi; subst hi
      refine ⟨[.slice none 0 0], ⟨fun z hz => (by cases hz), none, 0, rfl, Nat.le_refl _, .inr ⟨rfl, rfl⟩⟩, hc, fun j u hj => ?_, by rw [← hw']; exact World.there_setCells hth _ _ _⟩
      have : j = 0 := by have := (List.getElem?_eq_some_iff.1 hj).1; simp at this; omega
      subst this
      simp at hj; subst hj
      exact hnew
     ·rw [set_get_ne e] at hi
      obtain ⟨vs, b1, b2, b3, b4⟩ := hP.rowD i m' hi
      have hil := (List.getElem?_eq_some_iff.1 hi).1
      rcases Nat.eq_zero_or_pos ((ρ k').pc i) with c | c
      ·have : vs = [] := List.eq_nil_of_length_eq_zero (by omega)
       refine ⟨vs, b1.step b2 b3 fun c' h0 _ _ => by omega, b2, by rw [this]; exact rangeAt_nil' _ _ _, fun j hj => by omega⟩
      ·have hb : w'.heap[(ρ k').pb i]? = w.heap[(ρ k').pb i]? := hblk _ (fun e2 => e (hP.sep r i hrl hil hc c e2.symm))
       exact ⟨vs, b1.step b2 b3 fun c' h0 hb' hx => hblk _ fun e2 => e (hP.sepD r i c' hrl hil (by rw [e2]; exact .pb hc) ⟨c, .inr ⟨hb', hx⟩⟩), b2, rangeAt_of_block' hb b3, there_of_block' hb b4⟩
    ·have hi' : i < ms.length := by simpa using hi
     by_cases e : i = r
     ·subst e; exact hnb _ hx
     ·exact hP.inn i hi' h0 rfl (hx.of_block (hblk _ fun e2 => e (hP.sep i r hi' hrl h0 hc e2)))
   ·exact (h.pools.pool k' kd ms' e).step rfl (by rw [hsz]; exact Nat.le_refl _) (fun _ _ _ _ h => h) (fun i c hi ho => hblk _ (fun e2 => h.pools.twoD k' kd ms' key _ ms i r c e hk hne hi hrl ho (by rw [e2]; exact .pb hc)))
  ·obtain ⟨kd0, ms0, e0, el, _⟩ := hlen _ _ _ h1
   exact h.pools.apartD k1 kd0 ms0 k2 ro l i c e0 (hx1 _ _ _ h2).2 c1 (by omega) (hO _ _ _ _ _ _ _ h1 e0 (by omega) hc1)
  ·obtain ⟨kd10, ms10, e1, el1, _⟩ := hlen _ _ _ h1
   obtain ⟨kd20, ms20, e2, el2, _⟩ := hlen _ _ _ h2
   exact h.pools.twoD k1 kd10 ms10 k2 kd20 ms20 i j c e1 e2 hkk (by omega) (by omega) (hO _ _ _ _ _ _ _ h1 e1 (by omega) c1) (hO _ _ _ _ _ _ _ h2 e2 (by omega) c2)

theorem Mem.box_see (h : Mem w0 M ρ H w) {key : Nat} {k : IntKind} {v : Option (Nat × Nat)} {ms : List (List Int)} (hk : H key = some (.pool (.b k v) ms)) {r : Nat} (hrl : r < ms.length) {stamp : Nat} (hn : H stamp = none) :
  ∃ p a cap, w.cell? ⟨(ρ key).pb r, (ρ key).po r, none⟩ = some (.slice a (ms.getD r []).length cap) ∧ (ms.getD r []).length ≤ cap ∧ ((a = some ⟨p.blk, p.off, none⟩ ∧ cap = p.cap) ∨ (ms.getD r [] = [] ∧ cap = 0)) ∧
   Mem w0 M (updP ρ stamp p) (updH (updH H key (.pool (.b k (some (stamp, r))) ms)) stamp (.boxv key)) w := by
 have hP := h.pools.pool key _ ms hk
 obtain ⟨_, hc, hth, a, cap, hcell, hle, hcase⟩ := hP.cell hrl
 have hsk : stamp ≠ key := fun e => by rw [e, hk] at hn; cases hn
 have hpl : ∃ p : Pl, ((a = some ⟨p.blk, p.off, none⟩ ∧ cap = p.cap) ∨ (ms.getD r [] = [] ∧ cap = 0 ∧ p.cap = 0)) := by
  rcases hcase with ⟨b, o, rfl, _⟩ | ⟨h1, h2⟩
  ·exact ⟨{ blk := b, off := o, cap := cap }, .inl ⟨rfl, rfl⟩⟩
  ·exact ⟨{ blk := 0, off := 0, cap := 0 }, .inr ⟨h1, h2, rfl⟩⟩
 obtain ⟨p, hp⟩ := hpl
 have hkp := updP_keeps (ρ := ρ) (p := p) hn
 refine ⟨p, a, cap, hcell, hle, hp.imp (fun h => h) (fun h => ⟨h.1, h.2.1⟩), ?_⟩
 have hx1 : ∀ k' ro l, updH (updH H key (.pool (.b k (some (stamp, r))) ms)) stamp (.boxv key) k' = some (.segs ro l) → k' ≠ stamp ∧ H k' = some (.segs ro l) := fun k' ro l h1 => by
  by_cases e : k' = stamp
  ·subst e; rw [updH_same] at h1; cases h1
  ·rw [updH_ne e] at h1
   by_cases e2 : k' = key
   ·subst e2; rw [updH_same] at h1; cases h1
   ·rw [updH_ne e2] at h1; exact ⟨e, h1⟩
 have hx2 : ∀ k' kd ms', updH (updH H key (.pool (.b k (some (stamp, r))) ms)) stamp (.boxv key) k' = some (.pool kd ms') → k' ≠ stamp ∧ ((k' = key ∧ kd = .b k (some (stamp, r)) ∧ ms' = ms) ∨ (k' ≠ key ∧ H k' = some (.pool kd ms'))) := fun k' kd ms' h1 => by
  by_cases e : k' = stamp
  ·subst e; rw [updH_same] at h1; cases h1
  ·rw [updH_ne e] at h1
   by_cases e2 : k' = key
   ·subst e2; rw [updH_same] at h1; simp only [Option.some.injEq, SB.pool.injEq] at h1; exact ⟨e, .inl ⟨rfl, h1.1.symm, h1.2.symm⟩⟩
   ·rw [updH_ne e2] at h1; exact ⟨e, .inr ⟨e2, h1⟩⟩
 have hdm : ∀ a, dmOf H a → dmOf (updH (updH H key (.pool (.b k (some (stamp, r))) ms)) stamp (.boxv key)) a := fun a ha => dm_updH _ _ _ a (dm_updH _ _ _ a ha)
 have hO : ∀ k' kd ms' i c, updH (updH H key (.pool (.b k (some (stamp, r))) ms)) stamp (.boxv key) k' = some (.pool kd ms') → OwnB w (updP ρ stamp p k') kd i c → ∃ kd0, H k' = some (.pool kd0 ms') ∧ OwnB w (ρ k') kd0 i c := fun k' kd ms' i c h1 ho => by
  obtain ⟨n1, ⟨rfl, rfl, rfl⟩ | ⟨_, e⟩⟩ := hx2 k' kd ms' h1
  ·rw [updP_ne n1] at ho; exact ⟨_, hk, ho⟩
  ·rw [updP_ne n1] at ho; exact ⟨_, e, ho⟩
 refine ⟨⟨fun k' b hb => ?_, fun k1 k2 ro ro' l1 l2 h1 h2 hkk hro c1 c2 => ?_, fun k' ro l1 h1 c1 => ?_⟩, h.frame, fun k' l1 h1 c1 => ?_, fun k' hk' => ?_, fun k' l1 h1 c1 => ?_, ?_⟩
 ·by_cases e : k' = stamp
  ·subst e; rw [updH_same] at hb; simp only [Option.some.injEq] at hb; subst hb; trivial
  ·rw [updH_ne e] at hb
   by_cases e2 : k' = key
   ·subst e2; rw [updH_same] at hb; simp only [Option.some.injEq] at hb; subst hb; trivial
   ·rw [updH_ne e2] at hb
    exact (h.heap.blk k' b hb).of_block hdm hkp (updP_ne e) (fun _ _ _ _ => rfl)
 ·obtain ⟨n1, e1⟩ := hx1 _ _ _ h1
  obtain ⟨n2, e2⟩ := hx1 _ _ _ h2
  rw [updP_ne n1] at c1 ⊢; rw [updP_ne n2] at c2 ⊢
  exact h.heap.sep k1 k2 ro ro' l1 l2 e1 e2 hkk hro c1 c2
 ·obtain ⟨n1, e1⟩ := hx1 _ _ _ h1
  rw [updP_ne n1] at c1 ⊢; exact h.heap.lt k' ro l1 e1 c1
 ·obtain ⟨n1, e1⟩ := hx1 _ _ _ h1
  rw [updP_ne n1] at c1 ⊢; exact h.own k' l1 e1 c1
 ·have n1 : k' ≠ stamp := fun e => by subst e; rw [updH_same] at hk'; cases hk'
  rw [updH_ne n1] at hk'
  have n2 : k' ≠ key := fun e => by subst e; rw [updH_same] at hk'; cases hk'
  rw [updH_ne n2] at hk'
  rw [updP_ne n1]; exact h.view k' hk'
 ·obtain ⟨n1, e1⟩ := hx1 _ _ _ h1
  rw [updP_ne n1] at c1 ⊢; exact h.clean k' l1 e1 c1
 ·refine ⟨fun k' kd ms' hk' => ?_, fun k1 kd ms1 k2 ro l i c h1 h2 c1 hi hc1 => ?_, fun k1 kd1 ms1 k2 kd2 ms2 i j c h1 h2 hkk hi hj c1 c2 => ?_, fun k' kb q r' ms' hk' => ?_⟩
  ·obtain ⟨n1, ⟨rfl, rfl, rfl⟩ | ⟨_, e⟩⟩ := hx2 _ _ _ hk'
   ·rw [updP_ne n1]; exact hP.drop
   ·rw [updP_ne n1]; exact h.pools.pool k' kd ms' e
  ·obtain ⟨n2, e2⟩ := hx1 _ _ _ h2
   rw [updP_ne n2] at c1 ⊢
   obtain ⟨kd0, e1, ho⟩ := hO _ _ _ _ _ h1 hc1
   exact h.pools.apartD k1 kd0 ms1 k2 ro l i c e1 e2 c1 hi ho
  ·obtain ⟨kd10, e1, o1⟩ := hO _ _ _ _ _ h1 c1
   obtain ⟨kd20, e2, o2⟩ := hO _ _ _ _ _ h2 c2
   exact h.pools.twoD k1 kd10 ms1 k2 kd20 ms2 i j c e1 e2 hkk hi hj o1 o2
  ·obtain ⟨n1, ⟨rfl, e, rfl⟩ | ⟨hne, e⟩⟩ := hx2 _ _ _ hk'
   ·simp only [PK.b.injEq, Option.some.injEq, Prod.mk.injEq] at e
    obtain ⟨rfl, rfl, rfl⟩ := e
    rw [updP_ne n1, updP_same]
    refine ⟨by unfold dmOf; rw [updH_same]; rfl, hrl, hc, a, _, cap, hcell, hp.imp (fun h => h) fun h => ⟨by rw [h.1]; rfl, h.2.1, h.2.2⟩⟩
   ·obtain ⟨v1, v2, v3, v4⟩ := h.pools.view k' kb q r' ms' e
    rw [updP_ne n1]
    exact ⟨hdm q v1, v2, v3, v4.step rfl (hkp q v1)⟩

theorem Mem.box_join (h : Mem w0 M ρ H w) {key kf kr : Nat} {k : IntKind} {v : Option (Nat × Nat)} {ms : List (List Int)} {m : List Int} {x : SV} (hk : H key = some (.pool (.b k v) ms)) (hf : H kf = some (.segs false [.one x]))
  (hx : (x = .nsl ∧ m = [] ∧ kr = kf) ∨ (∃ len, x = .sl kr 0 1 ⟨true, 0⟩ len ∧ len.z = (m.length : Int) ∧ H kr = some (.segs false [.rowI k m]))) :
  Mem w0 M (updP ρ key (joinP (ρ key) (ρ kf))) (updH (updH (updH H kr .gone) key (.pool (.b k none) (ms ++ [m]))) kf (.alias key ms.length)) w ∧ (∀ a, PlLe (ρ a) (updP ρ key (joinP (ρ key) (ρ kf)) a)) := by
 have hne : kf ≠ key := fun e => by rw [e, hk] at hf; cases hf
 have hnr : kr ≠ key := fun e => by
  rcases hx with ⟨_, _, rfl⟩ | ⟨_, _, _, e2⟩
  ·exact hne e
  ·rw [e, hk] at e2; cases e2
 have hP := h.pools.pool key _ ms hk
 have hle : ∀ a, PlLe (ρ a) (updP ρ key (joinP (ρ key) (ρ kf)) a) := fun a => by
  by_cases e : a = key
  ·subst e; rw [updP_same]; exact joinP_le _ _
  ·exact .of_eq (updP_ne e)
 obtain ⟨vs, s1, s2, s3, s4⟩ := h.heap.blk kf _ hf
 have s4 := s4 rfl
 obtain ⟨c1, c2, ⟨_, u, hu, rfl⟩, rfl, h2⟩ := s1
 have h2 : c2 = [] := h2
 subst h2
 simp only [List.append_nil] at s2 s3
 have hcf : 0 < (ρ kf).cap := by simp at s2; omega
 have hcell : w.cell? ⟨(ρ kf).blk, (ρ kf).off, none⟩ = some u := by simpa using s3 0 u rfl
 -- the box, and the blocks that it has
 have hbox : PkD w (.b k none) m [u] := by
  rcases hx with ⟨rfl, rfl, _⟩ | ⟨len, rfl, hlen, hrow⟩
  ·simp only [D] at hu
   subst hu
   exact ⟨fun z hz => (by cases hz), none, 0, rfl, Nat.le_refl _, .inr ⟨rfl, rfl⟩⟩
  ·simp only [D] at hu
   obtain ⟨_, _, _, _, a, cap, rfl, hlc, hcase⟩ := hu
   have hl : len.z.toNat = m.length := by omega
   obtain ⟨vs, t1, t2, t3, t4⟩ := h.heap.blk kr _ hrow
   obtain ⟨d1, d2, ⟨ta, rfl⟩, rfl, td⟩ := t1
   have td : d2 = [] := td
   subst td
   rw [List.append_nil] at t2 t3
   rw [hl] at hlc
   refine ⟨ta, a, cap, by rw [hl], hlc, ?_⟩
   rcases hcase with ⟨rfl, hcap⟩ | ⟨q1, q2⟩
   ·exact .inl ⟨(ρ kr).blk, (ρ kr).off, rfl, t3, fun j hj => t4 rfl j (by simp at hcap; omega)⟩
   ·exact .inr ⟨List.eq_nil_of_length_eq_zero (by omega), q2⟩
 have hblk : ∀ c, boxB w (ρ kf).blk (ρ kf).off c → kr ≠ kf ∧ H kr = some (.segs false [.rowI k m]) ∧ 0 < (ρ kr).cap ∧ c = (ρ kr).blk := fun c ⟨o', n, cap, e, h0⟩ => by
  rw [hcell] at e
  simp only [Option.some.injEq] at e
  subst e
  rcases hx with ⟨rfl, _, _⟩ | ⟨len, rfl, hlen, hrow⟩
  ·simp only [D] at hu; cases hu
  ·simp only [D] at hu
   obtain ⟨_, _, _, _, a, cap', e, hlc, hcase⟩ := hu
   simp only [Value.slice.injEq] at e
   obtain ⟨rfl, rfl, rfl⟩ := e
   refine ⟨fun e => by rw [e, hf] at hrow; simp at hrow, hrow, ?_⟩
   rcases hcase with ⟨e, hcap⟩ | ⟨q1, q2⟩
   ·simp only [Option.some.injEq, at_, Addr.mk.injEq, and_true] at e
    simp at hcap
    exact ⟨by omega, e.1⟩
   ·omega
 have hown : ∀ c, OwnB w (joinP (ρ key) (ρ kf)) (.b k none) ms.length c → c = (ρ kf).blk ∨ (kr ≠ kf ∧ H kr = some (.segs false [.rowI k m]) ∧ 0 < (ρ kr).cap ∧ c = (ρ kr).blk) := fun c ⟨h0, h1⟩ => by
  have e1 : (joinP (ρ key) (ρ kf)).pb ms.length = (ρ kf).blk ∧ (joinP (ρ key) (ρ kf)).po ms.length = (ρ kf).off := by simp [joinP, hP.cnt]
  rw [e1.1, e1.2] at h1
  rcases h1 with h1 | ⟨_, h1⟩
  ·exact .inl h1
  ·exact .inr (hblk c h1)
 have seg : ∀ c, OwnB w (joinP (ρ key) (ρ kf)) (.b k none) ms.length c → ∃ k0 l0, (k0 = kf ∨ k0 = kr) ∧ H k0 = some (.segs false l0) ∧ 0 < (ρ k0).cap ∧ c = (ρ k0).blk := fun c hc => by
  rcases hown c hc with h1 | ⟨_, h1, h2, h3⟩
  ·exact ⟨kf, _, .inl rfl, hf, hcf, h1⟩
  ·exact ⟨kr, _, .inr rfl, h1, h2, h3⟩
 generalize hH' : updH (updH (updH H kr .gone) key (.pool (.b k none) (ms ++ [m]))) kf (.alias key ms.length) = H'
 have hkey' : H' key = some (.pool (.b k none) (ms ++ [m])) := by rw [← hH', updH_ne (Ne.symm hne), updH_same]
 have hx1 : ∀ k' ro l1, H' k' = some (.segs ro l1) → k' ≠ key ∧ k' ≠ kf ∧ k' ≠ kr ∧ H k' = some (.segs ro l1) := fun k' ro l1 h1 => by
  rw [← hH'] at h1
  by_cases e : k' = kf
  ·subst e; rw [updH_same] at h1; cases h1
  ·rw [updH_ne e] at h1
   by_cases e2 : k' = key
   ·subst e2; rw [updH_same] at h1; cases h1
   ·rw [updH_ne e2] at h1
    by_cases e3 : k' = kr
    ·subst e3; rw [updH_same] at h1; cases h1
    ·rw [updH_ne e3] at h1; exact ⟨e2, e, e3, h1⟩
 have hx2 : ∀ k' kd ms', H' k' = some (.pool kd ms') → (k' = key ∧ kd = .b k none ∧ ms' = ms ++ [m]) ∨ (k' ≠ key ∧ H k' = some (.pool kd ms')) := fun k' kd ms' h1 => by
  by_cases e2 : k' = key
  ·subst e2; rw [hkey'] at h1; simp only [Option.some.injEq, SB.pool.injEq] at h1; exact .inl ⟨rfl, h1.1.symm, h1.2.symm⟩
  ·refine .inr ⟨e2, ?_⟩
   rw [← hH'] at h1
   by_cases e : k' = kf
   ·subst e; rw [updH_same] at h1; cases h1
   ·rw [updH_ne e, updH_ne e2] at h1
    by_cases e3 : k' = kr
    ·subst e3; rw [updH_same] at h1; cases h1
    ·rw [updH_ne e3] at h1; exact h1
 have hdm : ∀ a, dmOf H a → dmOf H' a := fun a ha => by rw [← hH']; exact dm_updH _ _ _ a (dm_updH _ _ _ a (dm_updH _ _ _ a ha))
 have hkd : dmOf H key := by unfold dmOf; rw [hk]; rfl
 have jn : ∀ i, i < ms.length → (joinP (ρ key) (ρ kf)).pb i = (ρ key).pb i ∧ (joinP (ρ key) (ρ kf)).po i = (ρ key).po i ∧ (joinP (ρ key) (ρ kf)).pc i = (ρ key).pc i := fun i hi => by
  have : i ≠ (ρ key).pn := by rw [hP.cnt]; omega
  simp [joinP, this]
 have jl : (joinP (ρ key) (ρ kf)).pb ms.length = (ρ kf).blk ∧ (joinP (ρ key) (ρ kf)).po ms.length = (ρ kf).off ∧ (joinP (ρ key) (ρ kf)).pc ms.length = (ρ kf).cap := by
  simp [joinP, hP.cnt]
 have jo : ∀ i c, i < ms.length → OwnB w (joinP (ρ key) (ρ kf)) (.b k none) i c → OwnB w (ρ key) (.b k v) i c := fun i c hi ⟨h0, h1⟩ => by
  obtain ⟨e1, e2, e3⟩ := jn i hi
  rw [e3] at h0
  rw [e1, e2] at h1
  exact ⟨h0, h1⟩
 have hcase : ∀ i c, i < (ms ++ [m]).length → OwnB w (joinP (ρ key) (ρ kf)) (.b k none) i c → (i < ms.length ∧ OwnB w (ρ key) (.b k v) i c) ∨ (i = ms.length ∧ ∃ k0 l0, (k0 = kf ∨ k0 = kr) ∧ H k0 = some (.segs false l0) ∧ 0 < (ρ k0).cap ∧ c = (ρ k0).blk) := fun i c hi ho => by
  by_cases e : i < ms.length
  ·exact .inl ⟨e, jo i c e ho⟩
  ·have : i = ms.length := by simp at hi; omega
   subst this
   exact .inr ⟨rfl, seg c ho⟩
 refine ⟨⟨⟨fun k' b hb => ?_, fun k1 k2 ro ro' l1 l2 h1 h2 hkk hro c1 c2 => ?_, fun k' ro l1 h1 c1 => ?_⟩, h.frame, fun k' l1 h1 c1 => ?_, ?_, fun k' l1 h1 c1 => ?_, ?_⟩, hle⟩
 ·by_cases e : k' = kf
  ·subst e
   rw [← hH', updH_same] at hb; simp only [Option.some.injEq] at hb; subst hb
   refine ⟨hdm _ hkd, ?_, ?_, ?_, ?_⟩
   ·rw [updP_same]; show ms.length < (ρ key).pn + 1; rw [hP.cnt]; omega
   ·rw [updP_same, updP_ne hne, jl.2.1]
   ·rw [updP_same, updP_ne hne, jl.1]
   ·rw [updP_same, updP_ne hne, jl.2.2]
  ·by_cases e2 : k' = key
   ·subst e2; rw [hkey'] at hb; simp only [Option.some.injEq] at hb; subst hb; trivial
   ·by_cases e3 : k' = kr
    ·subst e3
     rw [← hH', updH_ne e, updH_ne e2, updH_same] at hb
     simp only [Option.some.injEq] at hb; subst hb; trivial
    ·have hb' := hb
     rw [← hH', updH_ne e, updH_ne e2, updH_ne e3] at hb'
     exact (h.heap.blk k' b hb').of_block hdm (fun a _ => hle a) (updP_ne e2) (fun _ _ _ _ => rfl)
 ·obtain ⟨n1, _, _, e1⟩ := hx1 _ _ _ h1
  obtain ⟨n2, _, _, e2⟩ := hx1 _ _ _ h2
  rw [updP_ne n1] at c1 ⊢; rw [updP_ne n2] at c2 ⊢
  exact h.heap.sep k1 k2 ro ro' l1 l2 e1 e2 hkk hro c1 c2
 ·obtain ⟨n1, _, _, e1⟩ := hx1 _ _ _ h1
  rw [updP_ne n1] at c1 ⊢; exact h.heap.lt k' ro l1 e1 c1
 ·obtain ⟨n1, _, _, e1⟩ := hx1 _ _ _ h1
  rw [updP_ne n1] at c1 ⊢; exact h.own k' l1 e1 c1
 ·intro k' hk'
  rw [← hH'] at hk'
  have n2 : k' ≠ kf := fun e => by subst e; rw [updH_same] at hk'; cases hk'
  rw [updH_ne n2] at hk'
  have n1 : k' ≠ key := fun e => by subst e; rw [updH_same] at hk'; cases hk'
  rw [updH_ne n1] at hk'
  have n3 : k' ≠ kr := fun e => by subst e; rw [updH_same] at hk'; cases hk'
  rw [updH_ne n3] at hk'
  rw [updP_ne n1]; exact h.view k' hk'
 ·obtain ⟨n1, _, _, e1⟩ := hx1 _ _ _ h1
  rw [updP_ne n1] at c1 ⊢; exact h.clean k' l1 e1 c1
 ·have two : ∀ k' kd ms' i j c, H k' = some (.pool kd ms') → k' ≠ key → i < ms'.length → j < (ms ++ [m]).length → OwnB w (ρ k') kd i c → OwnB w (joinP (ρ key) (ρ kf)) (.b k none) j c → False := fun k' kd ms' i j c e hn hi hj c1 hc2 => by
   rcases hcase j c hj hc2 with ⟨ej, ho⟩ | ⟨_, k0, l0, _, a2, a3, rfl⟩
   ·exact h.pools.twoD k' kd ms' key _ ms i j c e hk hn hi ej c1 ho
   ·exact h.pools.apartD k' kd ms' k0 false l0 i _ e a2 a3 hi c1 rfl
  refine ⟨fun k' kd ms' hk' => ?_, fun k1 kd ms1 k2 ro l1 i c h1 h2 c1 hi hc1 => ?_, fun k1 kd1 ms1 k2 kd2 ms2 i j c h1 h2 hkk hi hj c1 c2 => ?_, fun k' kb q r' ms' hk' => ?_⟩
  rotate_left 3
  ·rcases hx2 _ _ _ hk' with ⟨rfl, e, rfl⟩ | ⟨hn', e⟩
   ·cases e
   ·obtain ⟨v1, v2, v3, v4⟩ := h.pools.view k' kb q r' ms' e
    rw [updP_ne hn']
    exact ⟨hdm q v1, v2, v3, v4.step rfl (hle q)⟩
  ·rcases hx2 k' kd ms' hk' with ⟨rfl, rfl, rfl⟩ | ⟨hn', e⟩
   ·rw [updP_same]
    refine ⟨by show (ρ k').pn + 1 = _; rw [hP.cnt]; simp, fun i m' hi => ?_, fun i c hi ho => ?_, fun i c hi ho => ?_, fun i c hi ho => ?_, fun i j c hi hj ho ho' => ?_, fun i hi h0 _ hx' => ?_, (fun e => by cases e), (fun e => by cases e), (fun e => by cases e)⟩
    ·by_cases ei : i < ms.length
     ·rw [List.getElem?_append_left ei] at hi
      rw [(jn i ei).1, (jn i ei).2.1, (jn i ei).2.2]; exact hP.rowD i m' hi
     ·have hil := (List.getElem?_eq_some_iff.1 hi).1
      have : i = ms.length := by simp at hil; omega
      subst this
      simp at hi; subst hi
      rw [jl.1, jl.2.1, jl.2.2]
      exact ⟨[u], hbox, s2, s3, s4⟩
    ·rcases hcase i c hi ho with ⟨a1, a2⟩ | ⟨_, k0, l0, _, a2, a3, rfl⟩
     ·exact hP.ltD i c a1 a2
     ·exact h.heap.lt k0 _ _ a2 a3
    ·rcases hcase i c hi ho with ⟨a1, a2⟩ | ⟨_, k0, l0, _, a2, a3, rfl⟩
     ·exact hP.ownD i c a1 a2
     ·exact h.own k0 _ a2 a3
    ·rcases hcase i c hi ho with ⟨a1, a2⟩ | ⟨_, k0, l0, _, a2, a3, rfl⟩
     ·exact hP.cleanD i c a1 a2
     ·exact h.clean k0 _ a2 a3
    ·rcases hcase i c hi ho with ⟨a1, a2⟩ | ⟨a0, k0, l0, _, a2, a3, rfl⟩
     ·rcases hcase j c hj ho' with ⟨b1, b2⟩ | ⟨b0, k1, l1, _, b2, b3, e⟩
      ·exact hP.sepD i j c a1 b1 a2 b2
      ·exact absurd e.symm (h.pools.apartD k' _ ms k1 false l1 i c hk b2 b3 a1 a2)
     ·rcases hcase j _ hj ho' with ⟨b1, b2⟩ | ⟨b0, _⟩
      ·exact absurd rfl (h.pools.apartD k' _ ms k0 false l0 j _ hk a2 a3 b1 b2)
      ·omega
    ·by_cases ei : i < ms.length
     ·rw [(jn i ei).1, (jn i ei).2.1] at hx'
      rw [(jn i ei).2.2] at h0
      exact hP.inn i ei h0 rfl hx'
     ·have : i = ms.length := by simp at hi; omega
      subst this
      rw [jl.1, jl.2.1] at hx'
      obtain ⟨q1, q2, q3, q4⟩ := hblk _ hx'
      exact h.heap.sep kf kr false false _ _ hf q2 (Ne.symm q1) (.inl rfl) hcf q3 q4
   ·rw [updP_ne hn']; exact h.pools.pool k' kd ms' e
  ·obtain ⟨n2, n3, n4, e2⟩ := hx1 _ _ _ h2
   rw [updP_ne n2] at c1 ⊢
   rcases hx2 _ _ _ h1 with ⟨rfl, rfl, rfl⟩ | ⟨hn', e⟩
   ·rw [updP_same] at hc1
    rcases hcase i c hi hc1 with ⟨a1, a2⟩ | ⟨a0, k0, l0, a1, a2, a3, rfl⟩
    ·exact h.pools.apartD k1 _ ms k2 ro l1 i c hk e2 c1 a1 a2
    ·exact h.heap.sep k2 k0 ro false l1 _ e2 a2 (fun e => by rcases a1 with a1 | a1 <;> rw [a1] at e <;> contradiction) (.inr rfl) c1 a3
   ·rw [updP_ne hn'] at hc1
    exact h.pools.apartD k1 kd ms1 k2 ro l1 i c e e2 c1 hi hc1
  ·rcases hx2 _ _ _ h1 with ⟨rfl, rfl, rfl⟩ | ⟨hn1, e1⟩
   ·rcases hx2 _ _ _ h2 with ⟨rfl, rfl, rfl⟩ | ⟨hn2, e2⟩
    ·exact absurd rfl hkk
    ·rw [updP_same] at c1; rw [updP_ne hn2] at c2
     exact two k2 kd2 ms2 j i c e2 hn2 hj hi c2 c1
   ·rcases hx2 _ _ _ h2 with ⟨rfl, rfl, rfl⟩ | ⟨hn2, e2⟩
    ·rw [updP_same] at c2; rw [updP_ne hn1] at c1
     exact two k1 kd1 ms1 i j c e1 hn1 hi hj c1 c2
    ·rw [updP_ne hn1] at c1; rw [updP_ne hn2] at c2
     exact h.pools.twoD k1 kd1 ms1 k2 kd2 ms2 i j c e1 e2 hkk hi hj c1 c2

end
end Go.Gx

/- The type table against the program. -/
namespace Go.Gx
open Go.RowKit
set_option linter.unusedVariables false

theorem keq_eq {k k' : IntKind} (h : keq k k' = true) : k = k' := by cases k <;> cases k' <;> first | rfl | (simp [keq] at h)

mutual
theorem shEq_eq : ∀ (a b : Sh), shEq a b = true → a = b
 | .i k, b, h => by cases b <;> simp [shEq] at h; rw [keq_eq h]
 | .tb, b, h => by cases b <;> simp [shEq] at h; rfl
 | .ts, b, h => by cases b <;> simp [shEq] at h; rfl
 | .arr n k, b, h => by cases b <;> simp [shEq] at h; rw [h.1, keq_eq h.2]
 | .r a, b, h => by cases b <;> simp [shEq] at h; rw [shEqs_eq _ _ h]
 | .ints k, b, h => by cases b <;> simp [shEq] at h; rw [keq_eq h]
 | .l a, b, h => by cases b <;> simp [shEq] at h; rw [shEq_eq _ _ h]
theorem shEqs_eq : ∀ (a b : List Sh), shEqs a b = true → a = b
 | [], [], h => rfl
 | [], _ :: _, h => by simp [shEqs] at h
 | _ :: _, [], h => by simp [shEqs] at h
 | x :: r, y :: t, h => by simp only [shEqs, Bool.and_eq_true] at h; rw [shEq_eq _ _ h.1, shEqs_eq _ _ h.2]
end

def isZ (k : IntKind) : Value → Bool
 | .int k' (.ofNat 0) => keq k k'
 | _ => false

def allZ (k : IntKind) : List Value → Bool
 | [] => true
 | v :: r => isZ k v && allZ k r

def z1 (t : Ty) (v : Value) : Bool :=
 match t with
 | .int k => isZ k v
 | .bool => (match v with | .bool false => true | _ => false)
 | .str => (match v with | .string s => Nat.beq s.size 0 | _ => false)
 | .ptr => (match v with | .pointer none => true | _ => false)
 | .slice => (match v with | .slice none 0 0 => true | _ => false)
 | .func => (match v with | .nilFunc => true | _ => false)
 | .iface => (match v with | .nilIface => true | _ => false)
 | _ => false

def zcRep (f : List Value → Option (List Value)) : Nat → List Value → Option (List Value)
 | 0, cs => some cs
 | n + 1, cs => match f cs with | some cs' => zcRep f n cs' | none => none

mutual
def zc : Ty → List Value → Option (List Value)
 | .arr n e, cs => (match e with
  | .int k => (match Nat.beq (cs.take n).length n && allZ k (cs.take n) with | true => some (cs.drop n) | false => none)
  | _ => zcRep (fun cs => zc e cs) n cs)
 | .struct fs, cs => zcs fs cs
 | .int k, cs => (match cs with | v :: r => (match z1 (.int k) v with | true => some r | false => none) | [] => none)
 | .bool, cs => (match cs with | v :: r => (match z1 .bool v with | true => some r | false => none) | [] => none)
 | .str, cs => (match cs with | v :: r => (match z1 .str v with | true => some r | false => none) | [] => none)
 | .ptr, cs => (match cs with | v :: r => (match z1 .ptr v with | true => some r | false => none) | [] => none)
 | .slice, cs => (match cs with | v :: r => (match z1 .slice v with | true => some r | false => none) | [] => none)
 | .func, cs => (match cs with | v :: r => (match z1 .func v with | true => some r | false => none) | [] => none)
 | .iface, cs => (match cs with | v :: r => (match z1 .iface v with | true => some r | false => none) | [] => none)
def zcs : List Ty → List Value → Option (List Value)
 | [], cs => some cs
 | t :: r, cs => match zc t cs with | some cs' => zcs r cs' | none => none
end

def isRow : Ty → Bool
 | .arr .. | .struct _ => true
 | _ => false

def zeroB (t : Ty) (z : Value) : Bool :=
 match z with
 | .agg cs => isRow t && (match zc t cs.toList with | some [] => true | _ => false)
 | v => !isRow t && (match zc t [v] with | some [] => true | _ => false)

mutual
def tyB (P : Program) : Ty → TypeId → Bool
 | .int k, T => (match P.underlying T with | some (.int k') => keq k k' | _ => false)
 | .bool, T => (match P.underlying T with | some .bool => true | _ => false)
 | .str, T => (match P.underlying T with | some .string => true | _ => false)
 | .ptr, T => (match P.underlying T with | some (.pointer _) => true | _ => false)
 | .slice, T => (match P.underlying T with | some (.slice _) => true | _ => false)
 | .func, T => (match P.underlying T with | some (.func ..) => true | _ => false)
 | .iface, T => (match P.underlying T with | some (.interface _) => true | _ => false)
 | .arr n e, T => (match P.underlying T with | some (.array n' T') => Nat.beq n n' && (match P.info? T' with | some i => Nat.beq i.size e.size | none => false) && tyB P e T' | _ => false)
 | .struct fs, T => (match P.underlying T with | some (.struct fl) => fieldsB P fs 0 fl.toList | _ => false)
def fieldsB (P : Program) : List Ty → Nat → List Field → Bool
 | [], _, [] => true
 | t :: r, off, f :: fr => Nat.beq f.offset off && (match P.info? f.type with | some i => Nat.beq i.size t.size && Nat.blt 0 t.size | none => false) && tyB P t f.type && fieldsB P r (off + t.size) fr
 | _, _, _ => false
end

def mthB (P : Program) (t : TypeId) (s : String) (f : Nat) : Bool :=
 match P.info? t with
 | some i => (match i.methods.find? (·.name == s) with
  | some m => m.path.isEmpty && (match m.func with | some (g, p) => Nat.beq g f && p | none => false)
  | none => false)
 | none => false
def mthsB (P : Program) (t : TypeId) : List (String × Nat) → Bool
 | [] => true
 | (s, f) :: r => mthB P t s f && mthsB P t r

def rowB (P : Program) (T : TypeId) (ti : TInfo) : Bool :=
 (match ti.mth, P.underlying T with | [], _ => true | _, some (.pointer _) => true | _, _ => false) &&
 tyB P ti.ty T && (match P.info? T with
  | some i => Nat.beq i.size ti.ty.size && Nat.beq i.bytes ti.bytes && (match i.zero with | some z => zeroB ti.ty z | none => false)
  | none => false) &&
 (match P.underlying T with
  | some (.slice e) => Nat.beq e ti.elem
  | some (.pointer e) => Nat.beq e ti.elem
  | _ => true) && mthsB P T ti.mth

def tabB (P : Program) : List (Nat × TInfo) → Bool
 | [] => true
 | (T, ti) :: r => rowB P T ti && tabB P r

theorem tabB_row {P : Program} : ∀ {l : List (Nat × TInfo)} {T : Nat} {ti : TInfo}, tabB P l = true → assoc l T = some ti → rowB P T ti = true
 | [], T, ti, _, h => by simp [assoc] at h
 | (T', t') :: r, T, ti, hB, h => by
  simp only [tabB, Bool.and_eq_true] at hB
  simp only [assoc] at h
  split at h
  ·rename_i hb
   have := Nat.eq_of_beq_eq_true hb
   simp only [Option.some.injEq] at h
   subst this; subst h
   exact hB.1
  ·exact tabB_row hB.2 h

structure RowOk (P : Program) (T : TypeId) (ti : TInfo) : Prop where
 ty : tyB P ti.ty T = true
 info : ∃ i z, P.info? T = some i ∧ i.size = ti.ty.size ∧ i.bytes = ti.bytes ∧ i.zero = some z ∧ zeroB ti.ty z = true
 slice : ∀ e, P.underlying T = some (.slice e) → e = ti.elem
 ptr : ∀ e, P.underlying T = some (.pointer e) → e = ti.elem
 ptrOf : ti.mth ≠ [] → ∃ e, P.underlying T = some (.pointer e)
 mth : ∀ s f, mlook ti.mth s = some f → ∃ i m, P.info? T = some i ∧ i.methods.find? (·.name == s) = some m ∧ m.path = #[] ∧ m.func = some (f, true)

theorem mthsB_ok {P : Program} {T : TypeId} : ∀ {l : List (String × Nat)}, mthsB P T l = true → ∀ s f, mlook l s = some f → ∃ i m, P.info? T = some i ∧ i.methods.find? (·.name == s) = some m ∧ m.path = #[] ∧ m.func = some (f, true)
 | [], h, s, f, h1 => by simp [mlook] at h1
 | (a, g) :: r, h, s, f, h1 => by
  simp only [mthsB, Bool.and_eq_true] at h
  simp only [mlook] at h1
  split at h1
  ·rename_i e
   have e := of_decide_eq_true e
   subst e
   simp only [Option.some.injEq] at h1
   subst h1
   have h := h.1
   unfold mthB at h
   split at h
   ·rename_i i hi
    split at h
    ·rename_i m hm
     simp only [Bool.and_eq_true] at h
     obtain ⟨h2, h3⟩ := h
     split at h3
     ·rename_i g' p hf
      simp only [Bool.and_eq_true] at h3
      have e := Nat.eq_of_beq_eq_true h3.1
      subst e
      exact ⟨i, m, hi, hm, by simpa [Array.isEmpty_iff] using h2, by rw [hf, h3.2]⟩
     ·cases h3
    ·cases h
   ·cases h
  ·exact mthsB_ok h.2 s f h1

theorem rowB_ok {P : Program} {T : TypeId} {ti : TInfo} (h : rowB P T ti = true) : RowOk P T ti := by
 unfold rowB at h
 simp only [Bool.and_eq_true] at h
 obtain ⟨⟨⟨⟨h0, h1⟩, h2⟩, h3⟩, h4⟩ := h
 refine ⟨h1, ?_, fun e he => ?_, fun e he => ?_, fun hne => ?_, mthsB_ok h4⟩
 rotate_left 3
 ·split at h0
  ·rename_i e; exact absurd e hne
  ·rename_i e hu _; exact ⟨_, hu⟩
  ·cases h0
 ·split at h2
  ·rename_i i hi
   simp only [Bool.and_eq_true] at h2
   obtain ⟨⟨a, b⟩, c⟩ := h2
   split at c
   ·rename_i z hz
    exact ⟨i, z, hi, Nat.eq_of_beq_eq_true a, Nat.eq_of_beq_eq_true b, hz, c⟩
   ·cases c
  ·cases h2
 ·rw [he] at h3; exact Nat.eq_of_beq_eq_true h3
 ·rw [he] at h3; exact Nat.eq_of_beq_eq_true h3

theorem RowOk.size {P : Program} {T : TypeId} {ti : TInfo} (h : RowOk P T ti) : (P.info? T).map (·.size) = some ti.ty.size := by
 obtain ⟨i, z, h1, h2, _⟩ := h.info
 rw [h1]; simp [h2]

theorem RowOk.sizeOf {P : Program} {T : TypeId} {ti : TInfo} (h : RowOk P T ti) (w : World) : (Go.sizeOf T).run P w = .ok ti.ty.size w := by
 obtain ⟨i, z, h1, h2, _⟩ := h.info
 simp [Go.sizeOf, typeInfo, h1, h2]

theorem allZ_D {k : IntKind} : ∀ {l : List Value}, allZ k l = true → l = (List.replicate l.length (0 : Int)).map (Value.int k)
 | [], _ => rfl
 | v :: r, h => by
  simp only [allZ, Bool.and_eq_true] at h
  have ih := allZ_D h.2
  have : v = .int k 0 := by
   have h1 := h.1
   unfold isZ at h1
   split at h1
   ·rw [keq_eq h1]; rfl
   ·cases h1
  rw [this]
  simp only [List.length_cons, List.replicate_succ, List.map_cons]
  rw [← ih]

theorem inR_zero (k : IntKind) : InR k 0 := by cases k <;> simp [InR]

theorem reps_eq {α : Type} (x : α) (n : Nat) : reps x n = List.replicate n x := by
 induction n with
 | zero => rfl
 | succ n ih => simp [reps, ih, List.replicate_succ]

theorem allR_rep (k : IntKind) (n : Nat) : AllR k (List.replicate n 0) := fun z hz => by
 rw [List.eq_of_mem_replicate hz]; exact inR_zero k

theorem z1_D {dm : Nat → Prop} {ρ : Nat → Pl} {t : Ty} {v : Value} (h : z1 t v = true) : D dm ρ (zero t) v ∧ v.cells = #[v] := by
 unfold z1 at h
 split at h
 ·unfold isZ at h
  split at h
  ·rw [keq_eq h]; exact ⟨⟨rfl, inR_zero _⟩, rfl⟩
  ·cases h
 ·split at h
  ·exact ⟨rfl, rfl⟩
  ·cases h
 ·split at h
  ·rename_i s
   have hs : s = ByteArray.empty := by
    have := Nat.eq_of_beq_eq_true h
    cases s with
    | mk d => simp only [ByteArray.size] at this; rw [Array.eq_empty_of_size_eq_zero this]; rfl
   subst hs
   exact ⟨⟨rfl, by decide⟩, rfl⟩
  ·cases h
 ·split at h
  ·exact ⟨rfl, rfl⟩
  ·cases h
 ·split at h
  ·exact ⟨rfl, rfl⟩
  ·cases h
 ·split at h
  ·exact ⟨rfl, rfl⟩
  ·cases h
 ·split at h
  ·exact ⟨rfl, rfl⟩
  ·cases h
 ·cases h

theorem z1_zc {dm : Nat → Prop} {ρ : Nat → Pl} {t : Ty} {cs r : List Value} (hr : isRow t = false) (hs : t.size = 1)
  (h : (match cs with | v :: r => (match z1 t v with | true => some r | false => none) | [] => none) = some r) :
  ∃ v, D dm ρ (zero t) v ∧ cs = v.cells.toList ++ r ∧ v.cells.size = t.size ∧ (isRow t = true → ∃ x, v = Value.agg x) ∧ (isRow t = false → v.cells = #[v]) := by
 cases cs with
 | nil => cases h
 | cons v cs =>
  simp only at h
  split at h
  ·rename_i hz
   simp only [Option.some.injEq] at h; subst h
   obtain ⟨h1, h2⟩ := z1_D (dm := dm) (ρ := ρ) hz
   exact ⟨v, h1, by rw [h2]; rfl, by rw [h2, hs]; rfl, (fun h => by rw [hr] at h; cases h), fun _ => h2⟩
  ·cases h

theorem zcRep_D {dm : Nat → Prop} {ρ : Nat → Pl} {x : SV} {k : Nat} {f : List Value → Option (List Value)} (hf : ∀ cs r, f cs = some r → ∃ v, D dm ρ x v ∧ cs = v.cells.toList ++ r ∧ v.cells.size = k) : ∀ (n : Nat) (cs r : List Value), zcRep f n cs = some r →
  ∃ c, Cs dm ρ (reps x n) c ∧ cs = c ++ r ∧ c.length = n * k
 | 0, cs, r, h => by
  simp only [zcRep, Option.some.injEq] at h; subst h
  exact ⟨[], rfl, rfl, by simp⟩
 | n + 1, cs, r, h => by
  simp only [zcRep] at h
  split at h
  ·rename_i cs' h1
   obtain ⟨v, a1, a2, a3⟩ := hf cs cs' h1
   obtain ⟨c, b1, b2, b3⟩ := zcRep_D hf n cs' r h
   exact ⟨v.cells.toList ++ c, ⟨v, c, a1, rfl, b1⟩, by rw [a2, b2, List.append_assoc], by simp [a3, b3, Nat.add_mul]; omega⟩
  ·cases h

theorem zcArr_D {dm : Nat → Prop} {ρ : Nat → Pl} {n : Nat} {e : Ty} {cs r : List Value} (hz : zero (.arr n e) = .agg (reps (zero e) n)) (hf : ∀ cs r, zc e cs = some r → ∃ v, D dm ρ (zero e) v ∧ cs = v.cells.toList ++ r ∧ v.cells.size = e.size) (h : zcRep (fun cs => zc e cs) n cs = some r) :
  ∃ v, D dm ρ (zero (.arr n e)) v ∧ cs = v.cells.toList ++ r ∧ v.cells.size = (Ty.arr n e).size ∧ (isRow (.arr n e) = true → ∃ x, v = Value.agg x) ∧ (isRow (.arr n e) = false → v.cells = #[v]) := by
 obtain ⟨c, h1, h2, h3⟩ := zcRep_D hf n cs r h
 refine ⟨.agg c.toArray, by rw [hz]; exact ⟨c, h1, rfl⟩, by simpa [Value.cells] using h2, by simpa [Value.cells, Ty.size] using h3, fun _ => ⟨_, rfl⟩, fun h => by cases h⟩

mutual
theorem zc_D {dm : Nat → Prop} {ρ : Nat → Pl} : ∀ (t : Ty) (cs r : List Value), zc t cs = some r →
  ∃ v, D dm ρ (zero t) v ∧ cs = v.cells.toList ++ r ∧ v.cells.size = t.size ∧ (isRow t = true → ∃ x, v = Value.agg x) ∧ (isRow t = false → v.cells = #[v])
 | .int k, cs, r, h => by
  simp only [zc] at h
  exact z1_zc rfl rfl h
 | .bool, cs, r, h => by
  simp only [zc] at h
  exact z1_zc rfl rfl h
 | .str, cs, r, h => by
  simp only [zc] at h
  exact z1_zc rfl rfl h
 | .ptr, cs, r, h => by
  simp only [zc] at h
  exact z1_zc rfl rfl h
 | .slice, cs, r, h => by
  simp only [zc] at h
  exact z1_zc rfl rfl h
 | .func, cs, r, h => by
  simp only [zc] at h
  exact z1_zc rfl rfl h
 | .iface, cs, r, h => by
  simp only [zc] at h
  exact z1_zc rfl rfl h
 | .arr n e, cs, r, h => by
  cases e with
  | int k =>
   simp only [zc] at h
   split at h
   ·rename_i hb
    simp only [Bool.and_eq_true] at hb
    simp only [Option.some.injEq] at h; subst h
    have hl := Nat.eq_of_beq_eq_true hb.1
    have hz := allZ_D hb.2
    rw [hl] at hz
    have hlen : (cs.take n).toArray.size = n := by simpa using hl
    refine ⟨.agg (cs.take n).toArray, ?_, by simp [Value.cells], by rw [Value.cells_agg, hlen]; simp [Ty.size], (fun _ => ⟨_, rfl⟩), (fun h => by cases h)⟩
    have e2 : D dm ρ (.arr k n true (List.replicate n 0)) (.agg (cs.take n).toArray) := ⟨by simp, allR_rep k n, by rw [hz]⟩
    have e3 : D dm ρ (.arr k n false (List.replicate n 0)) (.agg (cs.take n).toArray) := ⟨by simp, allR_rep k n, by rw [hz]⟩
    simp only [zero]
    split
    ·rw [reps_eq]; exact e2
    ·exact e3
   ·cases h
  | bool => exact zcArr_D rfl (fun cs r h => by obtain ⟨v, a, b, c, _⟩ := zc_D (dm := dm) (ρ := ρ) .bool cs r h; exact ⟨v, a, b, c⟩) (by unfold zc at h; exact h)
  | str => exact zcArr_D rfl (fun cs r h => by obtain ⟨v, a, b, c, _⟩ := zc_D (dm := dm) (ρ := ρ) .str cs r h; exact ⟨v, a, b, c⟩) (by unfold zc at h; exact h)
  | ptr => exact zcArr_D rfl (fun cs r h => by obtain ⟨v, a, b, c, _⟩ := zc_D (dm := dm) (ρ := ρ) .ptr cs r h; exact ⟨v, a, b, c⟩) (by unfold zc at h; exact h)
  | slice => exact zcArr_D rfl (fun cs r h => by obtain ⟨v, a, b, c, _⟩ := zc_D (dm := dm) (ρ := ρ) .slice cs r h; exact ⟨v, a, b, c⟩) (by unfold zc at h; exact h)
  | func => exact zcArr_D rfl (fun cs r h => by obtain ⟨v, a, b, c, _⟩ := zc_D (dm := dm) (ρ := ρ) .func cs r h; exact ⟨v, a, b, c⟩) (by unfold zc at h; exact h)
  | iface => exact zcArr_D rfl (fun cs r h => by obtain ⟨v, a, b, c, _⟩ := zc_D (dm := dm) (ρ := ρ) .iface cs r h; exact ⟨v, a, b, c⟩) (by unfold zc at h; exact h)
  | arr m e' => exact zcArr_D rfl (fun cs r h => by obtain ⟨v, a, b, c, _⟩ := zc_D (dm := dm) (ρ := ρ) (.arr m e') cs r h; exact ⟨v, a, b, c⟩) (by unfold zc at h; exact h)
  | struct fs => exact zcArr_D rfl (fun cs r h => by obtain ⟨v, a, b, c, _⟩ := zc_D (dm := dm) (ρ := ρ) (.struct fs) cs r h; exact ⟨v, a, b, c⟩) (by unfold zc at h; exact h)
 | .struct fs, cs, r, h => by
  simp only [zc] at h
  obtain ⟨c, h1, h2, h3⟩ := zcs_D fs cs r h
  exact ⟨.agg c.toArray, ⟨c, h1, rfl⟩, by simpa [Value.cells] using h2, by simpa [Value.cells, Ty.size] using h3, (fun _ => ⟨_, rfl⟩), (fun h => by cases h)⟩
theorem zcs_D {dm : Nat → Prop} {ρ : Nat → Pl} : ∀ (ts : List Ty) (cs r : List Value), zcs ts cs = some r → ∃ c, Cs dm ρ (zeros ts) c ∧ cs = c ++ r ∧ c.length = Ty.sizes ts
 | [], cs, r, h => by
  simp only [zcs, Option.some.injEq] at h; subst h
  exact ⟨[], rfl, rfl, rfl⟩
 | t :: ts, cs, r, h => by
  simp only [zcs] at h
  split at h
  ·rename_i cs' h1
   obtain ⟨v, a1, a2, a3, _⟩ := zc_D (dm := dm) (ρ := ρ) t cs cs' h1
   obtain ⟨c, b1, b2, b3⟩ := zcs_D ts cs' r h
   exact ⟨v.cells.toList ++ c, ⟨v, c, a1, rfl, b1⟩, by rw [a2, b2, List.append_assoc], by simp [Ty.sizes, a3, b3]⟩
  ·cases h
end

theorem zeroB_D {dm : Nat → Prop} {ρ : Nat → Pl} {t : Ty} {z : Value} (h : zeroB t z = true) : D dm ρ (zero t) z := by
 unfold zeroB at h
 split at h
 ·rename_i cs
  simp only [Bool.and_eq_true] at h
  obtain ⟨h1, h2⟩ := h
  split at h2
  ·rename_i e
   obtain ⟨v, a1, a2, _, a4, _⟩ := zc_D (dm := dm) (ρ := ρ) t cs.toList [] e
   obtain ⟨x, rfl⟩ := a4 h1
   have : cs = x := by
    apply Array.ext'
    simpa [Value.cells] using a2
   rw [this]; exact a1
  ·cases h2
 ·simp only [Bool.and_eq_true, Bool.not_eq_true'] at h
  obtain ⟨h1, h2⟩ := h
  split at h2
  ·rename_i e
   obtain ⟨v, a1, a2, _, _, a5⟩ := zc_D (dm := dm) (ρ := ρ) t _ [] e
   have := a5 h1
   rw [this] at a2
   simp at a2
   rw [a2]; exact a1
  ·cases h2

end Go.Gx

/- Operations on numbers, bools and texts: the model's answer is what the evaluator says. -/
namespace Go.Gx
open Go.RowKit
set_option linter.unusedVariables false

def AllP : List Prop → Prop
 | [] => True
 | p :: r => p ∧ AllP r

theorem AllP.append : ∀ {l r : List Prop}, AllP (l ++ r) → AllP l ∧ AllP r
 | [], r, h => ⟨trivial, h⟩
 | p :: l, r, h => ⟨⟨h.1, (AllP.append h.2).1⟩, (AllP.append h.2).2⟩

theorem inR_wrap (k : IntKind) (x : Int) : InR k (k.wrap x) := by
 cases k <;> simp [InR, IntKind.wrap, IntKind.signed, IntKind.bits] <;> (try split) <;> omega

theorem inR_tmod {k : IntKind} {x y : Int} (h : InR k x) : InR k (x.tmod y) := by
 have h1 : (x.tmod y).natAbs ≤ x.natAbs := by rw [Int.natAbs_tmod]; exact Nat.mod_le _ _
 rcases Int.le_total 0 x with hx | hx
 ·have h2 : 0 ≤ x.tmod y := Int.tmod_nonneg y hx
  cases k <;> simp only [InR] at h ⊢ <;> omega
 ·have h2 : x.tmod y ≤ 0 := by
   have := Int.tmod_nonneg y (a := -x) (by omega)
   rw [Int.neg_tmod] at this; omega
  cases k <;> simp only [InR] at h ⊢ <;> omega

theorem fdiv_bounds {x d : Int} (hd : 1 ≤ d) : (0 ≤ x → 0 ≤ x.fdiv d ∧ x.fdiv d ≤ x) ∧ (x < 0 → x ≤ x.fdiv d ∧ x.fdiv d < 0) := by
 rw [Int.fdiv_eq_ediv_of_nonneg x (by omega)]
 refine ⟨fun h => ⟨Int.ediv_nonneg h (by omega), ?_⟩, fun h => ⟨?_, Int.ediv_neg_of_neg_of_pos h (by omega)⟩⟩
 ·exact Int.ediv_le_self d h
 ·have := Int.mul_ediv_self_le (x := x) (k := d) (by omega)
  have h3 : x < d * (x / d) + d := Int.lt_mul_ediv_self_add (by omega)
  rcases Int.lt_or_le (x / d) x with h4 | h4
  ·exfalso
   have h5 : x / d + 1 ≤ x := by omega
   have h6 : d * (x / d + 1) ≤ d * x := Int.mul_le_mul_of_nonneg_left h5 (by omega)
   have h7 : d * x ≤ 1 * x := Int.mul_le_mul_of_nonpos_right hd (by omega)
   rw [Int.mul_add, Int.mul_one] at h6
   omega
  ·exact h4

theorem inR_shr {k : IntKind} {x : Int} (n : Nat) (h : InR k x) : InR k (x.fdiv (2 ^ n)) := by
 have h1 : (1 : Int) ≤ 2 ^ n := by
  have : (0 : Int) < 2 ^ n := Int.pow_pos (by omega)
  omega
 have h2 := (fdiv_bounds (x := x) h1).1
 have h3 := (fdiv_bounds (x := x) h1).2
 generalize x.fdiv (2 ^ n) = q at *
 rcases Int.lt_or_le x 0 with hx | hx
 ·have := h3 hx; cases k <;> simp only [InR] at h ⊢ <;> omega
 ·have := h2 hx; cases k <;> simp only [InR] at h ⊢ <;> omega

theorem litI_eq (z : Int) : litI z = z := by
 unfold litI
 split <;> rfl

theorem InRb_iff {k : IntKind} {z : Int} (h : numOp.InRb k z = true) : InR k z := by
 cases k <;> simp [numOp.InRb] at h <;> simp [InR] <;> omega

theorem tst_some {b : Bool} {l : List Prop} (h : tst b = some l) : b = true ∧ l = [] := by
 cases b <;> simp [tst] at h
 exact ⟨rfl, h⟩

theorem bound_ok {a n : SI} {l : List Prop} (h : bound a n = some l) (hp : AllP l) : 0 ≤ a.z ∧ a.z < n.z := by
 unfold bound at h
 split at h
 ·have := (tst_some h).1
  simpa using this
 ·simp only [Option.some.injEq] at h; subst h; exact hp.1

theorem bounds3_ok {a b n : SI} {l : List Prop} (h : bounds3 a b n = some l) (hp : AllP l) : 0 ≤ a.z ∧ a.z ≤ b.z ∧ b.z ≤ n.z := by
 unfold bounds3 at h
 split at h
 ·have := (tst_some h).1
  simp at this; omega
 ·simp only [Option.some.injEq] at h; subst h; exact hp.1

theorem run_ret {H : Nat → Option SB} {x : Delta} {rs rs' : List Nat} {d : Delta} (h : (RP.ret x).run H rs = some (d, rs')) : d = x := by
 simp only [RP.run, Option.some.injEq, Prod.mk.injEq] at h; exact h.1.symm

theorem arith_run {P : Program} (w : World) {op : BinOp} {k : IntKind} {x y z : Int} {yk : IntKind} (t : TypeId) (hk : isShift op = true ∨ k = yk) (hc : cmp op x y = none) (h : arith op k x y = some z)
  (hq : op = .quo ∨ op = .rem → y ≠ 0) (hs : isShift op = true → 0 ≤ y) (hx : InR k x) : (binOp op t (.int k x) (.int yk y)).run P w = .ok (.int k z) w ∧ InR k z := by
 cases op <;> simp only [arith, Option.some.injEq, reduceCtorEq] at h <;> simp only [isShift, Bool.false_eq_true, false_or, true_or] at hk <;> (try subst hk) <;> subst h
 case add => exact ⟨by simp [binOp, Op.intArith], inR_wrap _ _⟩
 case sub => exact ⟨by simp [binOp, Op.intArith], inR_wrap _ _⟩
 case mul => exact ⟨by simp [binOp, Op.intArith], inR_wrap _ _⟩
 case quo => exact ⟨by simp [binOp, Op.intDiv, hq (.inl rfl)], inR_wrap _ _⟩
 case rem => exact ⟨by simp [binOp, Op.intDiv, hq (.inr rfl)], inR_tmod hx⟩
 case and => exact ⟨by simp [binOp, Op.intBits, andI], inR_wrap _ _⟩
 case or => exact ⟨by simp [binOp, Op.intBits, orI], inR_wrap _ _⟩
 case xor => exact ⟨by simp [binOp, Op.intBits, xorI], inR_wrap _ _⟩
 case andNot => exact ⟨by simp [binOp, Op.intBits, andNotI], inR_wrap _ _⟩
 case shl => exact ⟨by have := hs rfl; simp [binOp, Op.shift, shlI, Int.not_lt.2 this], inR_wrap _ _⟩
 case shr => exact ⟨by have := hs rfl; simp [binOp, Op.shift, shrI, Int.not_lt.2 this], inR_shr _ hx⟩

theorem cmp_run {P : Program} (w : World) {op : BinOp} {k : IntKind} {x y : Int} {b : Bool} (t : TypeId) (h : cmp op x y = some b) : (binOp op t (.int k x) (.int k y)).run P w = .ok (.bool b) w := by
 cases op <;> simp only [cmp, Option.some.injEq, reduceCtorEq] at h <;> subst h <;> simp [binOp, Op.intCmp]

theorem isShift_cmp {op : BinOp} {x y : Int} (h : isShift op = true) : cmp op x y = none := by cases op <;> simp [isShift] at h <;> rfl

theorem numOp_sound {P : Program} (w : World) {H : Nat → Option SB} {dm : Nat → Prop} {ρ : Nat → Pl} {op : BinOp} {k yk : IntKind} {x y : SI} {rs rs' : List Nat} {d : Delta} (t : TypeId)
  (hr : (numOp op k x y).run H rs = some (d, rs')) (hp : AllP d.pre) (hk : isShift op = true ∨ k = yk) (hx : InR k x.z) :
  d.ws = [] ∧ ∃ v, (binOp op t (.int k x.z) (.int yk y.z)).run P w = .ok v w ∧ D dm ρ d.v v := by
 unfold numOp at hr
 cases hc : cmp op x.z y.z with
 | some b =>
  have hk' : k = yk := by
   rcases hk with h | h
   ·rw [isShift_cmp h] at hc; cases hc
   ·exact h
  subst hk'
  simp only [hc] at hr
  have hrun := cmp_run (P := P) w (k := k) t hc
  split at hr
  ·split at hr <;> (have e := run_ret hr; subst e; exact ⟨rfl, _, hrun, rfl⟩)
  ·have e := run_ret hr; subst e; exact ⟨rfl, _, hrun, rfl⟩
 | none =>
  simp only [hc] at hr
  cases ha : arithPre op y with
  | none => simp [ha, RP.run] at hr
  | some pre =>
   cases hz : arith op k x.z y.z with
   | none => simp [ha, hz, RP.run] at hr
   | some z =>
    simp only [ha, hz] at hr
    have main : AllP pre → (binOp op t (.int k x.z) (.int yk y.z)).run P w = .ok (.int k z) w ∧ InR k z := fun hpre => by
     refine arith_run w t hk hc hz (fun ho => ?_) (fun ho => ?_) hx
     ·have : arithPre op y = (match y.st with | true => tst (y.z != 0) | false => some [y.z ≠ 0]) := by rcases ho with rfl | rfl <;> rfl
      rw [this] at ha
      split at ha
      ·have := (tst_some ha).1; simpa using this
      ·simp only [Option.some.injEq] at ha; subst ha; exact hpre.1
     ·have : arithPre op y = (match y.st with | true => tst (decide (0 ≤ y.z)) | false => some [0 ≤ y.z]) := by cases op <;> simp [isShift] at ho <;> rfl
      rw [this] at ha
      split at ha
      ·have := (tst_some ha).1; simpa using this
      ·simp only [Option.some.injEq] at ha; subst ha; exact hpre.1
    split at hr
    ·split at hr
     ·rename_i hb
      have e := run_ret hr; subst e
      obtain ⟨h1, h2⟩ := main hp
      exact ⟨rfl, _, h1, by simp only [D, litI_eq]; exact ⟨trivial, InRb_iff hb⟩⟩
     ·simp [RP.run] at hr
    ·have e := run_ret hr; subst e
     obtain ⟨h1, h2⟩ := main hp
     exact ⟨rfl, _, h1, rfl, h2⟩

theorem eqOp_sound {H : Nat → Option SB} {dm : Nat → Prop} {ρ : Nat → Pl} {op : BinOp} {b : Bool} {rs rs' : List Nat} {d : Delta} (hr : (eqOp op b).run H rs = some (d, rs')) :
  d.ws = [] ∧ ((op = .eql ∧ D dm ρ d.v (.bool b)) ∨ (op = .neq ∧ D dm ρ d.v (.bool (!b)))) := by
 unfold eqOp at hr
 split at hr
 ·have e := run_ret hr; subst e; exact ⟨rfl, .inl ⟨rfl, rfl⟩⟩
 ·have e := run_ret hr; subst e; exact ⟨rfl, .inr ⟨rfl, rfl⟩⟩
 ·simp [RP.run] at hr

theorem eqSt_sound {H : Nat → Option SB} {dm : Nat → Prop} {ρ : Nat → Pl} {op : BinOp} {b : Bool} {rs rs' : List Nat} {d : Delta} (hr : (eqSt op b).run H rs = some (d, rs')) :
  d.ws = [] ∧ ((op = .eql ∧ D dm ρ d.v (.bool b)) ∨ (op = .neq ∧ D dm ρ d.v (.bool (!b)))) := by
 unfold eqSt at hr
 split at hr <;> first
  | (have e := run_ret hr; subst e; exact ⟨rfl, .inl ⟨rfl, rfl⟩⟩)
  | (have e := run_ret hr; subst e; exact ⟨rfl, .inr ⟨rfl, rfl⟩⟩)
  | (simp [RP.run] at hr)

theorem eql_of_equal {P : Program} (w : World) {t : TypeId} {x y : Value} {b : Bool} (hb : ∀ op : BinOp, op = .eql ∨ op = .neq → binOp op t x y = (match op with | .eql => (do pure (.bool (← Op.equal t x y))) | _ => (do pure (.bool (!(← Op.equal t x y))))))
  (h : (Op.equal t x y).run P w = .ok b w) {op : BinOp} (ho : (op = .eql) ∨ (op = .neq)) : (binOp op t x y).run P w = .ok (.bool (if op = .eql then b else !b)) w := by
 rw [hb op ho]
 rcases ho with rfl | rfl <;> simp [h]

theorem eqItems_run {P : Program} (w : World) {d : Nat} {e : TypeId} {k k2 : IntKind} (hu : P.underlying e = some (.int k2)) (hpk : P.cellsOf e = 1) (xs ys : List Int) : ∀ (is : List Nat), (∀ i ∈ is, i < xs.length ∧ i < ys.length) →
  (Op.eqItems (d + 1) e 1 (xs.map (Value.int k)).toArray (ys.map (Value.int k)).toArray is).run P w = .ok (is.all fun i => xs.getD i 0 == ys.getD i 0) w
 | [], _ => rfl
 | i :: is, h => by
  have ih := eqItems_run w (d := d) (k := k) hu hpk xs ys is (fun j hj => h j (by simp [hj]))
  obtain ⟨h1, h2⟩ := h i (by simp)
  have hp : ∀ (l : List Int), i < l.length → (part e (l.map (Value.int k)).toArray (i * 1)).run P w = .ok (.int k (l.getD i 0)) w := fun l hl => by
   have ha : (isAgg e).run P w = .ok false w := by simp [isAgg, run_underlying hu]
   simp [part, ha, hl, List.getD]
  simp only [Op.eqItems, Sem.run_bind, hp xs h1, hp ys h2, Result.andThen_ok, run_equalIn_int w d e k k2 _ _ hu, List.all_cons]
  by_cases hh : (xs.getD i 0 == ys.getD i 0) = true
  ·simp only [hh, Bool.true_and]; simpa using ih
  ·simp only [Bool.not_eq_true] at hh; simp only [hh, Bool.false_and]; simp

theorem all_getD (xs ys : List Int) (n : Nat) (hx : xs.length = n) (hy : ys.length = n) : ((List.range n).all fun i => xs.getD i 0 == ys.getD i 0) = (xs == ys) := by
 rw [Bool.eq_iff_iff]
 simp only [List.all_eq_true, List.mem_range, beq_iff_eq]
 constructor
 ·intro h
  apply List.ext_getElem (by omega)
  intro i h1 h2
  have := h i (by omega)
  simpa [List.getD, h1, h2] using this
 ·rintro rfl i hi; rfl

theorem equal_arr {P : Program} (w : World) {t : TypeId} {n : Nat} {k k2 : IntKind} {a c : List Int} (ht : tyB P (.arr n (.int k2)) t = true) (ha : a.length = n) (hc : c.length = n) :
  (Op.equal t (.agg (a.map (Value.int k)).toArray) (.agg (c.map (Value.int k)).toArray)).run P w = .ok (a == c) w := by
 unfold tyB at ht
 split at ht
 ·rename_i n' T' hu
  simp only [Bool.and_eq_true] at ht
  obtain ⟨⟨e1, e2⟩, e3⟩ := ht
  have hn := Nat.eq_of_beq_eq_true e1
  split at e2
  ·rename_i i hi
   have hs : i.size = 1 := Nat.eq_of_beq_eq_true e2
   unfold tyB at e3
   split at e3
   ·rename_i k' hu'
    have hk' := keq_eq e3
    show (Op.equalIn (9999 + 1) t _ _).run P w = _
    rw [run_equalIn_array w 9999 _ _ hu hi]
    have hpc : P.cellsOf T' = 1 := by simp [Program.cellsOf, hi, hs]
    rw [hpc, ← hn]
    rw [show (9999 : Nat) = 9998 + 1 from rfl, eqItems_run w hu' hpc a c (List.range n) (fun j hj => by simp at hj; omega), all_getD a c n ha hc]
   ·cases e3
  ·cases e2
 ·cases ht

theorem eqGuard_arr {P : Program} (w : World) {op : BinOp} {t : TypeId} {n : Nat} {k : IntKind} (ht : tyB P (.arr n (.int k)) t = true) (x y : Operand) (a b : Array Value) :
  (eqGuard op t x y (.agg a) (.agg b)).run P w = .ok () w := by
 have hg : P.eqGuardType P.depth t = false := by
  have hd : P.depth = (2 * (P.types.size + Made.depth)) + 1 + 1 := rfl
  unfold tyB at ht
  split at ht
  ·rename_i n' T' hu
   simp only [Bool.and_eq_true] at ht
   have e3 := ht.2
   unfold tyB at e3
   split at e3
   ·rename_i k' hu'
    rw [hd]
    simp [Program.eqGuardType, hu, hu']
   ·cases e3
  ·cases ht
 unfold eqGuard
 cases op <;> simp [hg]

theorem eqGuard_other {P : Program} (w : World) {op : BinOp} {t : TypeId} (x y : Operand) {a b : Value} (h : (∀ c, a ≠ .agg c) ∨ (∀ c, b ≠ .agg c)) (h2 : a ≠ .nilIface ∨ b ≠ .nilIface) :
  (eqGuard op t x y a b).run P w = .ok () w := by
 unfold eqGuard
 split <;> simp only [Bool.not_true, Bool.false_eq_true, if_false, Bool.not_false, if_true]
 ·split
  ·exact absurd rfl (by rcases h2 with h2 | h2 <;> exact h2)
  ·rcases h with h | h <;> exact absurd rfl (h _)
  ·rfl
 ·split
  ·exact absurd rfl (by rcases h2 with h2 | h2 <;> exact h2)
  ·rcases h with h | h <;> exact absurd rfl (h _)
  ·rfl
 ·rfl

end Go.Gx

/- Operations that read and write memory. -/
namespace Go.Gx
open Go.RowKit
set_option linter.unusedVariables false

/-! ### Lists -/

def over {α : Type} (vs : List α) (c : Nat) (ys : List α) : List α := vs.take c ++ ys ++ vs.drop (c + ys.length)

theorem over_length {α : Type} {vs ys : List α} {c : Nat} (h : c + ys.length ≤ vs.length) : (over vs c ys).length = vs.length := by
 unfold over; simp; omega

theorem over_nil {α : Type} (vs : List α) (c : Nat) : over vs c [] = vs := by
 unfold over; simp

theorem over_over {α : Type} (vs ys zs : List α) (c : Nat) (h : c + ys.length ≤ vs.length) : over (over vs c ys) (c + ys.length) zs = over vs c (ys ++ zs) := by
 have h1 : (vs.take c ++ ys).length = c + ys.length := by simp; omega
 unfold over
 have e1 : (vs.take c ++ ys ++ vs.drop (c + ys.length)).take (c + ys.length) = vs.take c ++ ys := by
  rw [List.take_append_of_le_length (by omega), List.take_of_length_le (by omega)]
 have e2 : (vs.take c ++ ys ++ vs.drop (c + ys.length)).drop (c + ys.length + zs.length) = vs.drop (c + (ys ++ zs).length) := by
  have h0 : (vs.take c).length = c := by simp; omega
  rw [List.drop_append, List.drop_eq_nil_of_le (by omega), List.nil_append, List.drop_drop, List.length_append, List.length_append, h0]
  congr 1
  omega
 rw [e1, e2]
 simp [List.append_assoc]

theorem over_mid {α : Type} (pre cs post ys : List α) (j : Nat) (h : j + ys.length ≤ cs.length) : over (pre ++ cs ++ post) (pre.length + j) ys = pre ++ over cs j ys ++ post := by
 unfold over
 have e1 : (pre ++ cs ++ post).take (pre.length + j) = pre ++ cs.take j := by
  rw [List.append_assoc, List.take_append, List.take_of_length_le (by omega), List.take_append_of_le_length (by omega)]
  congr 2; omega
 have e2 : (pre ++ cs ++ post).drop (pre.length + j + ys.length) = cs.drop (j + ys.length) ++ post := by
  rw [List.append_assoc, List.drop_append, List.drop_eq_nil_of_le (by omega), List.nil_append, List.drop_append_of_le_length (by omega)]
  congr 2; omega
 rw [e1, e2]
 simp [List.append_assoc]

theorem drop_mid {α : Type} (pre cs post : List α) (j n : Nat) (h : j + n ≤ cs.length) : ((pre ++ cs ++ post).drop (pre.length + j)).take n = (cs.drop j).take n := by
 rw [List.append_assoc, List.drop_append, List.drop_eq_nil_of_le (by omega), List.nil_append, show pre.length + j - pre.length = j by omega, List.drop_append_of_le_length (by omega), List.take_append_of_le_length (by simp; omega)]

theorem nth_some {α : Type} : ∀ {l : List α} {j : Nat} {z : α}, nth l j = some z → l[j]? = some z
 | [], j, z, h => by simp [nth] at h
 | x :: r, 0, z, h => by simpa [nth] using h
 | x :: r, j + 1, z, h => by simp only [nth] at h; simpa using nth_some h

theorem setn_some {α : Type} : ∀ {l l' : List α} {j : Nat} {z : α}, setn l j z = some l' → l' = l.set j z ∧ j < l.length
 | [], l', j, z, h => by simp [setn] at h
 | x :: r, l', 0, z, h => by simp only [setn, Option.some.injEq] at h; subst h; simp
 | x :: r, l', j + 1, z, h => by
  simp only [setn] at h
  split at h
  ·rename_i r' hr
   simp only [Option.some.injEq] at h; subst h
   obtain ⟨h1, h2⟩ := setn_some hr
   rw [h1]; simp; omega
  ·cases h

theorem getI_some {ex : Bool} {l : List Int} {j : Nat} {z : Int} (h : getI ex l j = some z) (hj : j < l.length) : z = l[j] := by
 unfold getI at h
 split at h
 ·have := nth_some h
  rw [List.getElem?_eq_getElem hj] at this
  simpa using this.symm
 ·simp only [Option.some.injEq] at h; rw [← h]; simp [List.getD, hj]

theorem setI_some {ex : Bool} {l l' : List Int} {j : Nat} {z : Int} (h : setI ex l j z = some l') : l' = l.set j z := by
 unfold setI at h
 split at h
 ·exact (setn_some h).1
 ·simp only [Option.some.injEq] at h; exact h.symm

theorem set_over {α : Type} (l : List α) (j : Nat) (z : α) (h : j < l.length) : l.set j z = over l j [z] := by
 unfold over
 rw [List.set_eq_take_append_cons_drop, if_pos h]
 simp

theorem flatten_len {k : IntKind} {n : Nat} : ∀ {l : List (List Int)}, AllA k n l → l.flatten.length = n * l.length
 | [], _ => by simp
 | a :: r, h => by
  have := flatten_len (l := r) (fun x hx => h x (by simp [hx]))
  simp only [List.flatten_cons, List.length_append, this, (h a (by simp)).1, List.length_cons, Nat.mul_add, Nat.mul_one]; omega

theorem flatten_at {k : IntKind} {n : Nat} : ∀ {l : List (List Int)} {i : Nat} (h : AllA k n l) (hi : i < l.length), (l.flatten.drop (n * i)).take n = l[i]
 | a :: r, 0, h, _ => by
  have := (h a (by simp)).1
  simp only [List.flatten_cons, Nat.mul_zero, List.drop_zero, List.getElem_cons_zero]
  rw [List.take_append_of_le_length (by omega), List.take_of_length_le (by omega)]
 | a :: r, i + 1, h, hi => by
  have ha := (h a (by simp)).1
  have ih := flatten_at (l := r) (i := i) (fun x hx => h x (by simp [hx])) (by simpa using hi)
  simp only [List.flatten_cons, List.getElem_cons_succ]
  rw [List.drop_append, List.drop_eq_nil_of_le (by rw [ha, Nat.mul_add]; omega), List.nil_append, show n * (i + 1) - a.length = n * i by rw [ha, Nat.mul_add]; omega]
  exact ih

theorem flatten_set {k : IntKind} {n : Nat} : ∀ {l : List (List Int)} {i : Nat} {y : List Int} (h : AllA k n l) (hi : i < l.length) (hy : y.length = n), (l.set i y).flatten = over l.flatten (n * i) y
 | a :: r, 0, y, h, _, hy => by
  have ha := (h a (by simp)).1
  simp only [List.set_cons_zero, List.flatten_cons, Nat.mul_zero, over, List.take_zero, List.nil_append, Nat.zero_add]
  rw [hy, ← ha, List.drop_left]
 | a :: r, i + 1, y, h, hi, hy => by
  have ha := (h a (by simp)).1
  have hr : AllA k n r := fun x hx => h x (by simp [hx])
  have ih := flatten_set (l := r) (i := i) (y := y) hr (by simpa using hi) hy
  simp only [List.set_cons_succ, List.flatten_cons, ih]
  have hl := flatten_len hr
  have hb : n * i + y.length ≤ r.flatten.length := by
   have : i + 1 ≤ r.length := by simp at hi; omega
   have := Nat.mul_le_mul_left n this
   rw [hl, hy]; rw [Nat.mul_add] at this; omega
  have := over_mid a r.flatten [] y (n * i) hb
  simp only [List.append_nil] at this
  rw [← this]
  congr 1
  rw [ha, Nat.mul_add]; omega

theorem AllA.set {k : IntKind} {n : Nat} {l : List (List Int)} {i : Nat} {y : List Int} (h : AllA k n l) (hy : y.length = n) (hr : AllR k y) : AllA k n (l.set i y) := fun a ha => by
 rcases List.mem_or_eq_of_mem_set ha with h' | h'
 ·exact h a h'
 ·rw [h']; exact ⟨hy, hr⟩

theorem AllR.set {k : IntKind} {l : List Int} {i : Nat} {z : Int} (h : AllR k l) (hz : InR k z) : AllR k (l.set i z) := fun a ha => by
 rcases List.mem_or_eq_of_mem_set ha with h' | h'
 ·exact h a h'
 ·rw [h']; exact hz

theorem AllR.at {k : IntKind} {l : List Int} {j : Nat} (h : AllR k l) (hj : j < l.length) : InR k l[j] := h _ (List.getElem_mem hj)

theorem getAll_eq : ∀ (n j : Nat) (l : List Int), j + n ≤ l.length → getAll l n j = (l.drop j).take n
 | 0, j, l, _ => by simp [getAll]
 | n + 1, j, l, h => by
  have hj : j < l.length := by omega
  rw [getAll, getAll_eq n (j + 1) l (by omega)]
  rw [List.drop_eq_getElem_cons hj, List.take_succ_cons]
  simp [List.getD, hj]

/-! ### Reading a piece -/

theorem fits_spec {t : Ty} {x : SV} (h : fits t x = true) : t.size = 1 ∧ isRow t = false := by
 cases t <;> cases x <;> simp [fits] at h <;> exact ⟨rfl, rfl⟩

theorem drop_take_one {α : Type} {cs : List α} {j : Nat} (h : j < cs.length) : (cs.drop j).take 1 = [cs[j]] := by
 rw [List.drop_eq_getElem_cons h]; rfl

def ReadOk (dm : Nat → Prop) (ρ : Nat → Pl) (x : SV) (t : Ty) (cs : List Value) (j : Nat) : Prop :=
 ∃ v, D dm ρ x v ∧ v.cells.toList = (cs.drop j).take t.size ∧ j + t.size ≤ cs.length ∧ (isRow t = true → ∃ a, v = .agg a) ∧ (isRow t = false → v.cells = #[v])

theorem readSeg_sound {dm : Nat → Prop} {ρ : Nat → Pl} {g : Seg} {j : Nat} {t : Ty} {p : List Prop} {x : SV} {cs : List Value} (h : readSeg g j t = some (p, x)) (hp : AllP p)
  (hg : SegD dm ρ g cs) (hj : ∀ n, segLen g = some n → j < n) : ReadOk dm ρ x t cs j := by
 cases g with
 | one y =>
  simp only [readSeg] at h
  split at h
  ·rename_i hf
   simp only [Option.some.injEq, Prod.mk.injEq] at h
   obtain ⟨_, rfl⟩ := h
   obtain ⟨h1, v, h2, h3⟩ := hg
   have hj0 : j = 0 := by have := hj 1 rfl; omega
   obtain ⟨hs, hr⟩ := fits_spec hf
   subst hj0
   exact ⟨v, h2, by rw [(single_cell h1 h2).2, h3, hs]; rfl, by rw [h3, hs]; simp, (fun hr' => by rw [hr] at hr'; cases hr'), fun _ => (single_cell h1 h2).2⟩
  ·cases h
 | arr k m ex l =>
  obtain ⟨h1, h2, h3⟩ := hg
  cases t with
  | int k' =>
   simp only [readSeg] at h
   split at h
   ·rename_i z hk hz
    simp only [Option.some.injEq, Prod.mk.injEq] at h
    obtain ⟨_, rfl⟩ := h
    have hjn : j < l.length := by rw [h1]; exact hj m rfl
    have hzz := getI_some hz hjn
    have hjc : j < cs.length := by rw [h3]; simpa using hjn
    refine ⟨.int k z, ⟨rfl, by rw [hzz]; exact h2.at hjn⟩, ?_, by simp [Ty.size]; omega, (fun hr' => by cases hr'), fun _ => rfl⟩
    show [Value.int k z] = (cs.drop j).take 1
    rw [drop_take_one hjc]
    simp only [h3, List.getElem_map, hzz]
   ·cases h
  | arr n e =>
   cases e with
   | int k' =>
    simp only [readSeg] at h
    split at h
    ·rename_i hb
     simp only [Bool.and_eq_true] at hb
     obtain ⟨⟨b1, b2⟩, b3⟩ := hb
     have e2 := Nat.eq_of_beq_eq_true b2
     have e3 := Nat.eq_of_beq_eq_true b3
     simp only [Option.some.injEq, Prod.mk.injEq] at h
     obtain ⟨_, rfl⟩ := h
     subst e3
     have hcl : cs.length = n := by rw [h3]; simp; omega
     refine ⟨.agg (l.map (Value.int k)).toArray, ⟨by omega, h2, rfl⟩, ?_, by simp [Ty.size]; omega, (fun _ => ⟨_, rfl⟩), (fun hr' => by cases hr')⟩
     simp only [Value.cells, List.drop_zero, Ty.size, Nat.mul_one]
     rw [List.take_of_length_le (by omega), h3]
    ·cases h
   | _ => simp [readSeg] at h
  | _ => simp [readSeg] at h
 | rowI k l =>
  obtain ⟨h2, h3⟩ := hg
  cases t with
  | int k' =>
   simp only [readSeg] at h
   split at h
   ·simp only [Option.some.injEq, Prod.mk.injEq] at h
    obtain ⟨rfl, rfl⟩ := h
    have hjn : j < l.length := hp.1
    have hjc : j < cs.length := by rw [h3]; simpa using hjn
    have hzz : l.getD j 0 = l[j] := by simp [List.getD, hjn]
    refine ⟨.int k (l.getD j 0), ⟨rfl, by rw [hzz]; exact h2.at hjn⟩, ?_, by simp [Ty.size]; omega, (fun hr' => by cases hr'), fun _ => rfl⟩
    show [Value.int k (l.getD j 0)] = (cs.drop j).take 1
    rw [drop_take_one hjc]
    simp only [h3, List.getElem_map, hzz]
   ·cases h
  | _ => simp [readSeg] at h
 | rowH key hs =>
  cases t with
  | slice =>
   simp only [readSeg, Option.some.injEq, Prod.mk.injEq] at h
   obtain ⟨rfl, rfl⟩ := h
   have hjn : j < hs.length := hp.1
   obtain ⟨v, q1, q2⟩ := hg.2.at_ j hjn
   have hjc : j < cs.length := by rw [hg.2.len]; exact hjn
   have hv : cs[j] = v := by rw [List.getElem?_eq_getElem hjc] at q1; simpa using q1
   have hc := (single_cell rfl q2).2
   refine ⟨v, q2, ?_, by simp [Ty.size]; omega, (fun hr' => by cases hr'), fun _ => hc⟩
   show v.cells.toList = (cs.drop j).take 1
   rw [drop_take_one hjc, hc, hv]
  | arr n e => cases e <;> simp [readSeg] at h
  | _ => simp [readSeg] at h
 | rowD key sh ds =>
  cases t with
  | arr n e => cases e <;> simp [readSeg] at h
  | _ => simp [readSeg] at h
 | rowP key n =>
  cases t with
  | ptr =>
   simp only [readSeg, Option.some.injEq, Prod.mk.injEq] at h
   obtain ⟨rfl, rfl⟩ := h
   have hjn : j < n := hp.1
   obtain ⟨h1, h2, rfl⟩ := hg
   have hjc : j < (ptrsV (ρ key) n).length := by rw [ptrsV_len]; exact hjn
   have hv : (ptrsV (ρ key) n)[j] = .pointer (some ⟨(ρ key).pb j, (ρ key).po j, none⟩) := by
    have := ptrsV_at (p := ρ key) hjn
    rw [List.getElem?_eq_getElem hjc] at this; simpa using this
   refine ⟨.pointer (some ⟨(ρ key).pb j, (ρ key).po j, none⟩), ⟨h1, by omega, by decide, rfl⟩, ?_, by rw [ptrsV_len]; simp [Ty.size]; omega, (fun hr' => by cases hr'), fun _ => rfl⟩
   show [_] = (List.drop j _).take 1
   rw [drop_take_one hjc, hv]
  | arr n e => cases e <;> simp [readSeg] at h
  | _ => simp [readSeg] at h
 | rowA k n l =>
  obtain ⟨h2, h3⟩ := hg
  have hfl := flatten_len h2
  cases t with
  | int k' =>
   simp only [readSeg] at h
   split at h
   ·rename_i hb
    simp only [Bool.and_eq_true] at hb
    have hn : 0 < n := by have := hb.2; simp [Nat.blt] at this; omega
    simp only [Option.some.injEq, Prod.mk.injEq] at h
    obtain ⟨rfl, rfl⟩ := h
    have hi : j / n < l.length := hp.1
    have hm : j % n < n := Nat.mod_lt _ hn
    have hlen := (h2 _ (List.getElem_mem hi)).1
    have hdm := Nat.div_add_mod j n
    have hjf : j < l.flatten.length := by
     rw [hfl]
     have := Nat.mul_le_mul_left n (show j / n + 1 ≤ l.length from hi)
     rw [Nat.mul_add] at this; omega
    have hjc : j < cs.length := by rw [h3, List.length_map]; exact hjf
    have hat := flatten_at h2 hi
    have hz : l.flatten[j] = (l[j / n])[j % n]'(by omega) := by
     have e1 : l.flatten[j]? = ((l.flatten.drop (n * (j / n))).take n)[j % n]? := by
      rw [List.getElem?_take, if_pos hm, List.getElem?_drop, hdm]
     rw [hat, List.getElem?_eq_getElem hjf, List.getElem?_eq_getElem (by omega)] at e1
     simpa using e1
    have hzz : (l.getD (j / n) []).getD (j % n) 0 = l.flatten[j] := by
     rw [hz]
     have : l.getD (j / n) [] = l[j / n] := by simp [List.getD, hi]
     rw [this]
     simp [List.getD, hlen, hm]
    refine ⟨.int k ((l.getD (j / n) []).getD (j % n) 0), ⟨rfl, ?_⟩, ?_, by simp [Ty.size]; omega, (fun hr' => by cases hr'), fun _ => rfl⟩
    ·rw [hzz, hz]; exact (h2 _ (List.getElem_mem hi)).2.at (by omega)
    ·show [Value.int k _] = (cs.drop j).take 1
     rw [drop_take_one hjc]
     simp only [h3, List.getElem_map, hzz]
   ·cases h
  | arr m e =>
   cases e with
   | int k' =>
    simp only [readSeg] at h
    split at h
    ·rename_i hb
     simp only [Bool.and_eq_true] at hb
     obtain ⟨⟨b1, b2⟩, b3⟩ := hb
     have e2 := Nat.eq_of_beq_eq_true b2
     have e3 := Nat.eq_of_beq_eq_true b3
     simp only [Option.some.injEq, Prod.mk.injEq] at h
     obtain ⟨rfl, rfl⟩ := h
     subst e2
     have hi : j / m < l.length := hp.1
     have hdm := Nat.div_add_mod j m
     rw [e3, Nat.add_zero] at hdm
     have hlen := (h2 _ (List.getElem_mem hi)).1
     have hat := flatten_at h2 hi
     rw [hdm] at hat
     have hget : l.getD (j / m) [] = l[j / m] := by simp [List.getD, hi]
     have hall : getAll (l.getD (j / m) []) m 0 = l[j / m] := by
      rw [hget, getAll_eq m 0 _ (by omega), List.drop_zero, List.take_of_length_le (by omega)]
     have hjf : j + m ≤ l.flatten.length := by
      rw [hfl]
      have := Nat.mul_le_mul_left m (show j / m + 1 ≤ l.length from hi)
      rw [Nat.mul_add] at this; omega
     have hjc : j + m ≤ cs.length := by rw [h3, List.length_map]; exact hjf
     refine ⟨.agg ((l[j / m]).map (Value.int k)).toArray, ?_, ?_, by simp [Ty.size]; omega, (fun _ => ⟨_, rfl⟩), (fun hr' => by cases hr')⟩
     ·rw [hall]; exact ⟨hlen, (h2 _ (List.getElem_mem hi)).2, rfl⟩
     ·simp only [Value.cells, Ty.size, Nat.mul_one]
      rw [h3, ← List.map_drop, ← List.map_take, hat]
    ·cases h
   | _ => simp [readSeg] at h
  | _ => simp [readSeg] at h

theorem ReadOk.mid {dm : Nat → Prop} {ρ : Nat → Pl} {x : SV} {t : Ty} {pre cs post : List Value} {j : Nat} (h : ReadOk dm ρ x t cs j) : ReadOk dm ρ x t (pre ++ cs ++ post) (pre.length + j) := by
 obtain ⟨v, h1, h2, h3, h4⟩ := h
 exact ⟨v, h1, by rw [h2, drop_mid _ _ _ _ _ h3], by simp; omega, h4⟩

theorem readCell_sound {dm : Nat → Prop} {ρ : Nat → Pl} {l : List Seg} {c : Nat} {t : Ty} {p : List Prop} {x : SV} {vs : List Value} (h : readCell l c t = some (p, x)) (hp : AllP p)
  (hl : SegsD dm ρ l vs) : ReadOk dm ρ x t vs c := by
 unfold readCell at h
 split at h
 ·rename_i g j hs
  obtain ⟨pre, cs, post, e1, e2, e3, e4, _⟩ := segAt_D l c vs g j hl hs
  rw [e1, ← e3]
  exact (readSeg_sound h hp e2 e4).mid
 ·cases h

mutual
theorem readVar_sound {dm : Nat → Prop} {ρ : Nat → Pl} {l : List Seg} {vs : List Value} (hl : SegsD dm ρ l vs) : ∀ (t : Ty) (c : Nat) (p : List Prop) (x : SV), readVar l c t = some (p, x) → AllP p → ReadOk dm ρ x t vs c
 | .struct fs, c, p, x, h, hp => by
  simp only [readVar] at h
  split at h
  ·rename_i q xs t ts hs
   simp only [Option.some.injEq, Prod.mk.injEq] at h
   obtain ⟨rfl, rfl⟩ := h
   obtain ⟨h1, h2⟩ := readAll_sound hl (t :: ts) c q xs hs hp
   have h3 : c + Ty.sizes (t :: ts) ≤ vs.length := by rcases h2 with h2 | h2; exact h2; cases h2
   refine ⟨.agg ((vs.drop c).take (Ty.sizes (t :: ts))).toArray, ⟨_, h1, rfl⟩, by simp [Value.cells, Ty.size], by simpa [Ty.size] using h3, (fun _ => ⟨_, rfl⟩), (fun hr => by cases hr)⟩
  ·cases h
 | .arr n e, c, p, x, h, hp => readCell_sound (by simpa only [readVar] using h) hp hl
 | .int k, c, p, x, h, hp => readCell_sound (by simpa only [readVar] using h) hp hl
 | .bool, c, p, x, h, hp => readCell_sound (by simpa only [readVar] using h) hp hl
 | .str, c, p, x, h, hp => readCell_sound (by simpa only [readVar] using h) hp hl
 | .ptr, c, p, x, h, hp => readCell_sound (by simpa only [readVar] using h) hp hl
 | .slice, c, p, x, h, hp => readCell_sound (by simpa only [readVar] using h) hp hl
 | .func, c, p, x, h, hp => readCell_sound (by simpa only [readVar] using h) hp hl
 | .iface, c, p, x, h, hp => by simp [readVar] at h
theorem readAll_sound {dm : Nat → Prop} {ρ : Nat → Pl} {l : List Seg} {vs : List Value} (hl : SegsD dm ρ l vs) : ∀ (ts : List Ty) (c : Nat) (p : List Prop) (xs : List SV), readAll l c ts = some (p, xs) → AllP p →
  Cs dm ρ xs ((vs.drop c).take (Ty.sizes ts)) ∧ (c + Ty.sizes ts ≤ vs.length ∨ ts = [])
 | [], c, p, xs, h, hp => by
  simp only [readAll, Option.some.injEq, Prod.mk.injEq] at h
  obtain ⟨rfl, rfl⟩ := h
  exact ⟨by simp [Cs, Ty.sizes], .inr rfl⟩
 | t :: ts, c, p, xs, h, hp => by
  simp only [readAll] at h
  split at h
  ·rename_i p1 x1 p2 x2 h1 h2
   simp only [Option.some.injEq, Prod.mk.injEq] at h
   obtain ⟨rfl, rfl⟩ := h
   obtain ⟨hp1, hp2⟩ := AllP.append hp
   obtain ⟨v, a1, a2, a3, _⟩ := readVar_sound hl t c p1 x1 h1 hp1
   obtain ⟨b1, b2⟩ := readAll_sound hl ts (c + t.size) p2 x2 h2 hp2
   have hle : c + Ty.sizes (t :: ts) ≤ vs.length := by
    rcases b2 with b2 | rfl
    ·simp only [Ty.sizes]; omega
    ·simp only [Ty.sizes]; omega
   refine ⟨⟨v, (vs.drop (c + t.size)).take (Ty.sizes ts), a1, ?_, b1⟩, .inl hle⟩
   rw [a2, Ty.sizes, ← List.drop_drop, List.take_add]
  ·cases h
end

end Go.Gx

/- Data that is only read: what a loaded piece of it is. -/
namespace Go.Gx
open Go.RowKit
set_option linter.unusedVariables false

/-! ### Data that is only read -/

mutual
theorem RoD_cells {w : World} {Out : Nat → Prop} : ∀ (sh : Sh) (d : RO) (v : Value), RoD w Out sh d v → v.cells.toList.length = shSize sh
 | .i k, d, v, h => by simp only [RoD] at h; rw [h.1]; rfl
 | .tb, d, v, h => by simp only [RoD] at h; rw [h]; rfl
 | .ts, d, v, h => by simp only [RoD] at h; rw [h.1]; rfl
 | .arr n k, d, v, h => by simp only [RoD] at h; rw [h.2.2]; simp [Value.cells, shSize, h.1]
 | .r fs, d, v, h => by
  simp only [RoD] at h
  obtain ⟨cs, h1, rfl⟩ := h
  simp only [Value.cells, shSize]
  exact RoCs_cells fs d 0 cs h1
 | .ints k, d, v, h => by simp only [RoD] at h; obtain ⟨a, cap, h, _⟩ := h; rw [h]; rfl
 | .l e, d, v, h => by simp only [RoD] at h; obtain ⟨a, cap, cs, h, _⟩ := h; rw [h]; rfl
theorem RoCs_cells {w : World} {Out : Nat → Prop} : ∀ (fs : List Sh) (d : RO) (i : Nat) (cs : List Value), RoCs w Out fs d i cs → cs.length = shSizes fs
 | [], d, i, cs, h => by simp only [RoCs] at h; rw [h]; rfl
 | s :: r, d, i, cs, h => by
  simp only [RoCs] at h
  obtain ⟨v, c, h1, rfl, h3⟩ := h
  rw [List.length_append, RoD_cells s _ v h1, RoCs_cells r d _ c h3]; rfl
end

mutual
theorem svOf_D {dm : Nat → Prop} {ρ : Nat → Pl} {key : Nat} (hk : dm key) {w : World} {Out : Nat → Prop} (hr : (ρ key).rel = RoD w Out) : ∀ (sh : Sh) (d : RO) (v : Value), RoD w Out sh d v → D dm ρ (svOf key sh d) v
 | .i k, d, v, h => by simp only [RoD] at h; exact h
 | .tb, d, v, h => by simp only [RoD] at h; exact h
 | .ts, d, v, h => by simp only [RoD] at h; exact h
 | .arr n k, d, v, h => by simp only [RoD] at h; exact h
 | .r fs, d, v, h => by
  simp only [RoD] at h
  obtain ⟨cs, h1, rfl⟩ := h
  simp only [svOf, D]
  exact ⟨cs, svOfs_D hk hr fs d 0 cs h1, rfl⟩
 | .ints k, d, v, h => by
  have h0 := h
  simp only [RoD] at h
  obtain ⟨a, cap, h1, h2, h3, h4, h5⟩ := h
  simp only [svOf, D]
  refine ⟨hk, by rw [hr]; exact h0, RoD.fact _ _ _ h0, a, cap, h1, h2, h3, ?_⟩
  rcases h5 with ⟨b, o, q, _⟩ | h5
  ·exact .inl ⟨b, o, q⟩
  ·exact .inr h5
 | .l e, d, v, h => by
  have h0 := h
  simp only [RoD] at h
  obtain ⟨a, cap, cs, h1, h2, h3, h4, h5⟩ := h
  simp only [svOf, D]
  refine ⟨hk, by rw [hr]; exact h0, RoD.fact _ _ _ h0, a, cap, h1, h2, h3, ?_⟩
  rcases h5 with ⟨b, o, q, _⟩ | h5
  ·exact .inl ⟨b, o, q⟩
  ·exact .inr h5
theorem svOfs_D {dm : Nat → Prop} {ρ : Nat → Pl} {key : Nat} (hk : dm key) {w : World} {Out : Nat → Prop} (hr : (ρ key).rel = RoD w Out) : ∀ (fs : List Sh) (d : RO) (i : Nat) (cs : List Value), RoCs w Out fs d i cs → Cs dm ρ (svOfs key fs d i) cs
 | [], d, i, cs, h => by simp only [RoCs] at h; exact h
 | s :: r, d, i, cs, h => by
  simp only [RoCs] at h
  obtain ⟨v, c, h1, h2, h3⟩ := h
  simp only [svOfs, Cs]
  exact ⟨v, c, svOf_D hk hr s _ v h1, h2, svOfs_D hk hr r d _ c h3⟩
end

def isRowSh : Sh → Bool
 | .arr _ _ => true
 | .r _ => true
 | _ => false

mutual
theorem shFits_size : ∀ (t : Ty) (sh : Sh), shFits t sh = true → t.size = shSize sh ∧ (isRow t = true ↔ isRowSh sh = true)
 | .int _, sh, h => by cases sh <;> simp [shFits] at h; exact ⟨rfl, by simp [isRow, isRowSh]⟩
 | .bool, sh, h => by cases sh <;> simp [shFits] at h; exact ⟨rfl, by simp [isRow, isRowSh]⟩
 | .str, sh, h => by cases sh <;> simp [shFits] at h; exact ⟨rfl, by simp [isRow, isRowSh]⟩
 | .ptr, sh, h => by cases sh <;> simp [shFits] at h
 | .slice, sh, h => by cases sh <;> simp [shFits] at h <;> exact ⟨rfl, by simp [isRow, isRowSh]⟩
 | .func, sh, h => by cases sh <;> simp [shFits] at h
 | .iface, sh, h => by cases sh <;> simp [shFits] at h
 | .arr n e, sh, h => by
  cases e <;> cases sh <;> simp [shFits] at h
  simp only [Ty.size, shSize, isRow, isRowSh, and_true]
  omega
 | .struct [], sh, h => by cases sh <;> simp [shFits] at h
 | .struct (t :: ts), sh, h => by
  cases sh <;> try (simp [shFits] at h; done)
  rename_i fs
  cases fs <;> simp [shFits] at h
  rename_i s ss
  have h1 := (shFits_size t s h.1).1
  have h2 := shFitss_size ts ss h.2
  simp only [Ty.size, Ty.sizes, shSize, shSizes, isRow, isRowSh, and_self, h1, h2]
theorem shFitss_size : ∀ (ts : List Ty) (ss : List Sh), shFitss ts ss = true → Ty.sizes ts = shSizes ss
 | [], [], h => rfl
 | [], _ :: _, h => by simp [shFitss] at h
 | _ :: _, [], h => by simp [shFitss] at h
 | t :: ts, s :: ss, h => by
  simp only [shFitss, Bool.and_eq_true] at h
  simp only [Ty.sizes, shSizes, (shFits_size t s h.1).1, shFitss_size ts ss h.2]
end

theorem RoD_row {w : World} {Out : Nat → Prop} {sh : Sh} {d : RO} {v : Value} (h : RoD w Out sh d v) : isRowSh sh = true → ∃ a, v = .agg a := by
 cases sh <;> simp only [RoD] at h <;> intro hh <;> (try (cases hh; done))
 ·exact ⟨_, h.2.2⟩
 ·obtain ⟨cs, _, h⟩ := h; exact ⟨_, h⟩
theorem RoD_one {w : World} {Out : Nat → Prop} {sh : Sh} {d : RO} {v : Value} (h : RoD w Out sh d v) : ¬ isRowSh sh = true → v.cells = #[v] := by
 cases sh <;> simp only [RoD] at h <;> intro hh <;> (try exact absurd rfl hh)
 ·rw [h.1]; rfl
 ·rw [h]; rfl
 ·rw [h.1]; rfl
 ·obtain ⟨a, cap, h, _⟩ := h; rw [h]; rfl
 ·obtain ⟨a, cap, cs, h, _⟩ := h; rw [h]; rfl

theorem svOf_read {dm : Nat → Prop} {ρ : Nat → Pl} {key : Nat} (hk : dm key) {w : World} {Out : Nat → Prop} (hr : (ρ key).rel = RoD w Out) {sh : Sh} {d : RO} {v : Value} {t : Ty} (h : RoD w Out sh d v) (hf : shFits t sh = true) :
  ReadOk dm ρ (svOf key sh d) t v.cells.toList 0 := by
 obtain ⟨h1, h2⟩ := shFits_size t sh hf
 have hl := RoD_cells sh d v h
 refine ⟨v, svOf_D hk hr sh d v h, ?_, by omega, fun hh => RoD_row h (h2.1 hh), fun hh => RoD_one h (fun hn => by rw [h2.2 hn] at hh; cases hh)⟩
 rw [List.drop_zero, List.take_of_length_le (by omega)]

mutual
theorem readSh_sound {dm : Nat → Prop} {ρ : Nat → Pl} {key : Nat} (hk : dm key) {w : World} {Out : Nat → Prop} (hr : (ρ key).rel = RoD w Out) : ∀ (sh : Sh) (d : RO) (j : Nat) (t : Ty) (x : SV) (v : Value), readSh key sh d j t = some x → RoD w Out sh d v → ReadOk dm ρ x t v.cells.toList j
 | .i k, d, j, t, x, v, h, hd => by
  simp only [readSh] at h
  split at h
  ·rename_i hb
   simp only [Bool.and_eq_true] at hb
   simp only [Option.some.injEq] at h; subst h
   rw [Nat.eq_of_beq_eq_true hb.1]; exact svOf_read hk hr hd hb.2
  ·cases h
 | .tb, d, j, t, x, v, h, hd => by
  simp only [readSh] at h
  split at h
  ·rename_i hb
   simp only [Bool.and_eq_true] at hb
   simp only [Option.some.injEq] at h; subst h
   rw [Nat.eq_of_beq_eq_true hb.1]; exact svOf_read hk hr hd hb.2
  ·cases h
 | .ts, d, j, t, x, v, h, hd => by
  simp only [readSh] at h
  split at h
  ·rename_i hb
   simp only [Bool.and_eq_true] at hb
   simp only [Option.some.injEq] at h; subst h
   rw [Nat.eq_of_beq_eq_true hb.1]; exact svOf_read hk hr hd hb.2
  ·cases h
 | .ints k, d, j, t, x, v, h, hd => by
  simp only [readSh] at h
  split at h
  ·rename_i hb
   simp only [Bool.and_eq_true] at hb
   simp only [Option.some.injEq] at h; subst h
   rw [Nat.eq_of_beq_eq_true hb.1]; exact svOf_read hk hr hd hb.2
  ·cases h
 | .l e, d, j, t, x, v, h, hd => by
  simp only [readSh] at h
  split at h
  ·rename_i hb
   simp only [Bool.and_eq_true] at hb
   simp only [Option.some.injEq] at h; subst h
   rw [Nat.eq_of_beq_eq_true hb.1]; exact svOf_read hk hr hd hb.2
  ·cases h
 | .arr n k, d, j, t, x, v, h, hd => by
  have gen : (match Nat.beq j 0 && shFits t (.arr n k) with | true => some (svOf key (.arr n k) d) | false => none) = some x → ReadOk dm ρ x t v.cells.toList j := fun h => by
   split at h
   ·rename_i hb
    simp only [Bool.and_eq_true] at hb
    simp only [Option.some.injEq] at h; subst h
    rw [Nat.eq_of_beq_eq_true hb.1]; exact svOf_read hk hr hd hb.2
   ·cases h
  cases t with
  | int k' =>
   simp only [readSh] at h
   split at h
   ·rename_i hb
    simp only [Bool.and_eq_true] at hb
    have hjn : j < n := by have := hb.2; simp [Nat.blt] at this; omega
    have hkk := keq_eq hb.1
    subst hkk
    simp only [Option.some.injEq] at h; subst h
    simp only [RoD] at hd
    obtain ⟨h1, h2, h3⟩ := hd
    have hj : j < (roL d).length := by omega
    have hzz : (roL d).getD j 0 = (roL d)[j] := by simp [List.getD, hj]
    have hc : v.cells.toList = (roL d).map (Value.int k) := by rw [h3]; simp [Value.cells]
    rw [hc]
    refine ⟨.int k ((roL d).getD j 0), ⟨rfl, by rw [hzz]; exact h2.at hj⟩, ?_, by simp [Ty.size]; omega, (fun hr' => by cases hr'), fun _ => rfl⟩
    show [Value.int k ((roL d).getD j 0)] = (((roL d).map (Value.int k)).drop j).take 1
    rw [drop_take_one (by simpa using hj)]
    simp only [List.getElem_map, hzz]
   ·cases h
  | _ => exact gen h
 | .r fs, d, j, t, x, v, h, hd => by
  simp only [readSh] at h
  split at h
  ·rename_i hb
   simp only [Bool.and_eq_true] at hb
   simp only [Option.some.injEq] at h; subst h
   rw [Nat.eq_of_beq_eq_true hb.1]; exact svOf_read hk hr hd hb.2
  ·simp only [RoD] at hd
   obtain ⟨cs, h1, rfl⟩ := hd
   simp only [Value.cells]
   exact readShs_sound hk hr fs d 0 j t x cs h h1
theorem readShs_sound {dm : Nat → Prop} {ρ : Nat → Pl} {key : Nat} (hk : dm key) {w : World} {Out : Nat → Prop} (hr : (ρ key).rel = RoD w Out) : ∀ (fs : List Sh) (d : RO) (i j : Nat) (t : Ty) (x : SV) (cs : List Value), readShs key fs d i j t = some x → RoCs w Out fs d i cs → ReadOk dm ρ x t cs j
 | [], d, i, j, t, x, cs, h, hd => by simp [readShs] at h
 | s :: r, d, i, j, t, x, cs, h, hd => by
  simp only [RoCs] at hd
  obtain ⟨v, c, h1, rfl, h3⟩ := hd
  have hl := RoD_cells s _ v h1
  simp only [readShs] at h
  split at h
  ·rename_i hb
   have hle := Nat.le_of_ble_eq_true hb
   have := (readShs_sound hk hr r d (i + 1) (j - shSize s) t x c h h3).mid (pre := v.cells.toList) (post := [])
   rw [List.append_nil, hl, Nat.add_sub_cancel' hle] at this
   exact this
  ·have := (readSh_sound hk hr s _ j t x v h h1).mid (pre := []) (post := c)
   simpa using this
end

theorem chain_at_ {R : RO → Value → Prop} {n : Nat} (hn : ∀ d v, R d v → v.cells.toList.length = n) : ∀ (xs : List RO) (cs : List Value) (i : Nat) (hi : i < xs.length), ChainR R xs cs →
  ∃ v pre post, cs = pre ++ v.cells.toList ++ post ∧ pre.length = n * i ∧ R xs[i] v
 | x :: r, cs, 0, hi, h => by
  obtain ⟨v, c, h1, h2, h3⟩ := h
  exact ⟨v, [], c, by simpa using h2, by simp, h1⟩
 | x :: r, cs, i + 1, hi, h => by
  obtain ⟨v, c, h1, rfl, h3⟩ := h
  obtain ⟨u, pre, post, q1, q2, q3⟩ := chain_at_ hn r c i (by simpa using hi) h3
  refine ⟨u, v.cells.toList ++ pre, post, by rw [q1]; simp [List.append_assoc], ?_, q3⟩
  rw [List.length_append, hn x v h1, q2, Nat.mul_add]; omega

theorem readEl_sound {dm : Nat → Prop} {ρ : Nat → Pl} {key : Nat} (hk : dm key) {w : World} {Out : Nat → Prop} (hr : (ρ key).rel = RoD w Out) {sh : Sh} {d : RO} {x : Int} {j : Nat} {t : Ty} {y : SV} {b o n cap : Nat}
  (h : readEl key sh d x j t = some y) (hd : RoD w Out sh d (.slice (some ⟨b, o, none⟩) n cap)) (h0 : 0 ≤ x) (hx : x < (roLen sh d : Int)) : Out b ∧ ∃ cs, w.rangeAt b o cs ∧ ReadOk dm ρ y t cs (shEl sh * x.toNat + j) := by
 have hxn : x.toNat < roLen sh d := by omega
 unfold readEl at h
 split at h
 ·rename_i k k'
  split at h
  ·rename_i hb
   simp only [Bool.and_eq_true] at hb
   have hkk := keq_eq hb.1
   have hj0 := Nat.eq_of_beq_eq_true hb.2
   subst hkk hj0
   simp only [Option.some.injEq] at h; subst h
   simp only [RoD] at hd
   obtain ⟨a, cap', h1, h2, h3, h4, h5⟩ := hd
   simp only [Value.slice.injEq] at h1
   obtain ⟨rfl, rfl, rfl⟩ := h1
   simp only [roLen] at hxn
   rcases h5 with ⟨b', o', q1, q2, q3⟩ | ⟨h5, _⟩
   ·simp only [Option.some.injEq, Addr.mk.injEq] at q1
    obtain ⟨rfl, rfl, _⟩ := q1
    refine ⟨q2, _, q3, ?_⟩
    have hzz : (roL d).getD x.toNat 0 = (roL d)[x.toNat] := by simp [List.getD, hxn]
    refine ⟨.int k ((roL d).getD x.toNat 0), ⟨rfl, by rw [hzz]; exact h4.at hxn⟩, ?_, by simp [Ty.size, shEl]; omega, (fun hr' => by cases hr'), fun _ => rfl⟩
    show [Value.int k _] = (((roL d).map (Value.int k)).drop (1 * x.toNat + 0)).take 1
    rw [Nat.one_mul, Nat.add_zero, drop_take_one (by simpa using hxn)]
    simp only [List.getElem_map, hzz]
   ·omega
  ·cases h
 ·rename_i e
  simp only [RoD] at hd
  obtain ⟨a, cap', cs, h1, h2, h3, h4, h5⟩ := hd
  simp only [Value.slice.injEq] at h1
  obtain ⟨rfl, rfl, rfl⟩ := h1
  simp only [roLen] at hxn
  rcases h5 with ⟨b', o', q1, q2, q3⟩ | ⟨h5, _⟩
  ·simp only [Option.some.injEq, Addr.mk.injEq] at q1
   obtain ⟨rfl, rfl, _⟩ := q1
   refine ⟨q2, cs, q3, ?_⟩
   obtain ⟨v, pre, post, e1, e2, e3⟩ := chain_at_ (fun d v h => RoD_cells e d v h) _ cs x.toNat hxn h4
   have hg : roN d x.toNat = (roX d)[x.toNat] := by simp [roN, List.getD, hxn]
   rw [← hg] at e3
   have := (readSh_sound hk hr e _ j t y v h e3).mid (pre := pre) (post := post)
   rw [← e1, e2] at this
   exact this
  ·omega
 ·cases h

end Go.Gx

/- Writing pieces; places that are reckoned. -/
namespace Go.Gx
open Go.RowKit
set_option linter.unusedVariables false

theorem map_over {α β : Type} (f : α → β) (l ys : List α) (c : Nat) : (over l c ys).map f = over (l.map f) c (ys.map f) := by
 unfold over; simp [List.map_take, List.map_drop]

theorem over_self {α : Type} (l ys : List α) (h : ys.length = l.length) : over l 0 ys = ys := by
 unfold over; simp [h]

theorem putSeg_sound {dm : Nat → Prop} {ρ : Nat → Pl} {g g' x : Seg} {j : Nat} {p : List Prop} {cs ys : List Value} (h : putSeg g j x = some (p, g')) (hp : AllP p)
  (hg : SegD dm ρ g cs) (hx : SegD dm ρ x ys) (hj : ∀ n, segLen g = some n → j < n) : SegD dm ρ g' (over cs j ys) ∧ j + ys.length ≤ cs.length ∧ ys.length = segSize x := by
 cases x with
 | one v =>
  obtain ⟨hv1, u, hv2, hv3⟩ := hx
  have hyl : ys.length = 1 := by rw [hv3]; rfl
  cases g with
  | rowH key hs => cases v <;> simp [putSeg] at h
  | rowP key n => cases v <;> simp [putSeg] at h
  | rowD key sh ds => cases v <;> simp [putSeg] at h
  | one y =>
   simp only [putSeg, Option.some.injEq, Prod.mk.injEq] at h
   obtain ⟨_, rfl⟩ := h
   obtain ⟨_, v0, _, h3⟩ := hg
   have hj0 : j = 0 := by have := hj 1 rfl; omega
   subst hj0
   refine ⟨⟨hv1, u, hv2, ?_⟩, by rw [h3, hyl]; simp, hyl⟩
   rw [over_self _ _ (by rw [h3, hyl]; rfl), hv3]
  | arr k n ex l =>
   obtain ⟨h1, h2, h3⟩ := hg
   have hjl : j < l.length := by rw [h1]; exact hj n rfl
   cases v with
   | i k' a =>
    simp only [putSeg] at h
    split at h
    ·rename_i l' hk hs
     simp only [Option.some.injEq, Prod.mk.injEq] at h
     obtain ⟨_, rfl⟩ := h
     have hkk := keq_eq hk; subst hkk
     have hl := setI_some hs
     simp only [D] at hv2
     obtain ⟨hu, hr⟩ := hv2
     refine ⟨⟨by rw [hl]; simpa using h1, by rw [hl]; exact h2.set hr, ?_⟩, by rw [h3, hyl]; simp; omega, hyl⟩
     rw [hl, set_over _ _ _ hjl, map_over, h3, hv3, hu]; rfl
    ·cases h
   | _ => simp [putSeg] at h
  | rowI k l =>
   obtain ⟨h2, h3⟩ := hg
   cases v with
   | i k' a =>
    simp only [putSeg] at h
    split at h
    ·rename_i hk
     simp only [Option.some.injEq, Prod.mk.injEq] at h
     obtain ⟨rfl, rfl⟩ := h
     have hkk := keq_eq hk; subst hkk
     have hjl : j < l.length := hp.1
     simp only [D] at hv2
     obtain ⟨hu, hr⟩ := hv2
     refine ⟨⟨h2.set hr, ?_⟩, by rw [h3, hyl]; simp; omega, hyl⟩
     rw [set_over _ _ _ hjl, map_over, h3, hv3, hu]; rfl
    ·cases h
   | _ => simp [putSeg] at h
  | rowA k n l =>
   obtain ⟨h2, h3⟩ := hg
   have hfl := flatten_len h2
   cases v with
   | i k' a =>
    simp only [putSeg] at h
    split at h
    ·rename_i hb
     simp only [Bool.and_eq_true] at hb
     have hkk := keq_eq hb.1; subst hkk
     have hn : 0 < n := by have := hb.2; simp [Nat.blt] at this; omega
     simp only [Option.some.injEq, Prod.mk.injEq] at h
     obtain ⟨rfl, rfl⟩ := h
     have hi : j / n < l.length := hp.1
     have hm : j % n < n := Nat.mod_lt _ hn
     have hel := h2 _ (List.getElem_mem hi)
     have hdm := Nat.div_add_mod j n
     have hget : l.getD (j / n) [] = l[j / n] := by simp [List.getD, hi]
     simp only [D] at hv2
     obtain ⟨hu, hr⟩ := hv2
     have hjf : j + 1 ≤ l.flatten.length := by
      rw [hfl]
      have := Nat.mul_le_mul_left n (show j / n + 1 ≤ l.length from hi)
      rw [Nat.mul_add] at this; omega
     refine ⟨⟨AllA.set h2 (by rw [hget]; simpa using hel.1) (by rw [hget]; exact hel.2.set hr), ?_⟩, by rw [h3, hyl, List.length_map]; omega, hyl⟩
     have hlen2 : (l[j / n].set (j % n) a.z).length = n := by simpa using hel.1
     rw [hget, flatten_set h2 hi hlen2, h3, hv3, hu]
     rw [show [Value.int k a.z] = [a.z].map (Value.int k) from rfl, ← map_over]
     congr 1
     -- one number in the middle of its array
     have hat := flatten_at h2 hi
     have hnl : n * (j / n) + n ≤ l.flatten.length := by
      rw [hfl]
      have := Nat.mul_le_mul_left n (show j / n + 1 ≤ l.length from hi)
      rwa [Nat.mul_add, Nat.mul_one] at this
     have hsplit : l.flatten = l.flatten.take (n * (j / n)) ++ l[j / n] ++ l.flatten.drop (n * (j / n) + n) := by
      rw [← hat, List.append_assoc, ← List.drop_drop, List.take_append_drop, List.take_append_drop]
     have hpl : (l.flatten.take (n * (j / n))).length = n * (j / n) := by simp only [List.length_take]; omega
     have h5 := over_mid (l.flatten.take (n * (j / n))) l[j / n] (l.flatten.drop (n * (j / n) + n)) [a.z] (j % n) (by rw [hel.1]; simp; omega)
     rw [← hsplit, hpl, hdm] at h5
     rw [h5, set_over _ _ _ (by rw [hel.1]; exact hm)]
     unfold over
     have h6 : ((l[j / n]).take (j % n) ++ [a.z] ++ (l[j / n]).drop (j % n + [a.z].length)).length = n := by
      have := over_length (vs := l[j / n]) (ys := [a.z]) (c := j % n) (by rw [hel.1]; simp; omega)
      unfold over at this; rw [this]; exact hel.1
     rw [h6]
    ·cases h
   | _ => simp [putSeg] at h
 | arr k' m ex' y =>
  obtain ⟨hy1, hy2, hy3⟩ := hx
  have hyl : ys.length = m := by rw [hy3]; simpa using hy1
  cases g with
  | one v => simp [putSeg] at h
  | arr k n ex l =>
   obtain ⟨h1, h2, h3⟩ := hg
   simp only [putSeg] at h
   split at h
   ·rename_i hb
    simp only [Bool.and_eq_true] at hb
    obtain ⟨⟨b1, b2⟩, b3⟩ := hb
    have e1 := keq_eq b1
    have e2 := Nat.eq_of_beq_eq_true b2
    have e3 := Nat.eq_of_beq_eq_true b3
    simp only [Option.some.injEq, Prod.mk.injEq] at h
    obtain ⟨_, rfl⟩ := h
    subst e1 e2 e3
    have hcl : cs.length = n := by rw [h3]; simpa using h1
    exact ⟨⟨hy1, hy2, by rw [over_self _ _ (by omega), hy3]⟩, by omega, hyl⟩
   ·cases h
  | rowI k l => simp [putSeg] at h
  | rowH key hs => simp [putSeg] at h
  | rowP key n => simp [putSeg] at h
  | rowD key sh ds => simp [putSeg] at h
  | rowA k n l =>
   obtain ⟨h2, h3⟩ := hg
   have hfl := flatten_len h2
   simp only [putSeg] at h
   split at h
   ·rename_i hb
    simp only [Bool.and_eq_true] at hb
    obtain ⟨⟨b1, b2⟩, b3⟩ := hb
    have e1 := keq_eq b1
    have e2 := Nat.eq_of_beq_eq_true b2
    have e3 := Nat.eq_of_beq_eq_true b3
    simp only [Option.some.injEq, Prod.mk.injEq] at h
    obtain ⟨rfl, rfl⟩ := h
    subst e1 e2
    have hi : j / n < l.length := hp.1
    have hdm := Nat.div_add_mod j n
    rw [e3, Nat.add_zero] at hdm
    have hjf : j + n ≤ l.flatten.length := by
     rw [hfl]
     have := Nat.mul_le_mul_left n (show j / n + 1 ≤ l.length from hi)
     rw [Nat.mul_add] at this; omega
    refine ⟨⟨AllA.set h2 hy1 hy2, ?_⟩, by rw [h3, List.length_map, hyl]; exact hjf, hyl⟩
    rw [flatten_set h2 hi hy1, hdm, map_over, h3, hy3]
   ·cases h
 | rowI k l => cases g <;> simp [putSeg] at h
 | rowA k n l => cases g <;> simp [putSeg] at h
 | rowH key hs => cases g <;> simp [putSeg] at h
 | rowP key n => cases g <;> simp [putSeg] at h
 | rowD key sh ds => cases g <;> simp [putSeg] at h

theorem writeSegs_sound {dm : Nat → Prop} {ρ : Nat → Pl} : ∀ (xs : List Seg) (l l' : List Seg) (c : Nat) (p : List Prop) (vs ys : List Value), writeSegs l c xs = some (p, l') → AllP p →
  SegsD dm ρ l vs → SegsD dm ρ xs ys → SegsD dm ρ l' (over vs c ys) ∧ (c + ys.length ≤ vs.length ∨ xs = [])
 | [], l, l', c, p, vs, ys, h, hp, hl, hx => by
  simp only [writeSegs, Option.some.injEq, Prod.mk.injEq] at h
  obtain ⟨_, rfl⟩ := h
  rw [show ys = [] from hx, over_nil]
  exact ⟨hl, .inr rfl⟩
 | x :: r, l, l', c, p, vs, ys, h, hp, hl, hx => by
  obtain ⟨y1, y2, hx1, rfl, hx2⟩ := hx
  simp only [writeSegs] at h
  split at h
  ·rename_i g j hs
   split at h
   ·rename_i p1 g' hput
    split at h
    ·rename_i l1 hset
     split at h
     ·rename_i q l2 hrec
      simp only [Option.some.injEq, Prod.mk.injEq] at h
      obtain ⟨rfl, rfl⟩ := h
      obtain ⟨hp1, hp2⟩ := AllP.append hp
      obtain ⟨pre, cs, post, e1, e2, e3, e4, e5⟩ := segAt_D l c vs g j hl hs
      obtain ⟨a1, a2, a3⟩ := putSeg_sound hput hp1 e2 hx1 e4
      have hb : c + y1.length ≤ vs.length := by rw [e1]; simp; omega
      have h1 : SegsD dm ρ l1 (over vs c y1) := by
       rw [e1, ← e3, over_mid _ _ _ _ _ a2]
       exact e5 g' _ l1 hset a1
      obtain ⟨b1, b2⟩ := writeSegs_sound r l1 l2 (c + segSize x) q (over vs c y1) y2 hrec hp2 h1 hx2
      rw [← a3, over_over _ _ _ _ hb] at b1
      refine ⟨b1, .inl ?_⟩
      rcases b2 with b2 | rfl
      ·rw [over_length hb, ← a3] at b2; simp; omega
      ·rw [show y2 = [] from hx2]; simpa using hb
     ·cases h
    ·cases h
   ·cases h
  ·cases h

/-! ### Places that are reckoned -/

theorem toNat_lt {x : Int} {n : Nat} (h : 0 ≤ x ∧ x < (n : Int)) : x.toNat < n := by omega

theorem readDyn_sound {dm : Nat → Prop} {ρ : Nat → Pl} {g : Seg} {x : Int} {j est : Nat} {t : Ty} {p : List Prop} {v : SV} {cs : List Value} (h : readDyn g x j est t = some (p, v)) (hp : AllP p)
  (hg : SegD dm ρ g cs) : ReadOk dm ρ v t cs (est * x.toNat + j) := by
 have one : ∀ (k : IntKind) (l : List Int), AllR k l → cs = l.map (Value.int k) → x.toNat < l.length → ReadOk dm ρ (.i k ⟨false, l.getD x.toNat 0⟩) (.int k) cs (1 * x.toNat + 0) := fun k l h2 h3 hx => by
  have hzz : l.getD x.toNat 0 = l[x.toNat] := by simp [List.getD, hx]
  have hjc : x.toNat < cs.length := by rw [h3]; simpa using hx
  refine ⟨.int k (l.getD x.toNat 0), ⟨rfl, by rw [hzz]; exact h2.at hx⟩, ?_, by simp [Ty.size]; omega, (fun hr' => by cases hr'), fun _ => rfl⟩
  show [Value.int k _] = (cs.drop (1 * x.toNat + 0)).take 1
  rw [Nat.one_mul, Nat.add_zero, drop_take_one hjc]
  simp only [h3, List.getElem_map, hzz]
 cases g with
 | one y => simp [readDyn] at h
 | rowH key hs =>
  cases t with
  | slice =>
   simp only [readDyn] at h
   split at h
   ·rename_i hb
    simp only [Bool.and_eq_true] at hb
    have e2 := Nat.eq_of_beq_eq_true hb.1
    have e3 := Nat.eq_of_beq_eq_true hb.2
    simp only [Option.some.injEq, Prod.mk.injEq] at h
    obtain ⟨rfl, rfl⟩ := h
    subst e2 e3
    have hjn : x.toNat < hs.length := toNat_lt hp.1
    obtain ⟨v, q1, q2⟩ := hg.2.at_ x.toNat hjn
    have hjc : x.toNat < cs.length := by rw [hg.2.len]; exact hjn
    have hv : cs[x.toNat] = v := by rw [List.getElem?_eq_getElem hjc] at q1; simpa using q1
    have hc := (single_cell rfl q2).2
    refine ⟨v, q2, ?_, by simp [Ty.size]; omega, (fun hr' => by cases hr'), fun _ => hc⟩
    show v.cells.toList = (cs.drop (1 * x.toNat + 0)).take 1
    rw [Nat.one_mul, Nat.add_zero, drop_take_one hjc, hc, hv]
   ·cases h
  | arr n e => cases e <;> simp [readDyn] at h
  | _ => simp [readDyn] at h
 | rowP key n =>
  cases t with
  | ptr =>
   simp only [readDyn] at h
   split at h
   ·rename_i hb
    simp only [Bool.and_eq_true] at hb
    have e2 := Nat.eq_of_beq_eq_true hb.1
    have e3 := Nat.eq_of_beq_eq_true hb.2
    simp only [Option.some.injEq, Prod.mk.injEq] at h
    obtain ⟨rfl, rfl⟩ := h
    subst e2 e3
    have hjn : x.toNat < n := toNat_lt hp.1
    obtain ⟨h1, h2, rfl⟩ := hg
    have hjc : x.toNat < (ptrsV (ρ key) n).length := by rw [ptrsV_len]; exact hjn
    have hv : (ptrsV (ρ key) n)[x.toNat] = .pointer (some ⟨(ρ key).pb x.toNat, (ρ key).po x.toNat, none⟩) := by
     have := ptrsV_at (p := ρ key) hjn
     rw [List.getElem?_eq_getElem hjc] at this; simpa using this
    refine ⟨.pointer (some ⟨(ρ key).pb x.toNat, (ρ key).po x.toNat, none⟩), ⟨h1, by omega, by decide, rfl⟩, ?_, by rw [ptrsV_len]; simp [Ty.size]; omega, (fun hr' => by cases hr'), fun _ => rfl⟩
    show [_] = (List.drop (1 * x.toNat + 0) _).take 1
    rw [Nat.one_mul, Nat.add_zero, drop_take_one hjc, hv]
   ·cases h
  | arr n e => cases e <;> simp [readDyn] at h
  | _ => simp [readDyn] at h
 | rowD key sh ds =>
  obtain ⟨h1, ⟨w', Out, h2⟩, h3, h4, h5, h6⟩ := hg
  simp only [readDyn] at h
  split at h
  ·rename_i y hb hy
   simp only [Bool.and_eq_true] at hb
   have e2 := Nat.eq_of_beq_eq_true hb.1
   simp only [Option.some.injEq, Prod.mk.injEq] at h
   obtain ⟨rfl, rfl⟩ := h
   subst e2
   have hx := toNat_lt hp.1
   rw [h2] at h3
   obtain ⟨u, pre, post, q1, q2, q3⟩ := chain_at_ (fun d v h => RoD_cells sh d v h) _ cs x.toNat hx h3
   have hg : ds.getD x.toNat (.r []) = ds[x.toNat] := by simp [List.getD, hx]
   rw [hg] at hy
   have := (readSh_sound h1 h2 sh _ j t y u hy q3).mid (pre := pre) (post := post)
   rw [← q1, q2] at this
   exact this
  ·cases h
 | arr k n ex l =>
  obtain ⟨h1, h2, h3⟩ := hg
  cases t with
  | int k' =>
   simp only [readDyn] at h
   split at h
   ·rename_i hb
    simp only [Bool.and_eq_true] at hb
    obtain ⟨⟨b1, b2⟩, b3⟩ := hb
    have e1 := keq_eq b1
    have e2 := Nat.eq_of_beq_eq_true b2
    have e3 := Nat.eq_of_beq_eq_true b3
    simp only [Option.some.injEq, Prod.mk.injEq] at h
    obtain ⟨rfl, rfl⟩ := h
    subst e1 e2 e3
    exact one k l h2 h3 (by rw [h1]; exact toNat_lt hp.1)
   ·cases h
  | _ => simp [readDyn] at h
 | rowI k l =>
  obtain ⟨h2, h3⟩ := hg
  cases t with
  | int k' =>
   simp only [readDyn] at h
   split at h
   ·rename_i hb
    simp only [Bool.and_eq_true] at hb
    obtain ⟨⟨b1, b2⟩, b3⟩ := hb
    have e1 := keq_eq b1
    have e2 := Nat.eq_of_beq_eq_true b2
    have e3 := Nat.eq_of_beq_eq_true b3
    simp only [Option.some.injEq, Prod.mk.injEq] at h
    obtain ⟨rfl, rfl⟩ := h
    subst e1 e2 e3
    exact one k l h2 h3 (toNat_lt hp.1)
   ·cases h
  | _ => simp [readDyn] at h
 | rowA k n l =>
  obtain ⟨h2, h3⟩ := hg
  have hfl := flatten_len h2
  cases t with
  | int k' =>
   simp only [readDyn] at h
   split at h
   ·rename_i hb
    simp only [Bool.and_eq_true] at hb
    obtain ⟨⟨b1, b2⟩, b3⟩ := hb
    have e1 := keq_eq b1
    have e2 := Nat.eq_of_beq_eq_true b2
    have hjn : j < n := by simp [Nat.blt] at b3; omega
    simp only [Option.some.injEq, Prod.mk.injEq] at h
    obtain ⟨rfl, rfl⟩ := h
    subst e1 e2
    have hi : x.toNat < l.length := toNat_lt hp.1
    have hel := h2 _ (List.getElem_mem hi)
    have hat := flatten_at h2 hi
    have hget : l.getD x.toNat [] = l[x.toNat] := by simp [List.getD, hi]
    have hjf : n * x.toNat + j < l.flatten.length := by
     rw [hfl]
     have := Nat.mul_le_mul_left n (show x.toNat + 1 ≤ l.length from hi)
     rw [Nat.mul_add] at this; omega
    have hjc : n * x.toNat + j < cs.length := by rw [h3, List.length_map]; exact hjf
    have hz : l.flatten[n * x.toNat + j] = (l[x.toNat])[j]'(by omega) := by
     have e1 : l.flatten[n * x.toNat + j]? = ((l.flatten.drop (n * x.toNat)).take n)[j]? := by
      rw [List.getElem?_take, if_pos hjn, List.getElem?_drop]
     rw [hat, List.getElem?_eq_getElem hjf, List.getElem?_eq_getElem (by omega)] at e1
     simpa using e1
    have hzz : (l.getD x.toNat []).getD j 0 = l.flatten[n * x.toNat + j] := by
     rw [hz, hget]; simp [List.getD, hel.1, hjn]
    refine ⟨.int k ((l.getD x.toNat []).getD j 0), ⟨rfl, ?_⟩, ?_, by simp [Ty.size]; omega, (fun hr' => by cases hr'), fun _ => rfl⟩
    ·rw [hzz, hz]; exact hel.2.at (by omega)
    ·show [Value.int k _] = (cs.drop (n * x.toNat + j)).take 1
     rw [drop_take_one hjc]
     simp only [h3, List.getElem_map, hzz]
   ·cases h
  | arr m e =>
   cases e with
   | int k' =>
    simp only [readDyn] at h
    split at h
    ·rename_i hb
     simp only [Bool.and_eq_true] at hb
     obtain ⟨⟨⟨b1, b2⟩, b3⟩, b4⟩ := hb
     have e1 := keq_eq b1
     have e2 := Nat.eq_of_beq_eq_true b2
     have e3 := Nat.eq_of_beq_eq_true b3
     have e4 := Nat.eq_of_beq_eq_true b4
     simp only [Option.some.injEq, Prod.mk.injEq] at h
     obtain ⟨rfl, rfl⟩ := h
     subst e1 e2 e3 e4
     have hi : x.toNat < l.length := toNat_lt hp.1
     have hel := h2 _ (List.getElem_mem hi)
     have hat := flatten_at h2 hi
     have hget : l.getD x.toNat [] = l[x.toNat] := by simp [List.getD, hi]
     have hall : getAll (l.getD x.toNat []) n 0 = l[x.toNat] := by
      rw [hget, getAll_eq n 0 _ (by omega), List.drop_zero, List.take_of_length_le (by omega)]
     have hjf : n * x.toNat + n ≤ l.flatten.length := by
      rw [hfl]
      have := Nat.mul_le_mul_left n (show x.toNat + 1 ≤ l.length from hi)
      rw [Nat.mul_add] at this; omega
     have hjc : n * x.toNat + n ≤ cs.length := by rw [h3, List.length_map]; exact hjf
     refine ⟨.agg ((l[x.toNat]).map (Value.int k)).toArray, ?_, ?_, by simp [Ty.size]; omega, (fun _ => ⟨_, rfl⟩), (fun hr' => by cases hr')⟩
     ·rw [hall]; exact ⟨hel.1, hel.2, rfl⟩
     ·simp only [Value.cells, Ty.size, Nat.mul_one, Nat.add_zero]
      rw [h3, ← List.map_drop, ← List.map_take, hat]
    ·cases h
   | _ => simp [readDyn] at h
  | _ => simp [readDyn] at h

end Go.Gx

/- The model's load, store and new variable; what an operation comes to. -/
namespace Go.Gx
open Go.RowKit
set_option linter.unusedVariables false

section
variable {ρ : Nat → Pl}
/-! ### Cells as data -/

theorem datW_ok {dm : Nat → Prop} {F : Nat} {sh : Sh} {x : SV} {d : RO} {v : Value} {wF : World} {Out : Nat → Prop} (hF : (ρ F).rel = RoD wF Out) (h : datW F sh x = some d) (hx : D dm ρ x v) :
  RoD wF Out sh d v ∧ v.oneCell' = true ∧ v.cells = #[v] := by
 unfold datW at h
 split at h
 ·split at h
  ·rename_i hk
   simp only [Option.some.injEq] at h; subst h
   simp only [D] at hx
   rw [keq_eq hk]
   obtain ⟨rfl, hr⟩ := hx
   exact ⟨by simp only [RoD]; exact ⟨rfl, hr⟩, rfl, rfl⟩
  ·cases h
 ·simp only [Option.some.injEq] at h; subst h
  simp only [D] at hx
  subst hx
  exact ⟨by simp only [RoD]; rfl, rfl, rfl⟩
 ·simp only [Option.some.injEq] at h; subst h
  simp only [D] at hx
  obtain ⟨rfl, hr⟩ := hx
  exact ⟨by simp only [RoD]; exact ⟨rfl, hr⟩, rfl, rfl⟩
 ·simp only [Option.some.injEq] at h; subst h
  simp only [D] at hx
  subst hx
  exact ⟨by simp only [RoD]; exact ⟨none, 0, rfl, by simp [roL], by simp [roL], (fun z hz => by simp [roL] at hz), .inr ⟨by simp [roL], rfl⟩⟩, rfl, rfl⟩
 ·simp only [Option.some.injEq] at h; subst h
  simp only [D] at hx
  subst hx
  exact ⟨by simp only [RoD]; exact ⟨none, 0, [], rfl, by simp [roX], by simp [roX], rfl, .inr ⟨by simp [roX], rfl⟩⟩, rfl, rfl⟩
 ·split at h
  ·rename_i hb
   simp only [Bool.and_eq_true] at hb
   have e1 := Nat.eq_of_beq_eq_true hb.1
   have e2 := shEq_eq _ _ hb.2
   simp only [Option.some.injEq] at h; subst h
   subst e1 e2
   have hs := single_cell rfl hx
   simp only [D] at hx
   rw [hF] at hx
   exact ⟨hx.2.1, hs⟩
  ·cases h
 ·cases h

theorem datWs_ok {dm : Nat → Prop} {F : Nat} {wF : World} {Out : Nat → Prop} (hF : (ρ F).rel = RoD wF Out) (xs : List RO) : ∀ (fs : List Sh) (l : List Seg) (ds : List RO) (i : Nat) (cs : List Value), datWs F fs l = some ds → xs.drop i = ds → SegsD dm ρ l cs →
  RoCs wF Out fs (.r xs) i cs ∧ (∀ v ∈ cs, v.oneCell' = true) ∧ cs.length = shSizes fs
 | [], [], ds, i, cs, h, hd, hc => by
  rw [show cs = [] from hc]
  exact ⟨by simp only [RoCs], (fun v hv => by cases hv), rfl⟩
 | sh :: r, .one x :: t, ds, i, cs, h, hd, hc => by
  simp only [datWs] at h
  split at h
  ·rename_i d ds' h1 h2
   simp only [Option.some.injEq] at h; subst h
   obtain ⟨c1, c2, ⟨_, v, hv, rfl⟩, rfl, h3⟩ := hc
   obtain ⟨q1, q2, q3⟩ := datW_ok hF h1 hv
   have hdr : xs.drop (i + 1) = ds' := by rw [← List.drop_drop, hd]; rfl
   have hx : roN (.r xs) i = d := by
    have : xs[i]? = some d := by
     have := congrArg (fun l => l[0]?) hd
     simpa using this
    simp [roN, roX, List.getD, this]
   obtain ⟨b1, b2, b3⟩ := datWs_ok hF xs r t ds' (i + 1) c2 h2 hdr h3
   refine ⟨?_, fun u hu => ?_, ?_⟩
   ·simp only [RoCs]
    exact ⟨v, c2, by rw [hx]; exact q1, by rw [q3], b1⟩
   ·rcases List.mem_append.1 hu with hu | hu
    ·simp only [List.mem_singleton] at hu; subst hu; exact q2
    ·exact b2 u hu
   ·have := RoD_cells sh d v q1
    rw [q3] at this
    simp only [List.length_append, List.length_singleton, shSizes]
    simp at this
    omega
  ·cases h
 | [], _ :: _, ds, i, cs, h, hd, hc => by simp [datWs] at h
 | sh :: r, [], ds, i, cs, h, hd, hc => by simp [datWs] at h
 | sh :: r, .arr .. :: t, ds, i, cs, h, hd, hc => by simp [datWs] at h
 | sh :: r, .rowI .. :: t, ds, i, cs, h, hd, hc => by simp [datWs] at h
 | sh :: r, .rowA .. :: t, ds, i, cs, h, hd, hc => by simp [datWs] at h
 | sh :: r, .rowH .. :: t, ds, i, cs, h, hd, hc => by simp [datWs] at h
 | sh :: r, .rowP .. :: t, ds, i, cs, h, hd, hc => by simp [datWs] at h
 | sh :: r, .rowD .. :: t, ds, i, cs, h, hd, hc => by simp [datWs] at h
end

theorem ChainR.put {R : RO → Value → Prop} {n : Nat} (hn : ∀ d v, R d v → v.cells.toList.length = n) {d' : RO} {v' : Value} (h' : R d' v') : ∀ (xs : List RO) (cs : List Value) (i : Nat), i < xs.length → ChainR R xs cs →
  ChainR R (xs.set i d') (over cs (n * i) v'.cells.toList) ∧ n * i + n ≤ cs.length
 | x :: r, cs, 0, hi, h => by
  obtain ⟨v, c, h1, rfl, h3⟩ := h
  have e1 := hn x v h1
  have e2 := hn d' v' h'
  refine ⟨⟨v', c, h', ?_, h3⟩, by simp only [List.length_append, e1]; omega⟩
  unfold over
  rw [Nat.mul_zero, List.take_zero, List.nil_append, Nat.zero_add, e2, ← e1, List.drop_left]
 | x :: r, cs, i + 1, hi, h => by
  obtain ⟨v, c, h1, rfl, h3⟩ := h
  have e1 := hn x v h1
  obtain ⟨q1, q2⟩ := ChainR.put hn h' r c i (by simpa using hi) h3
  refine ⟨⟨v, _, h1, ?_, q1⟩, by simp only [List.length_append, e1, Nat.mul_add]; omega⟩
  have := over_mid v.cells.toList c [] v'.cells.toList (n * i) (by rw [hn d' v' h']; exact q2)
  rw [List.append_nil, List.append_nil, e1] at this
  rw [Nat.mul_add, Nat.mul_one, Nat.add_comm (n * i) n]; exact this

theorem writeDyn_sound {dm : Nat → Prop} {ρ : Nat → Pl} {g g' : Seg} {x : Int} {j est : Nat} {p : List Prop} {v : SV} {u : Value} {cs : List Value} (h : writeDyn g x j est v = some (p, g')) (hp : AllP p)
  (hg : SegD dm ρ g cs) (hv : D dm ρ v u) : SegD dm ρ g' (over cs (est * x.toNat + j) u.cells.toList) ∧ est * x.toNat + j + u.cells.size ≤ cs.length := by
 cases v with
 | i k' a =>
  simp only [D] at hv
  obtain ⟨hu, hr⟩ := hv
  have huc : u.cells = #[u] := by rw [hu]; rfl
  cases g with
  | one y => simp [writeDyn] at h
  | rowH key hs => simp [writeDyn] at h
  | rowP key n => simp [writeDyn] at h
  | rowD key sh ds => simp [writeDyn] at h
  | arr k n ex l =>
   obtain ⟨h1, h2, h3⟩ := hg
   simp only [writeDyn] at h
   split at h
   ·rename_i hb
    simp only [Bool.and_eq_true] at hb
    obtain ⟨⟨b1, b2⟩, b3⟩ := hb
    have e1 := keq_eq b1
    have e2 := Nat.eq_of_beq_eq_true b2
    have e3 := Nat.eq_of_beq_eq_true b3
    simp only [Option.some.injEq, Prod.mk.injEq] at h
    obtain ⟨rfl, rfl⟩ := h
    subst e1 e2 e3
    have hx : x.toNat < l.length := by rw [h1]; exact toNat_lt hp.1
    refine ⟨⟨by simpa using h1, h2.set hr, ?_⟩, by rw [huc, h3]; simp; omega⟩
    rw [huc, Nat.one_mul, Nat.add_zero, set_over _ _ _ hx, map_over, h3, hu]; rfl
   ·cases h
  | rowI k l =>
   obtain ⟨h2, h3⟩ := hg
   simp only [writeDyn] at h
   split at h
   ·rename_i hb
    simp only [Bool.and_eq_true] at hb
    obtain ⟨⟨b1, b2⟩, b3⟩ := hb
    have e1 := keq_eq b1
    have e2 := Nat.eq_of_beq_eq_true b2
    have e3 := Nat.eq_of_beq_eq_true b3
    simp only [Option.some.injEq, Prod.mk.injEq] at h
    obtain ⟨rfl, rfl⟩ := h
    subst e1 e2 e3
    have hx : x.toNat < l.length := toNat_lt hp.1
    refine ⟨⟨h2.set hr, ?_⟩, by rw [huc, h3]; simp; omega⟩
    rw [huc, Nat.one_mul, Nat.add_zero, set_over _ _ _ hx, map_over, h3, hu]; rfl
   ·cases h
  | rowA k n l =>
   obtain ⟨h2, h3⟩ := hg
   have hfl := flatten_len h2
   simp only [writeDyn] at h
   split at h
   ·rename_i hb
    simp only [Bool.and_eq_true] at hb
    obtain ⟨⟨b1, b2⟩, b3⟩ := hb
    have e1 := keq_eq b1
    have e2 := Nat.eq_of_beq_eq_true b2
    have hjn : j < n := by simp [Nat.blt] at b3; omega
    simp only [Option.some.injEq, Prod.mk.injEq] at h
    obtain ⟨rfl, rfl⟩ := h
    subst e1 e2
    have hi : x.toNat < l.length := toNat_lt hp.1
    have hel := h2 _ (List.getElem_mem hi)
    have hget : l.getD x.toNat [] = l[x.toNat] := by simp [List.getD, hi]
    have hnl : n * x.toNat + n ≤ l.flatten.length := by
     rw [hfl]
     have := Nat.mul_le_mul_left n (show x.toNat + 1 ≤ l.length from hi)
     rwa [Nat.mul_add, Nat.mul_one] at this
    refine ⟨⟨AllA.set h2 (by rw [hget]; simpa using hel.1) (by rw [hget]; exact hel.2.set hr), ?_⟩, by rw [huc, h3, List.length_map]; show n * x.toNat + j + 1 ≤ _; omega⟩
    have hlen2 : (l[x.toNat].set j a.z).length = n := by simpa using hel.1
    rw [hget, flatten_set h2 hi hlen2, huc, h3, hu]
    rw [show (#[Value.int k a.z] : Array Value).toList = [a.z].map (Value.int k) from rfl, ← map_over]
    congr 1
    have hat := flatten_at h2 hi
    have hsplit : l.flatten = l.flatten.take (n * x.toNat) ++ l[x.toNat] ++ l.flatten.drop (n * x.toNat + n) := by
     rw [← hat, List.append_assoc, ← List.drop_drop, List.take_append_drop, List.take_append_drop]
    have hpl : (l.flatten.take (n * x.toNat)).length = n * x.toNat := by simp only [List.length_take]; omega
    have h5 := over_mid (l.flatten.take (n * x.toNat)) l[x.toNat] (l.flatten.drop (n * x.toNat + n)) [a.z] j (by rw [hel.1]; simp; omega)
    rw [← hsplit, hpl] at h5
    rw [h5, set_over _ _ _ (by rw [hel.1]; exact hjn)]
    unfold over
    have h6 : ((l[x.toNat]).take j ++ [a.z] ++ (l[x.toNat]).drop (j + [a.z].length)).length = n := by
     have := over_length (vs := l[x.toNat]) (ys := [a.z]) (c := j) (by rw [hel.1]; simp; omega)
     unfold over at this; rw [this]; exact hel.1
    rw [h6]
   ·cases h
 | arr k' m ex y =>
  simp only [D] at hv
  obtain ⟨hy1, hy2, hu⟩ := hv
  have huc : u.cells.toList = y.map (Value.int k') := by rw [hu]; simp [Value.cells]
  have hus : u.cells.size = m := by rw [← Array.length_toList, huc]; simpa using hy1
  cases g with
  | rowA k n l =>
   obtain ⟨h2, h3⟩ := hg
   have hfl := flatten_len h2
   simp only [writeDyn] at h
   split at h
   ·rename_i hb
    simp only [Bool.and_eq_true] at hb
    obtain ⟨⟨⟨b1, b2⟩, b3⟩, b4⟩ := hb
    have e1 := keq_eq b1
    have e2 := Nat.eq_of_beq_eq_true b2
    have e3 := Nat.eq_of_beq_eq_true b3
    have e4 := Nat.eq_of_beq_eq_true b4
    simp only [Option.some.injEq, Prod.mk.injEq] at h
    obtain ⟨rfl, rfl⟩ := h
    subst e1 e2 e3 e4
    have hi : x.toNat < l.length := toNat_lt hp.1
    have hnl : n * x.toNat + n ≤ l.flatten.length := by
     rw [hfl]
     have := Nat.mul_le_mul_left n (show x.toNat + 1 ≤ l.length from hi)
     rwa [Nat.mul_add, Nat.mul_one] at this
    refine ⟨⟨AllA.set h2 hy1 hy2, ?_⟩, by rw [h3, List.length_map, hus]; omega⟩
    rw [flatten_set h2 hi hy1, Nat.add_zero, map_over, h3, huc]
   ·cases h
  | _ => simp [writeDyn] at h
 | agg xs =>
  cases g with
  | rowD key sh ds =>
   cases sh with
   | r fs =>
    simp only [writeDyn] at h
    split at h
    ·rename_i l hb hl
     split at h
     ·rename_i ys hys
      simp only [Bool.and_eq_true] at hb
      have e2 := Nat.eq_of_beq_eq_true hb.1
      have e3 := Nat.eq_of_beq_eq_true hb.2
      simp only [Option.some.injEq, Prod.mk.injEq] at h
      obtain ⟨rfl, rfl⟩ := h
      subst e2 e3
      have hxl : x.toNat < ds.length := toNat_lt hp.1
      have hsd := segsOf_D (.agg xs) l u (by simp only [segsOf]; exact hl) hv
      obtain ⟨g1, ⟨wF, Out, hF⟩, g3, g4, g5, g6⟩ := hg
      obtain ⟨q1, q2, q3⟩ := datWs_ok hF ys fs l ys 0 _ hys rfl hsd
      simp only [D] at hv
      obtain ⟨us, _, rfl⟩ := hv
      have huc : (Value.agg us.toArray).cells.toList = us := by simp [Value.cells]
      rw [huc] at q1 q2 q3 ⊢
      have hR : RoD wF Out (.r fs) (.r ys) (.agg us.toArray) := by simp only [RoD]; exact ⟨us, q1, rfl⟩
      have hn : ∀ d v, (ρ key).rel (.r fs) d v → v.cells.toList.length = shSizes fs := fun d v hd => by rw [hF] at hd; exact RoD_cells _ _ _ hd
      obtain ⟨c1, c2⟩ := ChainR.put hn (d' := .r ys) (v' := .agg us.toArray) (by rw [hF]; exact hR) ds cs x.toNat hxl g3
      rw [huc] at c1
      have hcells : (Value.agg us.toArray).cells.size = shSizes fs := by simp [Value.cells, q3]
      refine ⟨⟨g1, ⟨wF, Out, hF⟩, by rw [Nat.add_zero]; exact c1, ?_, fun v hv => ?_, fun d hd => ?_⟩, by rw [hcells, Nat.add_zero]; exact c2⟩
      ·rw [over_length (by rw [q3, Nat.add_zero]; exact c2), g4, List.length_set]
      ·unfold over at hv
       rcases List.mem_append.1 hv with hv | hv
       ·rcases List.mem_append.1 hv with hv | hv
        ·exact g5 v (List.mem_of_mem_take hv)
        ·exact q2 v hv
       ·exact g5 v (List.mem_of_mem_drop hv)
      ·rcases List.mem_or_eq_of_mem_set hd with hd | rfl
       ·exact g6 d hd
       ·exact RoD.fact _ _ _ hR
     ·cases h
    ·cases h
   | _ => simp [writeDyn] at h
  | _ => simp [writeDyn] at h
 | nsl =>
  simp only [D] at hv
  subst hv
  cases g with
  | rowH key hs =>
   simp only [writeDyn] at h
   split at h
   ·rename_i hb
    simp only [Bool.and_eq_true] at hb
    have e2 := Nat.eq_of_beq_eq_true hb.1
    have e3 := Nat.eq_of_beq_eq_true hb.2
    simp only [Option.some.injEq, Prod.mk.injEq] at h
    obtain ⟨rfl, rfl⟩ := h
    subst e2 e3
    have hjn : x.toNat < hs.length := toNat_lt hp.1
    obtain ⟨w0, q1, q2⟩ := hg.2.at_ x.toNat hjn
    have hcl := hg.2.len
    have huc : (Value.slice none 0 0).cells.toList = [.slice none 0 0] := rfl
    have hjc : x.toNat < cs.length := by omega
    refine ⟨⟨hg.1, ?_⟩, by show 1 * x.toNat + 0 + 1 ≤ _; omega⟩
    rw [huc, Nat.one_mul, Nat.add_zero, ← set_over _ _ _ hjc]
    refine HdrsD.set ?_ _ hg.2
    simp only [D] at q2 ⊢
    exact ⟨q2.1, q2.2.1, by simp, by simp [InR], none, 0, by simp, Nat.le_refl _, .inr ⟨by simp, rfl⟩⟩
   ·cases h
  | _ => simp [writeDyn] at h
 | _ => cases g <;> simp [writeDyn] at h

/-! ### The model's operations on variables -/

theorem tyB_row {P : Program} {t : Ty} {T : TypeId} (h : tyB P t T = true) : ∃ d, P.underlying T = some d ∧ d.isRow = isRow t := by
 cases t <;> unfold tyB at h <;> split at h <;> first
  | (rename_i hu; exact ⟨_, hu, rfl⟩)
  | cases h

theorem rangeAt_part {w : World} {b o : Nat} {vs : List Value} (h : w.rangeAt b o vs) (c n : Nat) : w.rangeAt b (o + c) ((vs.drop c).take n) := fun j v hv => by
 rw [List.getElem?_take] at hv
 split at hv
 ·rw [List.getElem?_drop] at hv
  rw [Nat.add_assoc]; exact h _ v hv
 ·cases hv

theorem load_run {P : Program} {T : TypeId} {ti : TInfo} (hT : RowOk P T ti) {w : World} {b o c : Nat} {vs : List Value} (hr : w.rangeAt b o vs) {dm : Nat → Prop} {ρ : Nat → Pl} {x : SV}
  (h : ReadOk dm ρ x ti.ty vs c) : ∃ v, (Instr.loadAt T (.pointer (some ⟨b, o + c, none⟩))).run P w = .ok v w ∧ D dm ρ x v := by
 obtain ⟨v, h1, h2, h3, h4, h5⟩ := h
 obtain ⟨d, hd, hrow⟩ := tyB_row hT.ty
 refine ⟨v, ?_, h1⟩
 cases hh : isRow ti.ty with
 | true =>
  obtain ⟨a, rfl⟩ := h4 hh
  have hra := rangeAt_part hr c ti.ty.size
  rw [← h2] at hra
  have hlen : (Value.agg a).cells.toList.length = ti.ty.size := by rw [h2]; simp; omega
  have := run_loadAt_mid (P := P) w b (o + c) T (Value.agg a).cells.toList d hra hd (by rw [hrow, hh]) (by rw [hT.size, hlen])
  rw [this]; simp [Value.cells]
 | false =>
  have hc := h5 hh
  have hagg : (isAgg T).run P w = .ok false w := by
   unfold isAgg
   rw [Sem.run_bind, run_underlying hd w]
   rw [hh] at hrow
   cases d <;> simp_all
  have hcell : w.cell? ⟨b, o + c, none⟩ = some v := by
   have := rangeAt_part hr c ti.ty.size 0 v (by rw [← h2, hc]; rfl)
   simpa using this
  simp [Instr.loadAt, Instr.sureAddr, loadVar, hagg, hcell]

theorem store_run {P : Program} {T : TypeId} {w : World} {b o : Nat} {v : Value} (hs : (P.info? T).map (·.size) = some v.cells.size) (ht : w.there b o v.cells.size) (h1 : ∀ x ∈ v.cells.toList, x.oneCell' = true) :
  (Instr.storeAt T (.pointer (some ⟨b, o, none⟩)) v).run P w = .ok () (w.setCells b o v.cells.toList) := by
 have := run_storeCells_cells (P := P) b o v.cells.toList 0 w (fun j hj => by simpa using (ht j (by simpa using hj)).1) (fun j hj => by simpa using (ht j (by simpa using hj)).2) h1
 cases hq : P.info? T with
 | none => simp [hq] at hs
 | some i =>
  have hsz : v.cells.size = i.size := by simp [hq] at hs; omega
  simp only [Nat.add_zero] at this
  simp [Instr.storeAt, Instr.sureAddr, storeVar, sizeOf, typeInfo, hq, hsz, this]

/-! ### What an operation comes to -/

def Ext (H : Nat → Option SB) (ρ ρ' : Nat → Pl) : Prop := ∀ k, dmOf H k → PlLe (ρ k) (ρ' k)

def After (w0 : World) (M : Nat → Prop) (ρ : Nat → Pl) (H : Nat → Option SB) (d : Delta) (v : Value) (w' : World) : Prop :=
 ∃ ρ', Ext H ρ ρ' ∧ D (dmOf (updsH H d.ws)) ρ' d.v v ∧ Mem w0 M ρ' (updsH H d.ws) w'

def Outc (P : Program) (w0 : World) (M : Nat → Prop) (ρ : Nat → Pl) (H : Nat → Option SB) (d : Delta) (w : World) (r : Result Next) : Prop :=
 (∃ v w', (r = .ok (.value v) w' ∨ (r = .ok .skip w' ∧ v = undef)) ∧ After w0 M ρ H d v w') ∨
 (∃ f args, r = .ok (.enter f args) w ∧ Calls P f args w fun e w' => ∃ v, e = .returned v ∧ After w0 M ρ H d v w')

section
variable {P : Program} {w0 : World} {M : Nat → Prop} {ρ : Nat → Pl} {H : Nat → Option SB} {w : World}

theorem Ext.refl (H : Nat → Option SB) (ρ : Nat → Pl) : Ext H ρ ρ := fun _ _ => .refl _

theorem Outc.same (hm : Mem w0 M ρ H w) {d : Delta} {v : Value} {s : Sem Value} (hw : d.ws = []) (hr : s.run P w = .ok v w) (hd : D (dmOf H) ρ d.v v) :
  Outc P w0 M ρ H d w ((do pure (.value (← s)) : Sem Next).run P w) :=
 .inl ⟨v, w, .inl (by simp [hr]), ρ, .refl _ _, by rw [hw]; exact hd, by rw [hw]; exact hm⟩

theorem Outc.move (hm : Mem w0 M ρ H w) {d : Delta} {v : Value} (hw : d.ws = []) (hd : D (dmOf H) ρ d.v v) : Outc P w0 M ρ H d w ((pure (.value v) : Sem Next).run P w) :=
 .inl ⟨v, w, .inl rfl, ρ, .refl _ _, by rw [hw]; exact hd, by rw [hw]; exact hm⟩

theorem Mem.segs (hm : Mem w0 M ρ H w) {key : Nat} {ro : Bool} {l : List Seg} (h : H key = some (.segs ro l)) :
  ∃ vs, SegsD (dmOf H) ρ l vs ∧ vs.length ≤ (ρ key).cap ∧ w.rangeAt (ρ key).blk (ρ key).off vs ∧ (ro = false → w.there (ρ key).blk (ρ key).off (ρ key).cap) := hm.heap.blk key _ h

theorem dm_of {key : Nat} {b : SB} (h : H key = some b) : dmOf H key := by unfold dmOf; rw [h]; rfl

theorem Mem.keeps (hm : Mem w0 M ρ H w) : Keeps w0 w (OutB w0 M) (OutB w0 M) := fun b hb => ⟨hb, hm.frame.block b hb.1 hb.2⟩

/-! ### A list of rows of bytes that is being spoilt -/

theorem Clean.frozen {w : World} {b x : Nat} {u : Value} (h : Clean w b) (hc : w.cell? ⟨b, x, none⟩ = some u) : w.frozen? ⟨b, x, none⟩ = false := by
 unfold World.cell? at hc
 unfold World.frozen?
 split at hc
 ·rename_i cs T fr e
  obtain ⟨lo, hi⟩ := fr
  simp only at e
  have h2 := h cs T lo hi e
  simp only [Option.isSome_none, Bool.false_eq_true, if_false] at hc
  have hx : x < cs.size := by
   rcases Nat.lt_or_ge x cs.size with c | c
   ·exact c
   ·rw [Array.getElem?_eq_none c] at hc; cases hc
  simp only [e, Bool.and_eq_false_imp, decide_eq_true_eq, decide_eq_false_iff_not]
  omega
 ·cases hc

theorem cell_set1 {w : World} {b0 x0 : Nat} {u v : Value} (h : w.cell? ⟨b0, x0, none⟩ = some u) (b y : Nat) :
  (b = b0 ∧ y = x0 ∧ (w.setCells b0 x0 [v]).cell? ⟨b, y, none⟩ = some v) ∨ (¬ (b = b0 ∧ y = x0) ∧ (w.setCells b0 x0 [v]).cell? ⟨b, y, none⟩ = w.cell? ⟨b, y, none⟩) := by
 by_cases e : b = b0 ∧ y = x0
 ·obtain ⟨rfl, rfl⟩ := e
  refine .inl ⟨rfl, rfl, ?_⟩
  have := World.cell?_setCells_in b [v] y w (fun j hj => by
   have : j = 0 := by simp at hj; exact hj
   subst this
   rw [Nat.add_zero, h]; rfl) 0 (by simp)
  simpa using this
 ·refine .inr ⟨e, World.cell?_setCells_out b0 [v] x0 w ⟨b, y, none⟩ fun h1 _ => ?_⟩
  have h1 : b = b0 := h1
  have : y ≠ x0 := fun h2 => e ⟨h1, h2⟩
  show y < x0 ∨ x0 + [v].length ≤ y
  simp only [List.length_cons, List.length_nil]; omega

theorem PoolD.zclean {w0 : World} {M : Nat → Prop} {w : World} {p : Pl} {k : PK} {ms : List (List Int)} (h : PoolD w0 M w p k ms) {b : Nat} (hz : Zp p b) : Clean w b := by
 obtain ⟨i, hi, hc, rfl⟩ := hz
 exact h.clean i (by rw [← h.cnt]; exact hi) hc

theorem VivD.nil {w : World} {p : Pl} {ms : List (List Int)} {x : Nat} (h : VivD w p ms) (hx : x < (ms.getD 0 []).length) :
  VivD (w.setCells p.blk (p.off + x) [.slice none 0 0]) p (ms.set 0 ((ms.getD 0 []).set x 0)) := by
 have hm : 0 < ms.length := by
  cases ms with
  | nil => simp at hx
  | cons a r => simp
 obtain ⟨a1, a2, a3, a, cap, a4, a5, a6⟩ := h.hd x _ (List.getElem?_eq_getElem hx)
 obtain ⟨wF, h1, h2⟩ := h.kin
 have hg : (ms.set 0 ((ms.getD 0 []).set x 0)).getD 0 [] = (ms.getD 0 []).set x 0 := by
  rw [List.getD_eq_getElem?_getD, List.getElem?_set_self hm]; rfl
 refine ⟨⟨wF, h1, fun b y hb => ?_⟩, fun x' n hn => ?_⟩
 ·rcases cell_set1 (v := .slice none 0 0) a4 b y with ⟨rfl, rfl, e⟩ | ⟨_, e⟩
  ·rw [e]
   refine (h2 _ _ hb).trans ?_
   rw [a4]; exact .inr (.inr ⟨_, _, _, rfl, rfl⟩)
  ·rw [e]; exact h2 b y hb
 ·rw [hg] at hn
  by_cases ex : x = x'
  ·subst ex
   rw [List.getElem?_set_self hx] at hn
   simp only [Option.some.injEq] at hn; subst hn
   refine ⟨Int.le_refl _, by simp [InR], a3, none, 0, ?_, fun c => absurd c (by omega), fun y hy => absurd hy (by simp)⟩
   rcases cell_set1 (v := .slice none 0 0) a4 p.blk (p.off + x) with ⟨_, _, e⟩ | ⟨e, _⟩
   ·rw [e]; rfl
   ·exact absurd ⟨rfl, rfl⟩ e
  ·rw [List.getElem?_set_ne ex] at hn
   obtain ⟨b1, b2, b3, a', cap', b4, b5, b6⟩ := h.hd x' n hn
   refine ⟨b1, b2, b3, a', cap', ?_, b5, fun y hy => ?_⟩
   ·rcases cell_set1 (v := .slice none 0 0) a4 p.blk (p.off + x') with ⟨_, e', _⟩ | ⟨_, e⟩
    ·omega
    ·rw [e]; exact b4
   ·obtain ⟨c1, z, c2, c3⟩ := b6 y hy
    refine ⟨c1, z, ?_, c3⟩
    rcases cell_set1 (v := .slice none 0 0) a4 (p.hb x') (p.ho x' + y) with ⟨e', e'', _⟩ | ⟨_, e⟩
    ·rw [e', e'', a4] at c2; cases c2
    ·rw [e]; exact c2

theorem VivD.byte {w : World} {p : Pl} {ms : List (List Int)} {i x : Nat} (h : VivD w p ms) (hi : i < (ms.getD 0 []).length) (hx : (x : Int) < (ms.getD 0 []).getD i 0) {z : Int} (hz : InR .u8 z) :
  VivD (w.setCells (p.hb i) (p.ho i + x) [.int .u8 z]) p ms := by
 have hii : (ms.getD 0 [])[i]? = some ((ms.getD 0 []).getD i 0) := by rw [List.getD_eq_getElem?_getD (l := ms.getD 0 []), List.getElem?_eq_getElem hi]; rfl
 obtain ⟨a1, a2, a3, a, cap, a4, a5, a6⟩ := h.hd i _ hii
 obtain ⟨q1, z0, q2, q3⟩ := a6 x (by omega)
 obtain ⟨wF, h1, h2⟩ := h.kin
 refine ⟨⟨wF, h1, fun b y hb => ?_⟩, fun x' n hn => ?_⟩
 ·rcases cell_set1 (v := .int .u8 z) q2 b y with ⟨rfl, rfl, e⟩ | ⟨_, e⟩
  ·rw [e]
   refine (h2 _ _ hb).trans ?_
   rw [q2]; exact .inr (.inl ⟨_, _, _, rfl, rfl, hz⟩)
  ·rw [e]; exact h2 b y hb
 ·obtain ⟨b1, b2, b3, a', cap', b4, b5, b6⟩ := h.hd x' n hn
  refine ⟨b1, b2, b3, a', cap', ?_, b5, fun y hy => ?_⟩
  ·rcases cell_set1 (v := .int .u8 z) q2 p.blk (p.off + x') with ⟨e', e'', _⟩ | ⟨_, e⟩
   ·rw [e', e'', q2] at b4; cases b4
   ·rw [e]; exact b4
  ·obtain ⟨c1, z1, c2, c3⟩ := b6 y hy
   rcases cell_set1 (v := .int .u8 z) q2 (p.hb x') (p.ho x' + y) with ⟨_, _, e⟩ | ⟨_, e⟩
   ·exact ⟨c1, z, e, hz⟩
   ·exact ⟨c1, z1, by rw [e]; exact c2, c3⟩

theorem Mem.viv_set {w0 : World} {M : Nat → Prop} {ρ : Nat → Pl} {H : Nat → Option SB} {w : World} (h : Mem w0 M ρ H w) {key b x : Nat} {ms ms' : List (List Int)} (hk : H key = some (.pool .v ms)) (hz : Zp (ρ key) b) {v : Value}
  (hl : ms'.length = ms.length) (hv : VivD (w.setCells b x [v]) (ρ key) ms') : Mem w0 M ρ (updH H key (.pool .v ms')) (w.setCells b x [v]) := by
 have hP := h.pools.pool key .v ms hk
 obtain ⟨r, hrn, hc, rfl⟩ := hz
 have hrl : r < ms.length := by rw [← hP.cnt]; exact hrn
 have hos := setCells_os ((ρ key).pb r) [v] x w
 have hsz := setCells_size ((ρ key).pb r) [v] x w
 have hx1 : ∀ k' ro l, updH H key (.pool .v ms') k' = some (.segs ro l) → k' ≠ key ∧ H k' = some (.segs ro l) := fun k' ro l h1 => by
  by_cases e : k' = key
  ·subst e; rw [updH_same] at h1; cases h1
  ·rw [updH_ne e] at h1; exact ⟨e, h1⟩
 have hx2 : ∀ k' kd ms2, updH H key (.pool .v ms') k' = some (.pool kd ms2) → (k' = key ∧ kd = .v ∧ ms2 = ms') ∨ (k' ≠ key ∧ H k' = some (.pool kd ms2)) := fun k' kd ms2 h1 => by
  by_cases e : k' = key
  ·subst e; rw [updH_same] at h1; simp only [Option.some.injEq, SB.pool.injEq] at h1; exact .inl ⟨rfl, h1.1.symm, h1.2.symm⟩
  ·rw [updH_ne e] at h1; exact .inr ⟨e, h1⟩
 have hlen : ∀ k' kd ms2, updH H key (.pool .v ms') k' = some (.pool kd ms2) → ∃ ms0, H k' = some (.pool kd ms0) ∧ ms0.length = ms2.length := fun k' kd ms2 h1 => by
  rcases hx2 k' kd ms2 h1 with ⟨rfl, rfl, rfl⟩ | ⟨_, e⟩
  ·exact ⟨ms, hk, hl.symm⟩
  ·exact ⟨ms2, e, rfl⟩
 refine ⟨⟨fun k' b hb => ?_, fun k1 k2 ro ro' l1 l2 h1 h2 hkk hro c1 c2 => h.heap.sep k1 k2 ro ro' l1 l2 (hx1 _ _ _ h1).2 (hx1 _ _ _ h2).2 hkk hro c1 c2, fun k' ro l1 h1 c1 => ?_⟩,
  ⟨hos.1.trans h.frame.os, hos.2.1.trans h.frame.tape, hos.2.2.trans h.frame.output, by rw [hsz]; exact h.frame.size, fun k' hk1 hk2 => ?_⟩, fun k' l1 h1 c1 => h.own k' l1 (hx1 _ _ _ h1).2 c1, view_upH h.view (by simp), fun k' l1 h1 c1 => clean_setCells _ _ _ (h.clean k' l1 (hx1 _ _ _ h1).2 c1), ?_⟩
 ·by_cases e : k' = key
  ·subst e; rw [updH_same] at hb; simp only [Option.some.injEq] at hb; subst hb; trivial
  ·rw [updH_ne e] at hb
   exact (h.heap.blk k' b hb).of_block (dm_updH _ _ _) (fun _ _ => .refl _) rfl (fun ro l1 e1 c1 => setCells_block _ _ _ _ _ (h.pools.apart key .v ms k' ro l1 r hk (by rw [hb, e1]) c1 hrl hc))
 ·rw [hsz]; exact h.heap.lt k' ro l1 (hx1 _ _ _ h1).2 c1
 ·rw [setCells_block]
  ·exact h.frame.block k' hk1 hk2
  ·intro e
   rcases hP.own r hrl hc with h' | h'
   ·omega
   ·rw [e] at hk2; exact hk2 h'
 ·have hO : ∀ k' kd ms2 i c, updH H key (.pool .v ms') k' = some (.pool kd ms2) → i < ms2.length → OwnB (w.setCells ((ρ key).pb r) x [v]) (ρ k') kd i c → OwnB w (ρ k') kd i c := fun k' kd ms2 i c h1 hi ho => by
   rcases hx2 k' kd ms2 h1 with ⟨rfl, rfl, rfl⟩ | ⟨hne, e⟩
   ·obtain ⟨a, rfl⟩ := ho.plain rfl; exact .pb a
   ·exact ho.of_block fun h0 => setCells_block _ _ _ _ _ (h.pools.two k' kd ms2 key .v ms i r e hk hne hi hrl h0 hc)
  refine ⟨fun k' kd ms2 hk' => ?_, fun k1 kd ms1 k2 ro l i c h1 h2 c1 hi hc1 => ?_, fun k1 kd1 ms1 k2 kd2 ms2 i j c h1 h2 hkk hi hj c1 c2 => ?_, fun k' kb q r' ms2 hk' => ?_⟩
  rotate_left 3
  ·rcases hx2 _ _ _ hk' with ⟨rfl, e, rfl⟩ | ⟨hne, e⟩
   ·cases e
   ·obtain ⟨v1, v2, v3, v4⟩ := h.pools.view k' kb q r' ms2 e
    exact ⟨dm_updH _ _ _ _ v1, v2, v3, v4.step (setCells_block _ _ _ _ _ (h.pools.two k' _ ms2 key .v ms r' r e hk hne v2 hrl v3 hc)) (.refl _)⟩
  ·rcases hx2 k' kd ms2 hk' with ⟨rfl, rfl, rfl⟩ | ⟨hne, e⟩
   ·have hcl : ∀ i c, i < ms2.length → OwnB (w.setCells ((ρ k').pb r) x [v]) (ρ k') .v i c → i < ms.length ∧ OwnB w (ρ k') .v i c := fun i c hi ho => by
     obtain ⟨a, rfl⟩ := ho.plain rfl
     exact ⟨by omega, .pb a⟩
    refine ⟨by rw [hl]; exact hP.cnt, fun i m' hi => ?_, fun i c hi ho => ?_, fun i c hi ho => ?_, fun i c hi ho => ?_, fun i j c hi hj ho ho' => ?_, fun i _ _ e => (by cases e), (fun e => by cases e), (fun e => by cases e), fun _ => hv⟩
    ·have hil : i < ms.length := by have := (List.getElem?_eq_some_iff.1 hi).1; omega
     obtain ⟨vs, b1, b2, b3, b4⟩ := hP.rowD i _ (List.getElem?_eq_getElem hil)
     exact ⟨[], ⟨trivial, rfl⟩, Nat.zero_le _, rangeAt_nil' _ _ _, World.there_setCells b4 _ _ _⟩
    ·obtain ⟨a, b⟩ := hcl i c hi ho
     rw [hsz]; exact hP.ltD i c a b
    ·obtain ⟨a, b⟩ := hcl i c hi ho
     exact hP.ownD i c a b
    ·obtain ⟨a, b⟩ := hcl i c hi ho
     exact clean_setCells _ _ _ (hP.cleanD i c a b)
    ·obtain ⟨a, b⟩ := hcl i c hi ho
     obtain ⟨a', b'⟩ := hcl j c hj ho'
     exact hP.sepD i j c a a' b b'
   ·exact (h.pools.pool k' kd ms2 e).step rfl (by rw [hsz]; exact Nat.le_refl _) (fun _ _ _ _ h => h) (fun i c hi ho => setCells_block _ _ _ _ _ (fun e2 => h.pools.twoD k' kd ms2 key .v ms i r c e hk hne hi hrl ho (by rw [e2]; exact .pb hc)))
  ·obtain ⟨ms0, e0, el⟩ := hlen _ _ _ h1
   exact h.pools.apartD k1 kd ms0 k2 ro l i c e0 (hx1 _ _ _ h2).2 c1 (by omega) (hO _ _ _ _ _ h1 hi hc1)
  ·obtain ⟨ms10, e1, el1⟩ := hlen _ _ _ h1
   obtain ⟨ms20, e2, el2⟩ := hlen _ _ _ h2
   exact h.pools.twoD k1 kd1 ms10 k2 kd2 ms20 i j c e1 e2 hkk (by omega) (by omega) (hO _ _ _ _ _ h1 hi c1) (hO _ _ _ _ _ h2 hj c2)

theorem updH_id {H : Nat → Option SB} {key : Nat} {b : SB} (h : H key = some b) : updH H key b = H := by
 funext k
 by_cases e : k = key
 ·subst e; rw [updH_same, h]
 ·rw [updH_ne e]

theorem load_sound {T : TypeId} {ti : TInfo} (hT : RowOk P T ti) (hm : Mem w0 M ρ H w) {a : SV} {va : Value} (ha : D (dmOf H) ρ a va) {d : Delta} {rs rs' : List Nat}
  (h : (loadOp ti a).run H rs = some (d, rs')) (hp : AllP d.pre) : d.ws = [] ∧ ∃ v, (Instr.loadAt T va).run P w = .ok v w ∧ D (dmOf H) ρ d.v v := by
 cases a with
 | p key c =>
  simp only [D] at ha
  obtain ⟨_, rfl⟩ := ha
  simp only [loadOp, RP.run] at h
  split at h
  ·rename_i ro l hk
   split at h
   ·rename_i p v hv
    have e := run_ret h; subst e
    obtain ⟨vs, h1, h2, h3, _⟩ := hm.segs hk
    exact ⟨rfl, load_run hT h3 (readVar_sound h1 ti.ty c p v hv hp)⟩
   ·simp [RP.run] at h
  ·simp [RP.run] at h
 | pd key c est x j =>
  simp only [D] at ha
  obtain ⟨_, hx, rfl⟩ := ha
  simp only [loadOp, RP.run] at h
  split at h
  ·rename_i ro l hk
   split at h
   ·rename_i g hg
    split at h
    ·rename_i p v hv
     have e := run_ret h; subst e
     obtain ⟨vs, h1, h2, h3, _⟩ := hm.segs hk
     unfold segHead at hg
     split at hg
     ·rename_i g' hs
      simp only [Option.some.injEq] at hg; subst hg
      obtain ⟨pre, cs, post, e1, e2, e3, e4, _⟩ := segAt_D l c vs g' 0 h1 hs
      have hro := (readDyn_sound hv hp e2).mid (pre := pre) (post := post)
      rw [← e1] at hro
      rw [show pre.length + (est * x.toNat + j) = c + est * x.toNat + j by omega] at hro
      exact ⟨rfl, load_run hT h3 hro⟩
     ·cases hg
    ·simp [RP.run] at h
   ·simp [RP.run] at h
  ·simp [RP.run] at h
 | rop key sh dd x j =>
  simp only [D] at ha
  obtain ⟨hk, h0, hx, b, o, n, cap, hrel, rfl⟩ := ha
  simp only [loadOp, RP.run] at h
  split at h
  ·rename_i hkey
   split at h
   ·rename_i v hv
    have e := run_ret h; subst e
    have hr := hm.view key hkey
    rw [hr] at hrel
    obtain ⟨q1, cs, q2, q3⟩ := readEl_sound hk hr hv hrel h0 hx
    exact ⟨rfl, load_run hT (hm.keeps.range q1 q2) q3⟩
   ·simp [RP.run] at h
  ·simp [RP.run] at h
 | pq key r x =>
  simp only [D] at ha
  obtain ⟨_, hr, hx, rfl⟩ := ha
  simp only [loadOp, RP.run] at h
  split at h
  ·rename_i k ms hk
   split at h
   ·rename_i k' hti
    split at h
    ·rename_i hkk
     have e := run_ret h; subst e
     have hkk := keq_eq hkk
     subst hkk
     have hlt : x < ((ms.getD r []).length : Int) := hp.1
     have hP := hm.pools.pool key k ms hk
     have hrl : r < ms.length := by rw [← hP.cnt]; exact hr
     have hrm : ms[r]? = some (ms.getD r []) := by rw [List.getD_eq_getElem?_getD, List.getElem?_eq_getElem hrl]; rfl
     obtain ⟨a1, a2, a3, a4⟩ := hP.rowk r _ hrm
     refine ⟨rfl, ?_⟩
     have hxl : x.toNat < (ms.getD r []).length := by omega
     have hzz : (ms.getD r []).getD x.toNat 0 = (ms.getD r [])[x.toNat] := by rw [List.getD_eq_getElem?_getD, List.getElem?_eq_getElem hxl]; rfl
     have hjc : x.toNat < ((ms.getD r []).map (Value.int k)).length := by simpa using hxl
     refine load_run hT a3 (dm := dmOf H) (ρ := ρ) (c := x.toNat) ⟨.int k ((ms.getD r []).getD x.toNat 0), ⟨rfl, by rw [hzz]; exact a1.at hxl⟩, ?_, ?_, ?_, fun _ => rfl⟩
     ·rw [hti]
      show [Value.int k _] = (((ms.getD r []).map (Value.int k)).drop x.toNat).take 1
      rw [drop_take_one hjc, List.getElem_map, hzz]
     ·rw [hti]; simp only [Ty.size]; omega
     ·rw [hti]; intro hr'; cases hr'
    ·simp [RP.run] at h
   ·simp [RP.run] at h
  ·simp [RP.run] at h
 | vq key x =>
  simp only [D] at ha
  obtain ⟨hk, hx, rfl⟩ := ha
  simp only [loadOp, RP.run] at h
  split at h
  ·rename_i ms hkey
   split at h
   ·rename_i hti
    have e := run_ret h; subst e
    have hlt : x < (((ms.getD 0 []).length : Nat) : Int) := hp.1
    have hV := (hm.pools.pool key _ ms hkey).vivD rfl
    have hxl : x.toNat < (ms.getD 0 []).length := by omega
    have hxx : (ms.getD 0 [])[x.toNat]? = some ((ms.getD 0 []).getD x.toNat 0) := by rw [List.getD_eq_getElem?_getD (l := ms.getD 0 []), List.getElem?_eq_getElem hxl]; rfl
    obtain ⟨a1, a2, a3, a, cap, a4, a5, a6⟩ := hV.hd _ _ hxx
    refine ⟨rfl, ?_⟩
    have hra : w.rangeAt (ρ key).blk ((ρ key).off + x.toNat) [.slice a ((ms.getD 0 []).getD x.toNat 0).toNat cap] := fun j v hj => by
     cases j with
     | zero => simp only [List.getElem?_cons_zero, Option.some.injEq] at hj; subst hj; simpa using a4
     | succ j => simp at hj
    have := load_run hT hra (dm := dmOf H) (ρ := ρ) (c := 0) (x := .vr key x.toNat ⟨false, (ms.getD 0 []).getD x.toNat 0⟩) ⟨_, ⟨hk, a1, a2, a, cap, rfl, a5⟩, by rw [hti]; rfl, by rw [hti]; exact Nat.le_refl _, (by rw [hti]; intro hr'; cases hr'), fun _ => rfl⟩
    simpa using this
   ·simp [RP.run] at h
  ·simp [RP.run] at h
 | vb key i x =>
  simp only [D] at ha
  obtain ⟨hk, hx, rfl⟩ := ha
  simp only [loadOp, RP.run] at h
  split at h
  ·rename_i ms hkey
   split at h
   ·rename_i k' hti
    split at h
    ·rename_i hkk
     have e := run_ret h; subst e
     have hkk := keq_eq hkk
     subst hkk
     have hil : i < (ms.getD 0 []).length := hp.1
     have hlt : x < (ms.getD 0 []).getD i 0 := hp.2.1
     have hV := (hm.pools.pool key _ ms hkey).vivD rfl
     have hxx : (ms.getD 0 [])[i]? = some ((ms.getD 0 []).getD i 0) := by rw [List.getD_eq_getElem?_getD (l := ms.getD 0 []), List.getElem?_eq_getElem hil]; rfl
     obtain ⟨a1, a2, a3, a, cap, a4, a5, a6⟩ := hV.hd _ _ hxx
     obtain ⟨c1, z, c2, c3⟩ := a6 x.toNat (by omega)
     refine ⟨rfl, ?_⟩
     have hra : w.rangeAt ((ρ key).hb i) ((ρ key).ho i + x.toNat) [.int .u8 z] := fun j v hj => by
      cases j with
      | zero => simp only [List.getElem?_cons_zero, Option.some.injEq] at hj; subst hj; simpa using c2
      | succ j => simp at hj
     have := load_run hT hra (dm := dmOf H) (ρ := ρ) (c := 0) (x := .vi .u8) ⟨_, ⟨z, rfl, c3⟩, by rw [hti]; rfl, by rw [hti]; exact Nat.le_refl _, (by rw [hti]; intro hr'; cases hr'), fun _ => rfl⟩
     simpa using this
    ·simp [RP.run] at h
   ·simp [RP.run] at h
  ·simp [RP.run] at h
 | _ => simp [loadOp, RP.run] at h

mutual
theorem ofTy_size {dm : Nat → Prop} {ρ : Nat → Pl} : ∀ (t : Ty) (x : SV) (v : Value), ofTy t x = true → D dm ρ x v → v.cells.size = t.size
 | .arr n e, x, v, h, hv => by
  cases e with
  | int k =>
   cases x <;> simp only [ofTy, fits, Bool.false_eq_true] at h
   simp only [Bool.and_eq_true] at h
   have := Nat.eq_of_beq_eq_true h.2
   simp only [D] at hv
   rw [hv.2.2]
   simp only [Value.cells, List.size_toArray, List.length_map, Ty.size, Nat.mul_one]
   omega
  | _ => cases x <;> simp [ofTy, fits] at h
 | .struct fs, x, v, h, hv => by
  cases x <;> simp only [ofTy, fits, Bool.false_eq_true] at h
  rename_i xs
  simp only [D] at hv
  obtain ⟨cs, h1, rfl⟩ := hv
  have := ofTys_size fs xs cs h h1
  simpa [Value.cells, Ty.size] using this
 | .int k, x, v, h, hv => by
  cases x <;> simp [ofTy, fits] at h
  ·rw [(single_cell (x := .i _ _) rfl hv).2]; rfl
  ·simp only [D] at hv; obtain ⟨z, rfl, _⟩ := hv; rfl
 | .bool, x, v, h, hv => by cases x <;> simp [ofTy, fits] at h; rw [(single_cell (x := .b _ _) rfl hv).2]; rfl
 | .str, x, v, h, hv => by cases x <;> simp [ofTy, fits] at h; rw [(single_cell (x := .s _) rfl hv).2]; rfl
 | .ptr, x, v, h, hv => by
  cases x <;> simp [ofTy, fits] at h
  ·rw [(single_cell (x := .np) rfl hv).2]; rfl
  ·rw [(single_cell (x := .p _ _) rfl hv).2]; rfl
 | .slice, x, v, h, hv => by
  cases x <;> simp [ofTy, fits] at h
  ·rw [(single_cell (x := .nsl) rfl hv).2]; rfl
  ·rw [(single_cell (x := .sl _ _ _ _ _) rfl hv).2]; rfl
  ·rw [(single_cell (x := .ro _ _ _) rfl hv).2]; rfl
  ·rw [(single_cell (x := .ps _ _ _) rfl hv).2]; rfl
 | .func, x, v, h, hv => by cases x <;> simp [ofTy, fits] at h; rw [(single_cell (x := .fn _) rfl hv).2]; rfl
 | .iface, x, v, h, hv => by cases x <;> simp [ofTy, fits] at h
theorem ofTys_size {dm : Nat → Prop} {ρ : Nat → Pl} : ∀ (ts : List Ty) (xs : List SV) (cs : List Value), ofTys ts xs = true → Cs dm ρ xs cs → cs.length = Ty.sizes ts
 | [], xs, cs, h, hc => by
  cases xs <;> simp [ofTys] at h
  rw [show cs = [] from hc]; rfl
 | t :: ts, xs, cs, h, hc => by
  cases xs <;> simp only [ofTys, Bool.false_eq_true, Bool.and_eq_true] at h
  simp only [Cs] at hc
  obtain ⟨v, c, h1, rfl, h3⟩ := hc
  have e1 := ofTy_size t _ v h.1 h1
  have e2 := ofTys_size ts _ c h.2 h3
  simp [Ty.sizes, e1, e2]
end

theorem store_sound {T : TypeId} {ti : TInfo} (hT : RowOk P T ti) (hm : Mem w0 M ρ H w) {a x : SV} {va vx : Value} (ha : D (dmOf H) ρ a va) (hx : D (dmOf H) ρ x vx) (hty : ofTy ti.ty x = true) {d : Delta} {rs rs' : List Nat}
  (h : (storeOp a x).run H rs = some (d, rs')) (hp : AllP d.pre) : d.v = .any ∧ ∃ w', (Instr.storeAt T va vx).run P w = .ok () w' ∧ Mem w0 M ρ (updsH H d.ws) w' := by
 have hsz := ofTy_size ti.ty x vx hty hx
 cases a with
 | p key c =>
  simp only [D] at ha
  obtain ⟨_, rfl⟩ := ha
  simp only [storeOp, RP.run] at h
  split at h
  ·rename_i l hk
   split at h
   ·rename_i xs hxs
    split at h
    ·rename_i p l' hw
     have e := run_ret h; subst e
     obtain ⟨vs, h1, h2, h3, h4⟩ := hm.segs hk
     have hys := segsOf_D x xs vx hxs hx
     obtain ⟨a1, a2⟩ := writeSegs_sound xs l l' c p vs vx.cells.toList hw hp h1 hys
     have hle : c + vx.cells.toList.length ≤ vs.length ∨ vx.cells.toList = [] := by
      rcases a2 with a2 | rfl
      ·exact .inl a2
      ·exact .inr hys
     refine ⟨rfl, w.setCells (ρ key).blk ((ρ key).off + c) vx.cells.toList, ?_, ?_⟩
     ·refine store_run (by rw [hT.size, hsz]) (fun i hi => ?_) (fun u hu => hys.oneCell u hu)
      rcases hle with hle | hle
      ·have := h4 rfl (c + i) (by simp at hle; omega)
       rwa [← Nat.add_assoc] at this
      ·rw [← Array.length_toList, hle] at hi; simp at hi
     ·rcases hle with hle | hle
      ·exact hm.store hk h3 (by omega) (by omega) h2 rfl a1
      ·rw [hle, over_nil] at a1
       rw [hle]
       have := hm.store (nv := []) (o := 0) hk h3 (by omega) (by simp) h2 rfl (by simpa using a1)
       simp only [World.setCells] at this ⊢
       exact this
    ·simp [RP.run] at h
   ·simp [RP.run] at h
  ·simp [RP.run] at h
 | pd key c est z j =>
  simp only [D] at ha
  obtain ⟨_, hz, rfl⟩ := ha
  simp only [storeOp, RP.run] at h
  split at h
  ·rename_i l hk
   split at h
   ·rename_i g hg
    split at h
    ·rename_i p g' hw
     split at h
     ·rename_i l' hset
      have e := run_ret h; subst e
      obtain ⟨vs, h1, h2, h3, h4⟩ := hm.segs hk
      unfold segHead at hg
      split at hg
      ·rename_i g0 hs
       simp only [Option.some.injEq] at hg; subst hg
       obtain ⟨pre, cs, post, e1, e2, e3, e4, e5⟩ := segAt_D l c vs g0 0 h1 hs
       obtain ⟨a1, a2⟩ := writeDyn_sound hw hp e2 hx
       have a3 := e5 g' _ l' hset a1
       rw [← over_mid _ _ _ _ _ (by simpa using a2), ← e1, show pre.length + (est * z.toNat + j) = c + est * z.toNat + j by omega] at a3
       have hle : c + est * z.toNat + j + vx.cells.toList.length ≤ vs.length := by rw [e1]; simp; omega
       have hone : ∀ u ∈ vx.cells.toList, u.oneCell' = true := by
        cases x <;> simp only [writeDyn, reduceCtorEq] at hw
        case i => intro u hu; rw [(single_cell (x := .i _ _) rfl hx).2] at hu; simp at hu; rw [hu]; exact (single_cell (x := .i _ _) rfl hx).1
        case arr =>
         simp only [D] at hx
         intro u hu; rw [hx.2.2] at hu; simp [Value.cells] at hu; obtain ⟨q, _, rfl⟩ := hu; rfl
        case nsl => intro u hu; rw [(single_cell (x := .nsl) rfl hx).2] at hu; simp at hu; rw [hu]; exact (single_cell (x := .nsl) rfl hx).1
        case agg xs => intro u hu; exact a1.oneCell u (List.mem_append.2 (.inl (List.mem_append.2 (.inr hu))))
        all_goals (cases g0 <;> simp [writeDyn] at hw)
       refine ⟨rfl, w.setCells (ρ key).blk ((ρ key).off + (c + est * z.toNat + j)) vx.cells.toList, ?_, hm.store hk h3 (by omega) (by omega) h2 rfl a3⟩
       refine store_run (by rw [hT.size, hsz]) (fun i hi => ?_) hone
       have := h4 rfl (c + est * z.toNat + j + i) (by simp at hle; omega)
       rwa [← Nat.add_assoc] at this
      ·cases hg
     ·simp [RP.run] at h
    ·simp [RP.run] at h
   ·simp [RP.run] at h
  ·simp [RP.run] at h
 | pq key r z =>
  simp only [D] at ha
  obtain ⟨_, hr, hz, rfl⟩ := ha
  simp only [storeOp, RP.run] at h
  split at h
  ·rename_i k ms hk
   split at h
   ·rename_i k' c
    split at h
    ·rename_i hkk
     have e := run_ret h; subst e
     have hkk := keq_eq hkk
     subst hkk
     simp only [D] at hx
     obtain ⟨rfl, hcr⟩ := hx
     have hlt : z < ((ms.getD r []).length : Int) := hp.1
     have hP := hm.pools.pool key k ms hk
     have hrl : r < ms.length := by rw [← hP.cnt]; exact hr
     have hrm : ms[r]? = some (ms.getD r []) := by rw [List.getD_eq_getElem?_getD, List.getElem?_eq_getElem hrl]; rfl
     obtain ⟨a1, a2, a3, a4⟩ := hP.rowk r _ hrm
     have hxl : z.toNat < (ms.getD r []).length := by omega
     refine ⟨rfl, w.setCells ((ρ key).pb r) ((ρ key).po r + z.toNat) [.int k c.z], ?_, hm.pool_set hk hrm hxl hcr⟩
     refine store_run (by rw [hT.size, hsz]) (fun i hi => ?_) (fun u hu => by simp [Value.cells] at hu; rw [hu]; rfl)
     have := a4 (z.toNat + i) (by simp [Value.cells] at hi; omega)
     rwa [← Nat.add_assoc] at this
    ·simp [RP.run] at h
   ·simp [RP.run] at h
  ·rename_i k v ms hk
   split at h
   ·have e := run_ret h; subst e
    simp only [D] at hx
    subst hx
    have hP := hm.pools.pool key _ ms hk
    have hrl : r < ms.length := by rw [← hP.cnt]; exact hr
    obtain ⟨_, hc, hth, _⟩ := hP.cell hrl
    refine ⟨rfl, w.setCells ((ρ key).pb r) ((ρ key).po r) [.slice none 0 0], ?_, hm.box_nil hk hrl⟩
    refine store_run (o := (ρ key).po r) (by rw [hT.size, hsz]) (fun i hi => hth i (by simp [Value.cells] at hi; omega)) (fun u hu => by simp [Value.cells] at hu; rw [hu]; rfl)
   ·simp [RP.run] at h
  ·simp [RP.run] at h
 | vq key z =>
  simp only [D] at ha
  obtain ⟨_, hz, rfl⟩ := ha
  simp only [storeOp, RP.run] at h
  split at h
  ·rename_i ms hk
   split at h
   ·have e := run_ret h; subst e
    simp only [D] at hx
    subst hx
    have hlt : z < (((ms.getD 0 []).length : Nat) : Int) := hp.1
    have hP := hm.pools.pool key _ ms hk
    have hV := hP.vivD rfl
    have hxl : z.toNat < (ms.getD 0 []).length := by omega
    obtain ⟨a1, a2, a3, a, cap, a4, a5, a6⟩ := hV.hd z.toNat _ (List.getElem?_eq_getElem hxl)
    refine ⟨rfl, w.setCells (ρ key).blk ((ρ key).off + z.toNat) [.slice none 0 0], ?_, hm.viv_set hk a3 (by simp) (hV.nil hxl)⟩
    refine store_run (o := (ρ key).off + z.toNat) (by rw [hT.size, hsz]) (fun i hi => ?_) (fun u hu => by simp [Value.cells] at hu; rw [hu]; rfl)
    have : i = 0 := by simp [Value.cells] at hi; exact hi
    subst this
    rw [Nat.add_zero]
    exact ⟨by rw [a4]; rfl, (hP.zclean a3).frozen a4⟩
   ·simp [RP.run] at h
  ·simp [RP.run] at h
 | vb key i z =>
  simp only [D] at ha
  obtain ⟨_, hz, rfl⟩ := ha
  simp only [storeOp, RP.run] at h
  split at h
  ·rename_i ms hk
   split at h
   ·rename_i k'
    split at h
    ·rename_i hkk
     have e := run_ret h; subst e
     have hkk := keq_eq hkk
     subst hkk
     simp only [D] at hx
     obtain ⟨c, rfl, hcr⟩ := hx
     have hil : i < (ms.getD 0 []).length := hp.1
     have hlt : z < (ms.getD 0 []).getD i 0 := hp.2.1
     have hP := hm.pools.pool key _ ms hk
     have hV := hP.vivD rfl
     have hxx : (ms.getD 0 [])[i]? = some ((ms.getD 0 []).getD i 0) := by rw [List.getD_eq_getElem?_getD (l := ms.getD 0 []), List.getElem?_eq_getElem hil]; rfl
     obtain ⟨a1, a2, a3, a, cap, a4, a5, a6⟩ := hV.hd _ _ hxx
     obtain ⟨c1, z1, c2, c3⟩ := a6 z.toNat (by omega)
     have hv := hm.viv_set (x := (ρ key).ho i + z.toNat) hk c1 rfl (hV.byte hil (x := z.toNat) (by omega) hcr)
     rw [updH_id hk] at hv
     refine ⟨rfl, _, ?_, hv⟩
     refine store_run (o := (ρ key).ho i + z.toNat) (by rw [hT.size, hsz]) (fun i' hi => ?_) (fun u hu => by simp [Value.cells] at hu; rw [hu]; rfl)
     have : i' = 0 := by simp [Value.cells] at hi; exact hi
     subst this
     rw [Nat.add_zero]
     exact ⟨by rw [c2]; rfl, (hP.zclean c1).frozen c2⟩
    ·simp [RP.run] at h
   ·simp [RP.run] at h
  ·simp [RP.run] at h
 | mp key r jk z =>
  simp only [D] at ha
  obtain ⟨_, _, hr, hz, hcase⟩ := ha
  simp only [storeOp, RP.run] at h
  split at h
  ·rename_i k ms hk
   simp only [RP.run] at h
   split at h
   ·rename_i hj
    split at h
    ·rename_i k' c
     split at h
     ·rename_i hkk
      have e := run_ret h; subst e
      have hkk := keq_eq hkk
      subst hkk
      simp only [D] at hx
      obtain ⟨rfl, hcr⟩ := hx
      have hle : ((ms.getD r []).length : Int) ≤ z := hp.1
      have hP := hm.pools.pool key k ms hk
      have hrl : r < ms.length := by rw [← hP.cnt]; exact hr
      have hrm : ms[r]? = some (ms.getD r []) := by rw [List.getD_eq_getElem?_getD, List.getElem?_eq_getElem hrl]; rfl
      obtain ⟨a1, a2, a3, a4⟩ := hP.rowk r _ hrm
      have hone : ∀ u ∈ (Value.int k c.z).cells.toList, u.oneCell' = true := fun u hu => by simp [Value.cells] at hu; rw [hu]; rfl
      rcases hcase with ⟨rfl, hlt⟩ | ⟨rfl, hlt⟩
      ·refine ⟨rfl, w.setCells ((ρ key).pb r) ((ρ key).po r + z.toNat) [.int k c.z], ?_, hm.beyond_row hk hrm (by omega) (by omega)⟩
       refine store_run (by rw [hT.size, hsz]) (fun i hi => ?_) hone
       have := a4 (z.toNat + i) (by simp [Value.cells] at hi; omega)
       rwa [← Nat.add_assoc] at this
      ·obtain ⟨vs, s1, s2, s3, s4⟩ := hm.segs hj
       refine ⟨rfl, w.setCells (ρ jk).blk ((ρ jk).off + z.toNat) [.int k c.z], ?_, hm.beyond_blank hj (by omega)⟩
       refine store_run (by rw [hT.size, hsz]) (fun i hi => ?_) hone
       have := s4 rfl (z.toNat + i) (by simp [Value.cells] at hi; omega)
       rwa [← Nat.add_assoc] at this
     ·simp [RP.run] at h
    ·simp [RP.run] at h
   ·simp [RP.run] at h
  ·simp [RP.run] at h
 | kp key est jk z =>
  simp only [D] at ha
  obtain ⟨_, _, hz, hcase⟩ := ha
  simp only [storeOp, RP.run] at h
  split at h
  ·rename_i k n l hk
   simp only [RP.run] at h
   split at h
   ·rename_i hj
    split at h
    ·rename_i k' m ex y
     split at h
     ·rename_i hb
      have e := run_ret h; subst e
      simp only [Bool.and_eq_true] at hb
      have hm1 := Nat.eq_of_beq_eq_true hb.1
      have hm2 := Nat.eq_of_beq_eq_true hb.2
      subst hm1 hm2
      have hle : (l.length : Int) ≤ z := hp.1
      have hx0 := hx
      simp only [D] at hx
      obtain ⟨hyl, _, rfl⟩ := hx
      have hcl : (Value.agg (y.map (Value.int k')).toArray).cells.toList = y.map (Value.int k') := by simp [Value.cells]
      have hcz : (Value.agg (y.map (Value.int k')).toArray).cells.size = n := by rw [← Array.length_toList, hcl, List.length_map]; exact hyl
      have hone : ∀ u ∈ (Value.agg (y.map (Value.int k')).toArray).cells.toList, u.oneCell' = true := fun u hu => by
       rw [hcl] at hu
       obtain ⟨q, _, rfl⟩ := List.mem_map.1 hu
       rfl
      rcases Nat.eq_zero_or_pos n with hn0 | hn0
      ·have hnil : (Value.agg (y.map (Value.int k')).toArray).cells.toList = [] := List.eq_nil_of_length_eq_zero (by rw [Array.length_toList]; omega)
       rcases hcase with ⟨rfl, hlt⟩ | ⟨rfl, hlt⟩
       ·refine ⟨rfl, _, store_run (by rw [hT.size, hsz]) (fun i hi => by omega) hone, ?_⟩
        rw [hnil]; exact hm
       ·refine ⟨rfl, _, store_run (by rw [hT.size, hsz]) (fun i hi => by omega) hone, ?_⟩
        rw [hnil]; exact hm
      ·rcases hcase with ⟨rfl, hlt⟩ | ⟨rfl, hlt⟩
       ·obtain ⟨vs, s1, s2, s3, s4⟩ := hm.segs hk
        refine ⟨rfl, w.setCells (ρ key).blk ((ρ key).off + n * z.toNat) (Value.agg (y.map (Value.int k')).toArray).cells.toList, ?_, hm.beyond_own hk (by omega) fun vs hv => ?_⟩
        ·refine store_run (by rw [hT.size, hsz]) (fun i hi => ?_) hone
         have := s4 rfl (n * z.toNat + i) (by omega)
         rwa [← Nat.add_assoc] at this
        ·obtain ⟨c1, c2, ⟨q1, rfl⟩, rfl, q3⟩ := hv
         have q3 : c2 = [] := q3
         subst q3
         rw [List.append_nil, List.length_map]
         have hfl : ∀ l : List (List Int), AllA k n l → l.flatten.length = n * l.length := by
          intro l
          induction l with
          | nil => intro _; simp
          | cons a r ih =>
           intro hA
           rw [List.flatten_cons, List.length_append, (hA a (by simp)).1, ih (fun b hb => hA b (by simp [hb])), List.length_cons, Nat.mul_succ]
           omega
         rw [hfl l q1]
         exact Nat.mul_le_mul_left _ (by omega)
       ·obtain ⟨vs, s1, s2, s3, s4⟩ := hm.segs hj
        refine ⟨rfl, w.setCells (ρ jk).blk ((ρ jk).off + n * z.toNat) (Value.agg (y.map (Value.int k')).toArray).cells.toList, ?_, hm.beyond_blank hj (by omega)⟩
        refine store_run (by rw [hT.size, hsz]) (fun i hi => ?_) hone
        have := s4 rfl (n * z.toNat + i) (by omega)
        rwa [← Nat.add_assoc] at this
     ·simp [RP.run] at h
    ·simp [RP.run] at h
   ·simp [RP.run] at h
  ·simp [RP.run] at h
 | _ => simp [storeOp, RP.run] at h

end
end Go.Gx

/- New variables, addresses, parts. -/
namespace Go.Gx
open Go.RowKit
set_option linter.unusedVariables false

section
variable {P : Program} {w0 : World} {M : Nat → Prop} {ρ : Nat → Pl} {H : Nat → Option SB} {w : World}

theorem fresh_run {H : Nat → Option SB} {stamp : Nat} {l : List Seg} {v : SV} {pre : List Prop} {gen : Bool} {rs rs' : List Nat} {d : Delta} (h : (fresh stamp l v pre gen).run H rs = some (d, rs')) :
  H stamp = none ∧ d = ⟨pre, v, [(stamp, .segs false l)], gen⟩ := by
 simp only [fresh, RP.run] at h
 split at h
 ·rename_i e
  exact ⟨e, run_ret h⟩
 ·simp [RP.run] at h

theorem After.alloc (hm : Mem w0 M ρ H w) {stamp : Nat} (hn : H stamp = none) {l : List Seg} {vs : List Value} (hl : SegsD (dmOf H) ρ l vs) {cells : Array Value} {T : TypeId} {fr : Nat × Nat} {extra : List Value}
  (hc : cells.toList = vs ++ extra) (hfr : fr.1 = fr.2 ∨ cells.size ≤ fr.1) {d : Delta} (hd : d.ws = [(stamp, .segs false l)]) {v : Value}
  (hv : D (dmOf (updH H stamp (.segs false l))) (updP ρ stamp ({ blk := w.heap.size, off := 0, cap := cells.size } : Pl)) d.v v) : After w0 M ρ H d v (w.alloc (.cells cells T fr)) :=
 ⟨updP ρ stamp ({ blk := w.heap.size, off := 0, cap := cells.size } : Pl), updP_keeps hn, by rw [hd]; exact hv, by rw [hd]; exact hm.alloc hn hl hc hfr⟩

theorem dm_new (H : Nat → Option SB) (stamp : Nat) (b : SB) : dmOf (updH H stamp b) stamp := by unfold dmOf; rw [updH_same]; rfl

theorem box_sound (hm : Mem w0 M ρ H w) {stamp : Nat} {x : SV} {v : Value} (hx : D (dmOf H) ρ x v) {d : Delta} {rs rs' : List Nat} (h : (boxOp stamp x).run H rs = some (d, rs')) (T : TypeId) :
  After w0 M ρ H d (.pointer (some ⟨w.heap.size, 0, none⟩)) (w.alloc (.cells v.cells T)) := by
 unfold boxOp at h
 split at h
 ·rename_i l hl
  obtain ⟨hn, rfl⟩ := fresh_run h
  refine After.alloc hm hn (segsOf_D x l v hl hx) (extra := []) (by simp) (.inl rfl) rfl ?_
  exact ⟨dm_new _ _ _, by rw [updP_same]; rfl⟩
 ·simp [RP.run] at h

theorem alloc_run {T : TypeId} {ti : TInfo} (hT : RowOk P T ti) (w : World) : ∃ z, (Instr.alloc T true (.tuple #[])).run P w = .ok (.pointer (some ⟨w.heap.size, 0, none⟩)) (w.alloc (.cells z.cells T)) ∧
  ∀ (dm : Nat → Prop) (ρ : Nat → Pl), D dm ρ (zero ti.ty) z := by
 obtain ⟨i, z, h1, h2, h3, h4, h5⟩ := hT.info
 refine ⟨z, ?_, fun dm ρ => zeroB_D h5⟩
 simp [Instr.alloc, zeroValue, typeInfo, h1, h4, newVar, newRow]

theorem box_run (T : TypeId) (v : Value) (w : World) : (Instr.box T v).run P w = .ok (.pointer (some ⟨w.heap.size, 0, none⟩)) (w.alloc (.cells v.cells T)) := by
 simp [Instr.box, newVar, newRow]

/-! ### Addresses -/

theorem addr_add (p : Pl) (c n : Nat) : (at_ p c).add n = at_ p (c + n) := by
 unfold at_
 rw [Addr.add_mid, Nat.add_assoc]

theorem ptrAt_sound {dm : Nat → Prop} {key c est : Nat} {x : SI} {v : SV} (h : ptrAt key c est x = some v) (hk : dm key) (hx : 0 ≤ x.z) : D dm ρ v (.pointer (some (at_ (ρ key) (c + est * x.z.toNat)))) := by
 unfold ptrAt at h
 split at h
 ·simp only [Option.some.injEq] at h; subst h; exact ⟨hk, rfl⟩
 ·cases h
 ·simp only [Option.some.injEq] at h; subst h
  exact ⟨hk, hx, by simp⟩

theorem addI_z (x y : SI) : (addI x y).z = x.z + y.z := by
 unfold addI
 split
 ·simp [litI_eq]
 ·simp
 ·simp
 ·rfl

theorem subI_z (x y : SI) : (subI x y).z = x.z - y.z := by
 unfold subI
 split
 ·simp [litI_eq]
 ·simp
 ·rfl

theorem indexAddr_sound {T : TypeId} {ti : TInfo} {ty : List (Nat × TInfo)} (hT : RowOk P T ti) (hty : tabB P ty = true) {x i : SV} {vx vi : Value} (hx : D (dmOf H) ρ x vx) (hi : D (dmOf H) ρ i vi) {d : Delta} {rs rs' : List Nat}
  (h : (indexAddrOp ty ti x i).run H rs = some (d, rs')) (hp : AllP d.pre) : d.ws = [] ∧ ∃ v, (Instr.indexAt T vx vi).run P w = .ok v w ∧ D (dmOf H) ρ d.v v := by
 unfold indexAddrOp at h
 split at h
 ·rename_i key c k a n e ht
  simp only [D] at hx hi
  obtain ⟨hk, rfl⟩ := hx
  obtain ⟨rfl, ha⟩ := hi
  split at h
  ·rename_i p v hb hv
   have e' := run_ret h; subst e'
   obtain ⟨b1, b2⟩ := bound_ok hb hp
   refine ⟨rfl, _, ?_, ptrAt_sound hv hk b1⟩
   have hty' := hT.ty
   rw [ht] at hty'
   unfold tyB at hty'
   split at hty'
   ·rename_i n' T' hu
    simp only [Bool.and_eq_true] at hty'
    obtain ⟨⟨e1, e2⟩, e3⟩ := hty'
    have hn := Nat.eq_of_beq_eq_true e1
    split at e2
    ·rename_i ii hii
     have hs := Nat.eq_of_beq_eq_true e2
     have hlt : 0 ≤ a.z ∧ a.z < (n' : Int) := ⟨b1, by rw [← hn]; exact b2⟩
     simp [Instr.indexAt, asIntOf, run_underlying hu, Instr.sureAddr, sizeOf, typeInfo, hii, hs, hlt, addr_add, Nat.mul_comm]
    ·cases e2
   ·cases hty'
  ·simp [RP.run] at h
 ·rename_i key c est z j k a n e ht
  simp only [D] at hx hi
  obtain ⟨hk, hz, rfl⟩ := hx
  obtain ⟨rfl, ha⟩ := hi
  split at h
  ·rename_i p m hb
   have e' := run_ret h; subst e'
   obtain ⟨b1, b2⟩ := bound_ok hb hp
   simp only at b1 b2
   refine ⟨rfl, .pointer (some (at_ (ρ key) (c + est * z.toNat + (j + e.size * m)))), ?_, hk, hz, rfl⟩
   have hty' := hT.ty
   rw [ht] at hty'
   unfold tyB at hty'
   split at hty'
   ·rename_i n' T' hu
    simp only [Bool.and_eq_true] at hty'
    obtain ⟨⟨e1, e2⟩, e3⟩ := hty'
    have hn := Nat.eq_of_beq_eq_true e1
    split at e2
    ·rename_i ii hii
     have hs := Nat.eq_of_beq_eq_true e2
     have hlt : m < n' := by rw [← hn]; exact Int.ofNat_lt.1 b2
     simp [Instr.indexAt, asIntOf, run_underlying hu, Instr.sureAddr, sizeOf, typeInfo, hii, hs, hlt, addr_add, Nat.mul_comm, Nat.add_assoc]
    ·cases e2
   ·cases hty'
  ·simp [RP.run] at h
 ·rename_i key c est off len k a ht
  simp only [D] at hx hi
  obtain ⟨hk, ho, hl, _, ad, cap, rfl, hlc, hdis⟩ := hx
  obtain ⟨rfl, ha⟩ := hi
  split at h
  ·rename_i te hte
   split at h
   ·rename_i p v hest hb hv
    have e' := run_ret h; subst e'
    obtain ⟨b1, b2⟩ := bound_ok hb hp
    have hTe := rowB_ok (tabB_row hty hte)
    have hes := Nat.eq_of_beq_eq_true hest
    rcases hdis with ⟨rfl, hcap⟩ | ⟨h0, _⟩
    ·refine ⟨rfl, _, ?_, ptrAt_sound hv hk (by rw [addI_z]; omega)⟩
     have hty' := hT.ty
     rw [ht] at hty'
     unfold tyB at hty'
     split at hty'
     ·rename_i e hu
      have hee := hT.slice e hu
      subst hee
      have hlt : 0 ≤ a.z ∧ a.z < len.z := ⟨b1, b2⟩
      have hsz := hTe.sizeOf (w := w)
      have h3 : ∀ y, (sizeOf ti.elem).run P y = .ok est y := fun y => by rw [hTe.sizeOf, hes]
      have hmx : max len.z 0 = len.z := by omega
      simp [Instr.indexAt, asIntOf, run_underlying hu, h3, b1, addr_add, addI_z, hmx, b2]
      congr 1
      rw [Int.toNat_add ho b1, Nat.mul_add, Nat.mul_comm est a.z.toNat, Nat.add_assoc]
     ·cases hty'
    ·omega
   ·simp [RP.run] at h
  ·simp [RP.run] at h
 ·rename_i key r len k a ht
  simp only [D] at hx hi
  obtain ⟨hk, hrp, hl, _, ad, cap, rfl, hlc, hdis⟩ := hx
  obtain ⟨rfl, ha⟩ := hi
  split at h
  ·rename_i te hte
   split at h
   ·rename_i p hest hb
    have e' := run_ret h; subst e'
    obtain ⟨b1, b2⟩ := bound_ok hb hp
    have hTe := rowB_ok (tabB_row hty hte)
    have hes := Nat.eq_of_beq_eq_true hest
    rcases hdis with ⟨rfl, hcap⟩ | ⟨h0, _⟩
    ·refine ⟨rfl, .pointer (some ⟨(ρ key).pb r, (ρ key).po r + a.z.toNat, none⟩), ?_, hk, hrp, b1, rfl⟩
     have hty' := hT.ty
     rw [ht] at hty'
     unfold tyB at hty'
     split at hty'
     ·rename_i e hu
      have hee := hT.slice e hu
      subst hee
      have hlt : 0 ≤ a.z ∧ a.z < len.z := ⟨b1, b2⟩
      have h3 : ∀ y, (sizeOf ti.elem).run P y = .ok 1 y := fun y => by rw [hTe.sizeOf, hes]
      have hmx : max len.z 0 = len.z := by omega
      have hadd : ∀ n, (⟨(ρ key).pb r, (ρ key).po r, none⟩ : Addr).add n = ⟨(ρ key).pb r, (ρ key).po r + n, none⟩ := fun n => by by_cases h : n = 0 <;> simp [Addr.add, h]
      simp [Instr.indexAt, asIntOf, run_underlying hu, h3, b1, hadd, hmx, b2]
     ·cases hty'
    ·omega
   ·simp [RP.run] at h
  ·simp [RP.run] at h
 ·rename_i key r jk len k a ht
  simp only [D] at hx hi
  obtain ⟨hk, hkj, hrp, hl, _, ad, cap, rfl, hlc, hdis⟩ := hx
  obtain ⟨rfl, ha⟩ := hi
  split at h
  ·rename_i te hte
   split at h
   ·rename_i p hest hb
    have e' := run_ret h; subst e'
    obtain ⟨b1, b2⟩ := bound_ok hb hp
    have hTe := rowB_ok (tabB_row hty hte)
    have hes := Nat.eq_of_beq_eq_true hest
    have hty' := hT.ty
    rw [ht] at hty'
    unfold tyB at hty'
    split at hty'
    ·rename_i e hu
     have hee := hT.slice e hu
     subst hee
     have h3 : ∀ y, (sizeOf ti.elem).run P y = .ok 1 y := fun y => by rw [hTe.sizeOf, hes]
     have hmx : max len.z 0 = len.z := by omega
     have hadd : ∀ (b o n : Nat), (⟨b, o, none⟩ : Addr).add n = ⟨b, o + n, none⟩ := fun b o n => by by_cases h : n = 0 <;> simp [Addr.add, h]
     have run : ∀ b o : Nat, (Instr.indexAt T (.slice (some ⟨b, o, none⟩) len.z.toNat cap) (.int k a.z)).run P w = .ok (.pointer (some ⟨b, o + a.z.toNat, none⟩)) w := fun b o => by
      simp [Instr.indexAt, asIntOf, run_underlying hu, h3, b1, hadd, hmx, b2]
     rcases hdis with ⟨rfl, hcap⟩ | ⟨rfl, hcap⟩ | ⟨h0, _⟩
     ·exact ⟨rfl, _, run _ _, hk, hkj, hrp, b1, .inl ⟨rfl, by omega⟩⟩
     ·refine ⟨rfl, _, run _ _, hk, hkj, hrp, b1, .inr ⟨?_, by omega⟩⟩
      simp [at_]
     ·omega
    ·cases hty'
   ·simp [RP.run] at h
  ·simp [RP.run] at h
 ·rename_i key est jk len k a ht
  simp only [D] at hx hi
  obtain ⟨hk, hkj, hl, _, ad, cap, rfl, hlc, hdis⟩ := hx
  obtain ⟨rfl, ha⟩ := hi
  split at h
  ·rename_i te hte
   split at h
   ·rename_i p hest hb
    have e' := run_ret h; subst e'
    obtain ⟨b1, b2⟩ := bound_ok hb hp
    have hTe := rowB_ok (tabB_row hty hte)
    have hes := Nat.eq_of_beq_eq_true hest
    have hty' := hT.ty
    rw [ht] at hty'
    unfold tyB at hty'
    split at hty'
    ·rename_i e hu
     have hee := hT.slice e hu
     subst hee
     have h3 : ∀ y, (sizeOf ti.elem).run P y = .ok est y := fun y => by rw [hTe.sizeOf, hes]
     have hmx : max len.z 0 = len.z := by omega
     have hadd : ∀ (b o n : Nat), (⟨b, o, none⟩ : Addr).add n = ⟨b, o + n, none⟩ := fun b o n => by by_cases h : n = 0 <;> simp [Addr.add, h]
     have run : ∀ b o : Nat, (Instr.indexAt T (.slice (some ⟨b, o, none⟩) len.z.toNat cap) (.int k a.z)).run P w = .ok (.pointer (some ⟨b, o + est * a.z.toNat, none⟩)) w := fun b o => by
      simp [Instr.indexAt, asIntOf, run_underlying hu, h3, b1, hadd, hmx, b2, Nat.mul_comm]
     have hle : est * a.z.toNat + est ≤ est * cap := by
      rw [← Nat.mul_succ]
      exact Nat.mul_le_mul_left _ (by omega)
     rcases hdis with ⟨rfl, hcap⟩ | ⟨rfl, hcap⟩ | ⟨h0, _⟩
     ·refine ⟨rfl, _, run _ _, hk, hkj, b1, .inl ⟨?_, by omega⟩⟩
      simp [at_]
     ·refine ⟨rfl, _, run _ _, hk, hkj, b1, .inr ⟨?_, by omega⟩⟩
      simp [at_]
     ·omega
    ·cases hty'
   ·simp [RP.run] at h
  ·simp [RP.run] at h
 ·rename_i key len k a ht
  simp only [D] at hx hi
  obtain ⟨hk, hl, _, ad, cap, rfl, hlc⟩ := hx
  obtain ⟨rfl, ha⟩ := hi
  split at h
  ·rename_i te hte
   split at h
   ·rename_i p hest hb
    have e' := run_ret h; subst e'
    obtain ⟨b1, b2⟩ := bound_ok hb hp
    have hTe := rowB_ok (tabB_row hty hte)
    have hes := Nat.eq_of_beq_eq_true hest
    have hlt : 0 ≤ a.z ∧ a.z < len.z := ⟨b1, b2⟩
    have hpos : 0 < len.z := by omega
    have had := hlc hpos
    subst had
    refine ⟨rfl, .pointer (some ⟨(ρ key).blk, (ρ key).off + a.z.toNat, none⟩), ?_, hk, b1, rfl⟩
    have hty' := hT.ty
    rw [ht] at hty'
    unfold tyB at hty'
    split at hty'
    ·rename_i e hu
     have hee := hT.slice e hu
     subst hee
     have h3 : ∀ y, (sizeOf ti.elem).run P y = .ok 1 y := fun y => by rw [hTe.sizeOf, hes]
     have hmx : max len.z 0 = len.z := by omega
     have hadd : ∀ n, (⟨(ρ key).blk, (ρ key).off, none⟩ : Addr).add n = ⟨(ρ key).blk, (ρ key).off + n, none⟩ := fun n => by by_cases h : n = 0 <;> simp [Addr.add, h]
     simp [Instr.indexAt, asIntOf, run_underlying hu, h3, b1, hadd, hmx, b2]
    ·cases hty'
   ·simp [RP.run] at h
  ·simp [RP.run] at h
 ·rename_i key i len k a ht
  simp only [D] at hx hi
  obtain ⟨hk, hl, _, ad, cap, rfl, hlc⟩ := hx
  obtain ⟨rfl, ha⟩ := hi
  split at h
  ·rename_i te hte
   split at h
   ·rename_i p hest hb
    have e' := run_ret h; subst e'
    obtain ⟨b1, b2⟩ := bound_ok hb hp
    have hTe := rowB_ok (tabB_row hty hte)
    have hes := Nat.eq_of_beq_eq_true hest
    have hlt : 0 ≤ a.z ∧ a.z < len.z := ⟨b1, b2⟩
    have hpos : 0 < len.z := by omega
    have had := hlc hpos
    subst had
    refine ⟨rfl, .pointer (some ⟨(ρ key).hb i, (ρ key).ho i + a.z.toNat, none⟩), ?_, hk, b1, rfl⟩
    have hty' := hT.ty
    rw [ht] at hty'
    unfold tyB at hty'
    split at hty'
    ·rename_i e hu
     have hee := hT.slice e hu
     subst hee
     have h3 : ∀ y, (sizeOf ti.elem).run P y = .ok 1 y := fun y => by rw [hTe.sizeOf, hes]
     have hmx : max len.z 0 = len.z := by omega
     have hadd : ∀ n, (⟨(ρ key).hb i, (ρ key).ho i, none⟩ : Addr).add n = ⟨(ρ key).hb i, (ρ key).ho i + n, none⟩ := fun n => by by_cases h : n = 0 <;> simp [Addr.add, h]
     simp [Instr.indexAt, asIntOf, run_underlying hu, h3, b1, hadd, hmx, b2]
    ·cases hty'
   ·simp [RP.run] at h
  ·simp [RP.run] at h
 ·rename_i key sh dd k a ht
  simp only [D] at hx hi
  obtain ⟨hk, hrel, hF, ad, cap, rfl, hlc, hl63, hdis⟩ := hx
  obtain ⟨rfl, ha⟩ := hi
  split at h
  ·rename_i te hte
   split at h
   ·rename_i hest
    have e' := run_ret h; subst e'
    obtain ⟨b1, b2⟩ := hp.1
    have hTe := rowB_ok (tabB_row hty hte)
    have hes := Nat.eq_of_beq_eq_true hest
    rcases hdis with ⟨b, o, rfl⟩ | ⟨h0, _⟩
    ·refine ⟨rfl, .pointer (some ⟨b, o + (shEl sh * a.z.toNat + 0), none⟩), ?_, hk, b1, b2, b, o, _, _, hrel, rfl⟩
     have hty' := hT.ty
     rw [ht] at hty'
     unfold tyB at hty'
     split at hty'
     ·rename_i e hu
      have hee := hT.slice e hu
      subst hee
      have hlt : 0 ≤ a.z ∧ a.z < (roLen sh dd : Int) := ⟨b1, b2⟩
      have h3 : ∀ y, (sizeOf ti.elem).run P y = .ok (shEl sh) y := fun y => by rw [hTe.sizeOf, hes]
      have hadd : ∀ n, (⟨b, o, none⟩ : Addr).add n = ⟨b, o + n, none⟩ := fun n => by by_cases h : n = 0 <;> simp [Addr.add, h]
      simp [Instr.indexAt, asIntOf, run_underlying hu, h3, b1, b2, hadd, Nat.mul_comm]
     ·cases hty'
    ·omega
   ·simp [RP.run] at h
  ·simp [RP.run] at h
 ·rename_i key sh dd xx j k a n e ht
  simp only [D] at hx hi
  obtain ⟨hk, h0, hlt0, b, o, n0, cap, hrel, rfl⟩ := hx
  obtain ⟨rfl, ha⟩ := hi
  split at h
  ·rename_i p m hb
   have e' := run_ret h; subst e'
   obtain ⟨b1, b2⟩ := bound_ok hb hp
   simp only at b1 b2
   refine ⟨rfl, .pointer (some ⟨b, o + (shEl sh * xx.toNat + (j + e.size * m)), none⟩), ?_, hk, h0, hlt0, b, o, n0, cap, hrel, rfl⟩
   have hty' := hT.ty
   rw [ht] at hty'
   unfold tyB at hty'
   split at hty'
   ·rename_i n' T' hu
    simp only [Bool.and_eq_true] at hty'
    obtain ⟨⟨e1, e2⟩, e3⟩ := hty'
    have hn := Nat.eq_of_beq_eq_true e1
    split at e2
    ·rename_i ii hii
     have hs := Nat.eq_of_beq_eq_true e2
     have hlt : m < n' := by rw [← hn]; exact Int.ofNat_lt.1 b2
     have hadd : ∀ m n, (⟨b, m, none⟩ : Addr).add n = ⟨b, m + n, none⟩ := fun m n => by by_cases h : n = 0 <;> simp [Addr.add, h]
     simp [Instr.indexAt, asIntOf, run_underlying hu, Instr.sureAddr, sizeOf, typeInfo, hii, hs, hlt, hadd, Nat.mul_comm, Nat.add_assoc]
    ·cases e2
   ·cases hty'
  ·simp [RP.run] at h
 ·simp [RP.run] at h

theorem fieldAddr_sound {T : TypeId} {ti : TInfo} (hT : RowOk P T ti) {x : SV} {vx : Value} (hx : D (dmOf H) ρ x vx) {f : Nat} {d : Delta} {rs rs' : List Nat}
  (h : (fieldAddrOp ti x f).run H rs = some (d, rs')) : d.ws = [] ∧ ∃ v, (Instr.fieldAt T vx f).run P w = .ok v w ∧ D (dmOf H) ρ d.v v := by
 have key : ∀ (fs : List Ty) (fl : List Field) (off f : Nat), fieldsB P fs off fl = true → f < fs.length → ∃ g i, fl[f]? = some g ∧ g.offset = off + fieldOff fs f ∧ P.info? g.type = some i ∧ i.size ≠ 0 := by
  intro fs
  induction fs with
  | nil => intro fl off f _ hf; simp at hf
  | cons t r ih =>
   intro fl off f hB hf
   cases fl with
   | nil => simp [fieldsB] at hB
   | cons g gr =>
    simp only [fieldsB, Bool.and_eq_true] at hB
    obtain ⟨⟨⟨h1, h2⟩, h3⟩, h4⟩ := hB
    cases f with
    | zero =>
     split at h2
     ·rename_i i hi
      simp only [Bool.and_eq_true] at h2
      refine ⟨g, i, rfl, by simp [fieldOff, Nat.eq_of_beq_eq_true h1], hi, ?_⟩
      have e1 := Nat.eq_of_beq_eq_true h2.1
      have e2 := h2.2
      simp [Nat.blt] at e2; omega
     ·cases h2
    | succ f =>
     obtain ⟨g', i, a1, a2, a3, a4⟩ := ih gr (off + t.size) f h4 (by simpa using hf)
     exact ⟨g', i, by simpa using a1, by rw [a2]; simp [fieldOff]; omega, a3, a4⟩
 unfold fieldAddrOp at h
 split at h
 ·rename_i k c fs ht
  simp only [D] at hx
  obtain ⟨hk, rfl⟩ := hx
  split at h
  ·rename_i hlt
   have e := run_ret h; subst e
   have hf : f < fs.length := by simp [Nat.blt] at hlt; omega
   have hty' := hT.ty
   rw [ht] at hty'
   unfold tyB at hty'
   split at hty'
   ·rename_i fl hu
    obtain ⟨g, i, a1, a2, a3, a4⟩ := key fs fl.toList 0 f hty' hf
    have a1' : fl[f]? = some g := by rw [← Array.getElem?_toList]; exact a1
    refine ⟨rfl, .pointer (some (at_ (ρ k) (c + fieldOff fs f))), ?_, hk, rfl⟩
    simp [Instr.fieldAt, run_underlying hu, a1', Instr.sureAddr, fieldPlace, sizeOf, typeInfo, a3, a4, a2, addr_add]
   ·cases hty'
  ·simp [RP.run] at h
 ·rename_i k c est xx j fs ht
  simp only [D] at hx
  obtain ⟨hk, h0, rfl⟩ := hx
  split at h
  ·rename_i hlt
   have e := run_ret h; subst e
   have hf : f < fs.length := by simp [Nat.blt] at hlt; omega
   have hty' := hT.ty
   rw [ht] at hty'
   unfold tyB at hty'
   split at hty'
   ·rename_i fl hu
    obtain ⟨g, i, a1, a2, a3, a4⟩ := key fs fl.toList 0 f hty' hf
    have a1' : fl[f]? = some g := by rw [← Array.getElem?_toList]; exact a1
    refine ⟨rfl, .pointer (some (at_ (ρ k) (c + est * xx.toNat + (j + fieldOff fs f)))), ?_, hk, h0, rfl⟩
    simp [Instr.fieldAt, run_underlying hu, a1', Instr.sureAddr, fieldPlace, sizeOf, typeInfo, a3, a4, a2, addr_add, Nat.add_assoc]
   ·cases hty'
  ·simp [RP.run] at h
 ·rename_i k sh dd xx j fs ht
  simp only [D] at hx
  obtain ⟨hk, h0, hlt0, b, o, n, cap, hrel, rfl⟩ := hx
  split at h
  ·rename_i hlt
   have e := run_ret h; subst e
   have hf : f < fs.length := by simp [Nat.blt] at hlt; omega
   have hty' := hT.ty
   rw [ht] at hty'
   unfold tyB at hty'
   split at hty'
   ·rename_i fl hu
    obtain ⟨g, i, a1, a2, a3, a4⟩ := key fs fl.toList 0 f hty' hf
    have a1' : fl[f]? = some g := by rw [← Array.getElem?_toList]; exact a1
    have hadd : ∀ m n, (⟨b, m, none⟩ : Addr).add n = ⟨b, m + n, none⟩ := fun m n => by by_cases h : n = 0 <;> simp [Addr.add, h]
    refine ⟨rfl, .pointer (some ⟨b, o + (shEl sh * xx.toNat + (j + fieldOff fs f)), none⟩), ?_, hk, h0, hlt0, b, o, n, cap, hrel, rfl⟩
    simp [Instr.fieldAt, run_underlying hu, a1', Instr.sureAddr, fieldPlace, sizeOf, typeInfo, a3, a4, a2, hadd, Nat.add_assoc]
   ·cases hty'
  ·simp [RP.run] at h
 ·rename_i k r xx fs ht
  simp only [D] at hx
  obtain ⟨hk, hr, h0, rfl⟩ := hx
  split at h
  ·rename_i hlt
   have e := run_ret h; subst e
   simp only [Bool.and_eq_true] at hlt
   have hf : f < fs.length := by have := hlt.1; simp [Nat.blt] at this; omega
   have hz := Nat.eq_of_beq_eq_true hlt.2
   have hty' := hT.ty
   rw [ht] at hty'
   unfold tyB at hty'
   split at hty'
   ·rename_i fl hu
    obtain ⟨g, i, a1, a2, a3, a4⟩ := key fs fl.toList 0 f hty' hf
    have a1' : fl[f]? = some g := by rw [← Array.getElem?_toList]; exact a1
    rw [hz] at a2
    refine ⟨rfl, _, ?_, hk, hr, h0, rfl⟩
    simp [Instr.fieldAt, run_underlying hu, a1', Instr.sureAddr, fieldPlace, sizeOf, typeInfo, a3, a4, a2, Addr.add]
   ·cases hty'
  ·simp [RP.run] at h
 ·simp [RP.run] at h

theorem boxLoad_sound {T : TypeId} {ti : TInfo} (hT : RowOk P T ti) (hm : Mem w0 M ρ H w) {stamp : Nat} {a : SV} {va : Value} (ha : D (dmOf H) ρ a va) {d : Delta} {rs rs' : List Nat}
  (h : (boxLoad stamp ti a).run H rs = some (d, rs')) (hp : AllP d.pre) : ∃ v w', (Instr.loadAt T va).run P w = .ok v w' ∧ After w0 M ρ H d v w' := by
 have old : ∀ {rs0 : List Nat}, (loadOp ti a).run H rs0 = some (d, rs') → ∃ v w', (Instr.loadAt T va).run P w = .ok v w' ∧ After w0 M ρ H d v w' := fun h => by
  obtain ⟨h1, v, h2, h3⟩ := load_sound hT hm ha h hp
  exact ⟨v, w, h2, ρ, .refl _ _, by rw [h1]; exact h3, by rw [h1]; exact hm⟩
 unfold boxLoad at h
 split at h
 ·rename_i key r x
  simp only [RP.run] at h
  split at h
  ·rename_i k v ms hk
   split at h
   ·rename_i hts
    simp only [RP.run] at h
    split at h
    ·rename_i hn
     have e := run_ret h; subst e
     have hlt := hp.1
     simp only [D] at ha
     obtain ⟨_, hr, _, rfl⟩ := ha
     have hP := hm.pools.pool key _ ms hk
     have hrl : r < ms.length := by rw [← hP.cnt]; exact hr
     obtain ⟨p, a, cap, hcell, hle, hcase, hm'⟩ := hm.box_see hk hrl hn
     have hd : D (dmOf (updH (updH H key (.pool (.b k (some (stamp, r))) ms)) stamp (.boxv key))) (updP ρ stamp p) (.sl stamp 0 1 ⟨true, 0⟩ ⟨false, ((ms.getD r []).length : Int)⟩) (.slice a (ms.getD r []).length cap) := by
      simp only [D]
      refine ⟨dm_new _ _ _, Int.le_refl _, by omega, by simp only [InR]; omega, a, cap, by simp, by simpa using hle, ?_⟩
      rw [updP_same]
      rcases hcase with ⟨rfl, rfl⟩ | ⟨h1, h2⟩
      ·exact .inl ⟨by simp [at_], by simp⟩
      ·exact .inr ⟨by rw [h1]; rfl, h2⟩
     have hro : w.rangeAt ((ρ key).pb r) ((ρ key).po r) [.slice a (ms.getD r []).length cap] := fun j u hj => by
      have : j = 0 := by have := (List.getElem?_eq_some_iff.1 hj).1; simp at this; omega
      subst this
      simp at hj; subst hj
      exact hcell
     have e1 : ti.ty.size = 1 := by rw [hts]; rfl
     obtain ⟨u, q1, q2⟩ := load_run hT hro (c := 0) ⟨_, hd, by rw [e1]; simp [Value.cells], by rw [e1]; simp, (fun hh => by rw [hts] at hh; cases hh), fun _ => by simp [Value.cells]⟩
     exact ⟨u, w, q1, updP ρ stamp p, updP_keeps hn, q2, hm'⟩
    ·simp [RP.run] at h
   ·simp [RP.run] at h
  ·exact old h
 ·exact old h

end
end Go.Gx

/- Parts by value, slices, literals, make, conversions of numbers. -/
namespace Go.Gx
open Go.RowKit
set_option linter.unusedVariables false

section
variable {P : Program} {w0 : World} {M : Nat → Prop} {ρ : Nat → Pl} {H : Nat → Option SB} {w : World}

theorem isAgg_run {P : Program} {T : TypeId} {d : TypeDesc} (h : P.underlying T = some d) (w : World) : (isAgg T).run P w = .ok d.isRow w := by
 unfold isAgg
 rw [Sem.run_bind, run_underlying h w]
 cases d <;> rfl

theorem index_sound {T : TypeId} {ti : TInfo} (hT : RowOk P T ti) {x i : SV} {vx vi : Value} (hx : D (dmOf H) ρ x vx) (hi : D (dmOf H) ρ i vi) {d : Delta} {rs rs' : List Nat}
  (h : (indexOp ti x i).run H rs = some (d, rs')) (hp : AllP d.pre) : d.ws = [] ∧ ∃ v, (Instr.index T vx vi).run P w = .ok v w ∧ D (dmOf H) ρ d.v v := by
 unfold indexOp at h
 split at h
 ·rename_i k m ex l k' a n k2 ht
  simp only [D] at hx hi
  obtain ⟨h1, h2, rfl⟩ := hx
  obtain ⟨rfl, ha⟩ := hi
  split at h
  ·rename_i p hnm hb
   have hnm' := Nat.eq_of_beq_eq_true hnm
   have hty' := hT.ty
   rw [ht] at hty'
   unfold tyB at hty'
   split at hty'
   ·rename_i n' T' hu
    simp only [Bool.and_eq_true] at hty'
    obtain ⟨⟨e1, e2⟩, e3⟩ := hty'
    have hn := Nat.eq_of_beq_eq_true e1
    split at e2
    ·rename_i ii hii
     have hs : ii.size = 1 := Nat.eq_of_beq_eq_true e2
     obtain ⟨dd, hdd, hrow⟩ := tyB_row e3
     have hagg : (isAgg T').run P w = .ok false w := by rw [isAgg_run hdd w, hrow]; rfl
     have main : ∀ z : Int, 0 ≤ z → z < (n : Int) → (Instr.index T (.agg (l.map (Value.int k)).toArray) (.int k' z)).run P w = .ok (.int k (l.getD z.toNat 0)) w := fun z h0 h3 => by
      have hz : z.toNat < l.length := by omega
      have hlt : 0 ≤ z ∧ z < (n' : Int) := ⟨h0, by omega⟩
      simp [Instr.index, asIntOf, run_underlying hu, hlt, sizeOf, typeInfo, hii, hs, part, hagg, hz, List.getD]
     have hin : ∀ z : Int, 0 ≤ z → z < (n : Int) → InR k (l.getD z.toNat 0) := fun z h0 h3 => by
      have hz : z.toNat < l.length := by omega
      have : l.getD z.toNat 0 = l[z.toNat] := by simp [List.getD, hz]
      rw [this]; exact h2.at hz
     split at h
     ·rename_i j
      split at h
      ·rename_i z hz
       have e := run_ret h; subst e
       obtain ⟨b1, b2⟩ := bound_ok hb hp
       simp only at b1 b2
       have hj : j < l.length := by have : (j : Int) < (n : Int) := b2; omega
       have hzz := getI_some hz hj
       refine ⟨rfl, _, main _ b1 b2, ?_⟩
       have : l.getD (Int.toNat (Int.ofNat j)) 0 = z := by simp [List.getD, hj, hzz]
       rw [this]
       exact ⟨rfl, by rw [hzz]; exact h2.at hj⟩
      ·simp [RP.run] at h
     ·simp [RP.run] at h
     ·rename_i z
      have e := run_ret h; subst e
      obtain ⟨b1, b2⟩ := bound_ok hb hp
      exact ⟨rfl, _, main z b1 b2, rfl, hin z b1 b2⟩
    ·cases e2
   ·cases hty'
  ·simp [RP.run] at h
 ·rename_i v k a ht
  simp only [D] at hx hi
  obtain ⟨rfl, _⟩ := hx
  obtain ⟨rfl, ha⟩ := hi
  have e := run_ret h; subst e
  obtain ⟨b1, b2⟩ := hp.1
  have hty' := hT.ty
  rw [ht] at hty'
  unfold tyB at hty'
  split at hty'
  ·rename_i hu
   have hz : a.z.toNat < v.size := by omega
   have hz' : a.z.toNat < v.data.size := hz
   have hget : v[a.z.toNat]? = some (v.data[a.z.toNat]) := by
    rw [getElem?_pos v a.z.toNat hz]; rfl
   refine ⟨rfl, .int .u8 (v.data[a.z.toNat].toNat), ?_, ?_, ?_⟩
   ·simp [Instr.index, asIntOf, run_underlying hu, b1, hget]
   ·have : v.data.getD a.z.toNat 0 = v.data[a.z.toNat] := by unfold Array.getD; exact dif_pos hz'
    rw [this]
   ·have := UInt8.toNat_lt (v.data.getD a.z.toNat 0)
    show 0 ≤ ((v.data.getD a.z.toNat 0).toNat : Int) ∧ ((v.data.getD a.z.toNat 0).toNat : Int) < 256
    omega
  ·cases hty'
 ·simp [RP.run] at h

theorem extract_sound {x v : SV} {vx : Value} {n : Nat} {xs : List SV} (hx : D (dmOf H) ρ (.tup xs) vx) (hn : nth xs n = some v) : ∃ u, (Instr.extract vx n).run P w = .ok u w ∧ D (dmOf H) ρ v u := by
 simp only [D] at hx
 obtain ⟨vs, h1, rfl⟩ := hx
 have key : ∀ (xs : List SV) (vs : List Value) (n : Nat), Ds (dmOf H) ρ xs vs → nth xs n = some v → ∃ u, vs[n]? = some u ∧ D (dmOf H) ρ v u := by
  intro xs
  induction xs with
  | nil => intro vs n _ h; simp [nth] at h
  | cons y r ih =>
   intro vs n hd h
   simp only [Ds] at hd
   obtain ⟨u, c, a1, rfl, a3⟩ := hd
   cases n with
   | zero => simp only [nth, Option.some.injEq] at h; subst h; exact ⟨u, rfl, a1⟩
   | succ n =>
    simp only [nth] at h
    obtain ⟨u', b1, b2⟩ := ih c n a3 h
    exact ⟨u', by simpa using b1, b2⟩
 obtain ⟨u, h2, h3⟩ := key xs vs n h1 hn
 exact ⟨u, by simp [Instr.extract, h2], h3⟩

theorem len_sound {T : TypeId} {ti : TInfo} (hT : RowOk P T ti) {x : SV} {vx : Value} (hx : D (dmOf H) ρ x vx) {d : Delta} {rs rs' : List Nat}
  (h : (lenOp ti x).run H rs = some (d, rs')) (ty : TypeId) (ats : Array TypeId) (ha : ats[0]? = some T) : d.ws = [] ∧ ∃ v, (Builtin.len_ ats ty #[vx]).run P w = .ok v w ∧ D (dmOf H) ρ d.v v := by
 unfold lenOp at h
 split at h
 ·rename_i a hl
  have e := run_ret h; subst e
  have hty' := hT.ty
  unfold lenOf at hl
  split at hl
  ·rename_i len ht
   simp only [Option.some.injEq] at hl; subst hl
   simp only [D] at hx
   obtain ⟨_, _, h2, h3, ad, cap, rfl, _⟩ := hx
   rw [ht] at hty'
   unfold tyB at hty'
   split at hty'
   ·rename_i e hu
    refine ⟨rfl, .int .i64 len.z, ?_, rfl, h3⟩
    have : max len.z 0 = len.z := by omega
    simp [Builtin.len_, ha, run_underlying hu, goInt, this]
   ·cases hty'
  ·rename_i ht
   simp only [Option.some.injEq] at hl; subst hl
   simp only [D] at hx
   subst hx
   rw [ht] at hty'
   unfold tyB at hty'
   split at hty'
   ·rename_i e hu
    exact ⟨rfl, .int .i64 0, by simp [Builtin.len_, ha, run_underlying hu, goInt], rfl, by simp [InR]⟩
   ·cases hty'
  ·rename_i _ sh dd ht
   simp only [Option.some.injEq] at hl; subst hl
   simp only [D] at hx
   obtain ⟨_, _, _, ad, cap, rfl, _, h3, _⟩ := hx
   rw [ht] at hty'
   unfold tyB at hty'
   split at hty'
   ·rename_i e hu
    exact ⟨rfl, .int .i64 (roLen sh dd : Int), by simp [Builtin.len_, ha, run_underlying hu, goInt], rfl, by simp only [InR]; omega⟩
   ·cases hty'
  ·rename_i _ _ len ht
   simp only [Option.some.injEq] at hl; subst hl
   simp only [D] at hx
   obtain ⟨_, _, h2, h3, ad, cap, rfl, _⟩ := hx
   rw [ht] at hty'
   unfold tyB at hty'
   split at hty'
   ·rename_i e hu
    refine ⟨rfl, .int .i64 len.z, ?_, rfl, h3⟩
    have : max len.z 0 = len.z := by omega
    simp [Builtin.len_, ha, run_underlying hu, goInt, this]
   ·cases hty'
  ·rename_i _ _ _ len ht
   simp only [Option.some.injEq] at hl; subst hl
   simp only [D] at hx
   obtain ⟨_, _, _, h2, h3, ad, cap, rfl, _⟩ := hx
   rw [ht] at hty'
   unfold tyB at hty'
   split at hty'
   ·rename_i e hu
    refine ⟨rfl, .int .i64 len.z, ?_, rfl, h3⟩
    have : max len.z 0 = len.z := by omega
    simp [Builtin.len_, ha, run_underlying hu, goInt, this]
   ·cases hty'
  ·rename_i _ _ _ len ht
   simp only [Option.some.injEq] at hl; subst hl
   simp only [D] at hx
   obtain ⟨_, _, h2, h3, ad, cap, rfl, _⟩ := hx
   rw [ht] at hty'
   unfold tyB at hty'
   split at hty'
   ·rename_i e hu
    refine ⟨rfl, .int .i64 len.z, ?_, rfl, h3⟩
    have : max len.z 0 = len.z := by omega
    simp [Builtin.len_, ha, run_underlying hu, goInt, this]
   ·cases hty'
  ·rename_i _ len ht
   simp only [Option.some.injEq] at hl; subst hl
   simp only [D] at hx
   obtain ⟨_, h2, h3, ad, cap, rfl, _⟩ := hx
   rw [ht] at hty'
   unfold tyB at hty'
   split at hty'
   ·rename_i e hu
    refine ⟨rfl, .int .i64 len.z, ?_, rfl, h3⟩
    have : max len.z 0 = len.z := by omega
    simp [Builtin.len_, ha, run_underlying hu, goInt, this]
   ·cases hty'
  ·rename_i _ _ len ht
   simp only [Option.some.injEq] at hl; subst hl
   simp only [D] at hx
   obtain ⟨_, h2, h3, ad, cap, rfl, _⟩ := hx
   rw [ht] at hty'
   unfold tyB at hty'
   split at hty'
   ·rename_i e hu
    refine ⟨rfl, .int .i64 len.z, ?_, rfl, h3⟩
    have : max len.z 0 = len.z := by omega
    simp [Builtin.len_, ha, run_underlying hu, goInt, this]
   ·cases hty'
  ·rename_i v ht
   simp only [Option.some.injEq] at hl; subst hl
   simp only [D] at hx
   obtain ⟨rfl, hb⟩ := hx
   rw [ht] at hty'
   unfold tyB at hty'
   split at hty'
   ·rename_i hu
    exact ⟨rfl, .int .i64 v.size, by simp [Builtin.len_, ha, run_underlying hu, goInt], rfl, by simp only [InR]; omega⟩
   ·cases hty'
  ·rename_i n e ht
   split at hl
   ·rename_i hn
    simp only [Option.some.injEq] at hl; subst hl
    rw [ht] at hty'
    unfold tyB at hty'
    split at hty'
    ·rename_i n' T' hu
     simp only [Bool.and_eq_true] at hty'
     have hnn := Nat.eq_of_beq_eq_true hty'.1.1
     have hlt := Nat.le_of_ble_eq_true hn
     refine ⟨rfl, .int .i64 n, ?_, rfl, by simp only [InR]; omega⟩
     have hval : (Builtin.len_ ats ty #[vx]).run P w = .ok (goInt n') w := by
      cases vx <;> simp [Builtin.len_, ha, run_underlying hu]
     rw [hval, ← hnn]; rfl
    ·cases hty'
   ·cases hl
  ·cases hl
 ·simp [RP.run] at h

theorem sliceBounds_run {P : Program} {w : World} (b : Bool) (len cap : Nat) (l h : SI) (lo hi : Option Value) (hl : (lo = none ∧ l.z = 0) ∨ ∃ k, lo = some (.int k l.z)) (hh : (hi = none ∧ h.z = len) ∨ ∃ k, hi = some (.int k h.z))
  (h0 : 0 ≤ l.z) (h1 : l.z ≤ h.z) (h2 : h.z ≤ cap) : (Instr.sliceBounds b len cap lo hi none).run P w = .ok (l.z.toNat, h.z.toNat, cap) w := by
 have hb : ∀ (k : IntKind) (z : Int) (y : Nat) (c : BoundsCode), 0 ≤ z → z ≤ y → (Instr.sliceBound (.int k z) y c).run P w = .ok z.toNat w := fun k z y c a1 a2 => by
  simp [Instr.sliceBound, asIntOf, a1, a2]
 have e1 : l.z ≤ ((h.z.toNat : Nat) : Int) := by omega
 unfold Instr.sliceBounds
 rcases hl with ⟨rfl, e⟩ | ⟨k, rfl⟩ <;> rcases hh with ⟨rfl, e'⟩ | ⟨k', rfl⟩
 ·simp [e, e']
 ·simp [e, hb k' h.z cap _ (by omega) h2]
 ·have := hb k l.z len .sliceB h0 (by omega)
  simp [e', this]
 ·simp [hb k' h.z cap _ (by omega) h2, hb k l.z h.z.toNat .sliceB h0 e1]

end
end Go.Gx
