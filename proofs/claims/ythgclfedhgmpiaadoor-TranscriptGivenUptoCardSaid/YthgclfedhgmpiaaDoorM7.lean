/- Part 7 of the proof: the evaluator of the code, its soundness, and what it shows of the functions. -/
import Derived.Test.YthgclfedhgmpiaaDoorM6
import Derived.Test.YthgclfedhgmpiaaDoorM2

/- The plays: one turn of each loop. -/
namespace Go.Gx
open Go.Proofs Go.Sp
set_option linter.unusedVariables false
set_option maxRecDepth 100000
namespace TranscriptPlays

theorem r0 (a b c d : RO) : roN (.r [a, b, c, d]) 0 = a := rfl
theorem r2 (a b c d : RO) : roN (.r [a, b, c, d]) 2 = c := rfl
theorem r3 (a b c d : RO) : roN (.r [a, b, c, d]) 3 = d := rfl
theorem rs (s : ByteArray) : roS (.s s) = s := rfl
def mk (S : List (List Int)) : List (List Int) := S.map fun s => s ++ [1]
end TranscriptPlays
end Go.Gx

/- Frozen data of the call's own: a store that grows. -/
namespace Go.Gx
open Go.RowKit
set_option linter.unusedVariables false

def addP (p q : Pl) (w : World) : Pl :=
  { blk := p.blk, off := p.off, cap := p.cap, pn := p.pn + q.pn, pb := fun i => if i < p.pn then p.pb i else q.pb (i - p.pn), po := fun i => if i < p.pn then p.po i else q.po (i - p.pn), pc := fun i => if i < p.pn then p.pc i else q.pc (i - p.pn),
    rel := RoD w fun b => Zp p b ∨ Zp q b, hb := p.hb, ho := p.ho, wv := p.wv }

theorem addP_lo {p q : Pl} {w : World} {i : Nat} (h : i < p.pn) : (addP p q w).pb i = p.pb i ∧ (addP p q w).po i = p.po i ∧ (addP p q w).pc i = p.pc i := by simp [addP, h]
theorem addP_hi (p q : Pl) (w : World) (i : Nat) : (addP p q w).pb (p.pn + i) = q.pb i ∧ (addP p q w).po (p.pn + i) = q.po i ∧ (addP p q w).pc (p.pn + i) = q.pc i := by
 have h : ¬ p.pn + i < p.pn := by omega
 simp [addP, h]
theorem addP_z {p q : Pl} {w : World} : Zp (addP p q w) = fun b => Zp p b ∨ Zp q b := by
 funext b
 refine propext ⟨fun ⟨i, hi, hc, e⟩ => ?_, fun h => ?_⟩
 ·by_cases h : i < p.pn
  ·obtain ⟨a1, _, a3⟩ := addP_lo (q := q) (w := w) h
   rw [a3] at hc
   exact .inl ⟨i, h, hc, by rw [e, a1]⟩
  ·obtain ⟨j, rfl⟩ : ∃ j, i = p.pn + j := ⟨i - p.pn, by omega⟩
   obtain ⟨a1, _, a3⟩ := addP_hi p q w j
   rw [a3] at hc
   have hi : p.pn + j < p.pn + q.pn := hi
   exact .inr ⟨j, by omega, hc, by rw [e, a1]⟩
 ·rcases h with ⟨i, hi, hc, e⟩ | ⟨i, hi, hc, e⟩
  ·obtain ⟨a1, _, a3⟩ := addP_lo (q := q) (w := w) hi
   exact ⟨i, by show i < p.pn + q.pn; omega, by rw [a3]; exact hc, by rw [a1]; exact e⟩
  ·obtain ⟨a1, _, a3⟩ := addP_hi p q w i
   exact ⟨p.pn + i, by show p.pn + i < p.pn + q.pn; omega, by rw [a3]; exact hc, by rw [a1]; exact e⟩
theorem addP_le {p q : Pl} {w : World} (h : FzD w p) : PlLe p (addP p q w) := by
 refine ⟨rfl, rfl, rfl, fun sh d v hr => ?_, fun _ => ⟨w, _, rfl⟩, Nat.le_add_right _ _, fun r hr => (addP_lo hr).1, fun r hr => (addP_lo hr).2.1, fun r hr => (addP_lo hr).2.2, rfl, rfl, rfl⟩
 obtain ⟨wF, h1, h2⟩ := h
 rw [h1] at hr
 show RoD w _ sh d v
 exact RoD.mono (fun b hb => ⟨.inl hb, h2 b hb⟩) sh d v hr
theorem addP_fz {p q : Pl} {w : World} : FzD w (addP p q w) := ⟨w, by rw [addP_z]; rfl, fun _ _ => rfl⟩

section
variable {w0 : World} {M : Nat → Prop} {ρ : Nat → Pl} {H : Nat → Option SB} {w : World}

theorem Mem.store_new (h : Mem w0 M ρ H w) {key : Nat} (hn : H key = none) :
  Mem w0 M (updP ρ key ({ blk := 0, off := 0, cap := 0, rel := RoD w fun _ => False } : Pl)) (updH H key (.pool .z [])) w := by
 have hkp := updP_keeps (ρ := ρ) (p := ({ blk := 0, off := 0, cap := 0, rel := RoD w fun _ => False } : Pl)) hn
 have hx1 : ∀ k' ro l, updH H key (.pool .z []) k' = some (.segs ro l) → k' ≠ key ∧ H k' = some (.segs ro l) := fun k' ro l h1 => by
  by_cases e : k' = key
  ·subst e; rw [updH_same] at h1; cases h1
  ·rw [updH_ne e] at h1; exact ⟨e, h1⟩
 have hx2 : ∀ k' kd ms', updH H key (.pool .z []) k' = some (.pool kd ms') → (k' = key ∧ kd = .z ∧ ms' = []) ∨ (k' ≠ key ∧ H k' = some (.pool kd ms')) := fun k' kd ms' h1 => by
  by_cases e : k' = key
  ·subst e; rw [updH_same] at h1; simp only [Option.some.injEq, SB.pool.injEq] at h1; exact .inl ⟨rfl, h1.1.symm, h1.2.symm⟩
  ·rw [updH_ne e] at h1; exact .inr ⟨e, h1⟩
 refine ⟨⟨fun k' b hb => ?_, fun k1 k2 ro ro' l1 l2 h1 h2 hkk hro c1 c2 => ?_, fun k' ro l1 h1 c1 => ?_⟩, h.frame, fun k' l1 h1 c1 => ?_, view_up h.view (by simp), fun k' l1 h1 c1 => ?_, ?_⟩
 ·by_cases e : k' = key
  ·subst e; rw [updH_same] at hb; simp only [Option.some.injEq] at hb; subst hb; trivial
  ·rw [updH_ne e] at hb
   exact (h.heap.blk k' b hb).of_block (dm_updH _ _ _) hkp (updP_ne e) (fun _ _ _ _ => rfl)
 ·obtain ⟨n1, e1⟩ := hx1 _ _ _ h1
  obtain ⟨n2, e2⟩ := hx1 _ _ _ h2
  rw [updP_ne n1] at c1 ⊢; rw [updP_ne n2] at c2 ⊢
  exact h.heap.sep k1 k2 ro ro' l1 l2 e1 e2 hkk hro c1 c2
 ·obtain ⟨n1, e1⟩ := hx1 _ _ _ h1
  rw [updP_ne n1] at c1 ⊢; exact h.heap.lt k' ro l1 e1 c1
 ·obtain ⟨n1, e1⟩ := hx1 _ _ _ h1
  rw [updP_ne n1] at c1 ⊢; exact h.own k' l1 e1 c1
 ·obtain ⟨n1, e1⟩ := hx1 _ _ _ h1
  rw [updP_ne n1] at c1 ⊢; exact h.clean k' l1 e1 c1
 ·refine ⟨fun k' kd ms' hk' => ?_, fun k1 kd ms1 k2 ro l i c h1 h2 c1 hi hc1 => ?_, fun k1 kd1 ms1 k2 kd2 ms2 i j c h1 h2 hkk hi hj c1 c2 => ?_, fun k' kb q r' ms' hk' => ?_⟩
  rotate_left 3
  ·rcases hx2 _ _ _ hk' with ⟨rfl, e, rfl⟩ | ⟨hne, e⟩
   ·cases e
   ·obtain ⟨v1, v2, v3, v4⟩ := h.pools.view k' kb q r' ms' e
    rw [updP_ne hne]
    exact ⟨dm_updH _ _ _ _ v1, v2, v3, v4.step rfl (hkp q v1)⟩
  ·rcases hx2 k' kd ms' hk' with ⟨rfl, rfl, rfl⟩ | ⟨hne, e⟩
   ·rw [updP_same]
    refine ⟨rfl, fun i m hi => by simp at hi, fun i c hi => absurd hi (by simp), fun i c hi => absurd hi (by simp), fun i c hi => absurd hi (by simp), fun i j c hi => absurd hi (by simp), fun i hi => absurd hi (by simp), fun _ => ⟨w, ?_, fun _ _ => rfl⟩, (fun e => by cases e), (fun e => by cases e)⟩
    show RoD w _ = RoD w _
    congr 1
    funext b
    exact propext ⟨fun h => h.elim, fun ⟨i, hi, _⟩ => absurd hi (Nat.not_lt_zero i)⟩
   ·exact (h.pools.pool k' kd ms' e).step (updP_ne hne) (Nat.le_refl _) (fun _ _ _ _ h => h) (fun _ _ _ _ => rfl)
  ·obtain ⟨n2, e2⟩ := hx1 _ _ _ h2
   rcases hx2 _ _ _ h1 with ⟨rfl, rfl, rfl⟩ | ⟨hne, e⟩
   ·exact absurd hi (by simp)
   ·rw [updP_ne n2] at c1 ⊢; rw [updP_ne hne] at hc1
    exact h.pools.apartD k1 kd ms1 k2 ro l i c e e2 c1 hi hc1
  ·rcases hx2 _ _ _ h1 with ⟨rfl, rfl, rfl⟩ | ⟨hne1, e1⟩
   ·exact absurd hi (by simp)
   ·rcases hx2 _ _ _ h2 with ⟨rfl, rfl, rfl⟩ | ⟨hne2, e2⟩
    ·exact absurd hj (by simp)
    ·rw [updP_ne hne1] at c1; rw [updP_ne hne2] at c2
     exact h.pools.twoD k1 kd1 ms1 k2 kd2 ms2 i j c e1 e2 hkk hi hj c1 c2

theorem Mem.store_join (h : Mem w0 M ρ H w) {H' : Nat → Option SB} {F : Nat} {zs : List (List Int)} (hF : H F = some (.pool .z zs)) (q : Pl)
  (hq : ∀ i, i < q.pn → 0 < q.pc i → q.pb i < w.heap.size ∧ (w0.heap.size ≤ q.pb i ∨ M (q.pb i)) ∧ Clean w (q.pb i)) (hth : ∀ i, i < q.pn → w.there (q.pb i) (q.po i) (q.pc i))
  (hqs : ∀ i j, i < q.pn → j < q.pn → 0 < q.pc i → 0 < q.pc j → q.pb i = q.pb j → i = j) (hqF : ∀ i j, i < q.pn → 0 < q.pc i → j < zs.length → OwnB w (ρ F) .z j (q.pb i) → False)
  (hH : ∀ k, k ≠ F → H' k = H k ∨ ((H k).isSome = true ∧ H' k = some .gone)) (hHF : H' F = some (.pool .z (zs ++ List.replicate q.pn [])))
  (hqS : ∀ k ro l i, H' k = some (.segs ro l) → 0 < (ρ k).cap → i < q.pn → 0 < q.pc i → (ρ k).blk ≠ q.pb i)
  (hqP : ∀ k kd ms i j, k ≠ F → H' k = some (.pool kd ms) → i < q.pn → 0 < q.pc i → j < ms.length → OwnB w (ρ k) kd j (q.pb i) → False) :
  Mem w0 M (updP ρ F (addP (ρ F) q w)) H' w ∧ (∀ a, PlLe (ρ a) (updP ρ F (addP (ρ F) q w) a)) := by
 have hP := h.pools.pool F _ zs hF
 have hfz := hP.fzD rfl
 have hle : ∀ a, PlLe (ρ a) (updP ρ F (addP (ρ F) q w) a) := fun a => by
  by_cases e : a = F
  ·subst e; rw [updP_same]; exact addP_le hfz
  ·exact .of_eq (updP_ne e)
 have hdm : ∀ a, dmOf H a → dmOf H' a := fun a ha => by
  by_cases e : a = F
  ·subst e; unfold dmOf; rw [hHF]; rfl
  ·rcases hH a e with e1 | ⟨_, e1⟩
   ·unfold dmOf at ha ⊢; rw [e1]; exact ha
   ·unfold dmOf; rw [e1]; rfl
 have hx1 : ∀ k ro l, H' k = some (.segs ro l) → k ≠ F ∧ H k = some (.segs ro l) := fun k ro l h1 => by
  have n : k ≠ F := fun e => by subst e; rw [hHF] at h1; cases h1
  rcases hH k n with e1 | ⟨_, e1⟩
  ·rw [e1] at h1; exact ⟨n, h1⟩
  ·rw [e1] at h1; cases h1
 have hx2 : ∀ k kd ms, H' k = some (.pool kd ms) → (k = F ∧ kd = .z ∧ ms = zs ++ List.replicate q.pn []) ∨ (k ≠ F ∧ H k = some (.pool kd ms)) := fun k kd ms h1 => by
  by_cases n : k = F
  ·subst n; rw [hHF] at h1; simp only [Option.some.injEq, SB.pool.injEq] at h1; exact .inl ⟨rfl, h1.1.symm, h1.2.symm⟩
  ·rcases hH k n with e1 | ⟨_, e1⟩
   ·rw [e1] at h1; exact .inr ⟨n, h1⟩
   ·rw [e1] at h1; cases h1
 have hlen : (zs ++ List.replicate q.pn ([] : List Int)).length = zs.length + q.pn := by simp
 -- a block of the store: an old one, or a new one
 have hO : ∀ i c, i < zs.length + q.pn → OwnB w (addP (ρ F) q w) .z i c → (i < zs.length ∧ OwnB w (ρ F) .z i c) ∨ (∃ j, i = zs.length + j ∧ j < q.pn ∧ 0 < q.pc j ∧ c = q.pb j) := fun i c hi ho => by
  obtain ⟨h0, rfl⟩ := ho.plain rfl
  by_cases e : i < zs.length
  ·obtain ⟨a1, _, a3⟩ := addP_lo (p := ρ F) (q := q) (w := w) (i := i) (by rw [hP.cnt]; exact e)
   rw [a3] at h0
   rw [a1]
   exact .inl ⟨e, .pb h0⟩
  ·obtain ⟨j, rfl⟩ : ∃ j, i = zs.length + j := ⟨i - zs.length, by omega⟩
   obtain ⟨a1, _, a3⟩ := addP_hi (ρ F) q w j
   rw [hP.cnt] at a1 a3
   rw [a3] at h0
   rw [a1]
   exact .inr ⟨j, rfl, by omega, h0, rfl⟩
 refine ⟨⟨⟨fun k b hb => ?_, fun k1 k2 ro ro' l1 l2 h1 h2 hkk hro c1 c2 => ?_, fun k ro l1 h1 c1 => ?_⟩, h.frame, fun k l1 h1 c1 => ?_, fun k hk => ?_, fun k l1 h1 c1 => ?_, ?_⟩, hle⟩
 ·by_cases e : k = F
  ·subst e; rw [hHF] at hb; simp only [Option.some.injEq] at hb; subst hb; trivial
  ·rcases hH k e with e1 | ⟨_, e1⟩
   ·rw [e1] at hb
    exact (h.heap.blk k b hb).of_block hdm (fun a _ => hle a) (updP_ne e) (fun _ _ _ _ => rfl)
   ·rw [e1] at hb; simp only [Option.some.injEq] at hb; subst hb; trivial
 ·obtain ⟨n1, e1⟩ := hx1 _ _ _ h1
  obtain ⟨n2, e2⟩ := hx1 _ _ _ h2
  rw [updP_ne n1] at c1 ⊢; rw [updP_ne n2] at c2 ⊢
  exact h.heap.sep k1 k2 ro ro' l1 l2 e1 e2 hkk hro c1 c2
 ·obtain ⟨n1, e1⟩ := hx1 _ _ _ h1
  rw [updP_ne n1] at c1 ⊢; exact h.heap.lt k ro l1 e1 c1
 ·obtain ⟨n1, e1⟩ := hx1 _ _ _ h1
  rw [updP_ne n1] at c1 ⊢; exact h.own k l1 e1 c1
 ·have n : k ≠ F := fun e => by subst e; rw [hHF] at hk; cases hk
  rcases hH k n with e1 | ⟨_, e1⟩
  ·rw [e1] at hk; rw [updP_ne n]; exact h.view k hk
  ·rw [e1] at hk; cases hk
 ·obtain ⟨n1, e1⟩ := hx1 _ _ _ h1
  rw [updP_ne n1] at c1 ⊢; exact h.clean k l1 e1 c1
 ·refine ⟨fun k kd ms hk => ?_, fun k1 kd ms1 k2 ro l i c h1 h2 c1 hi hc1 => ?_, fun k1 kd1 ms1 k2 kd2 ms2 i j c h1 h2 hkk hi hj c1 c2 => ?_, fun k kb b r ms hk => ?_⟩
  ·rcases hx2 k kd ms hk with ⟨rfl, rfl, rfl⟩ | ⟨n, e⟩
   ·rw [updP_same]
    refine ⟨by rw [hlen]; show (ρ k).pn + q.pn = _; rw [hP.cnt], fun i m hi => ?_, fun i c hi ho => ?_, fun i c hi ho => ?_, fun i c hi ho => ?_, fun i j c hi hj ho ho' => ?_, (fun i _ _ e => by cases e), fun _ => addP_fz, (fun e => by cases e), (fun e => by cases e)⟩
    ·have hil := (List.getElem?_eq_some_iff.1 hi).1
     by_cases e : i < zs.length
     ·rw [List.getElem?_append_left e] at hi
      obtain ⟨a1, a2, a3⟩ := addP_lo (p := ρ k) (q := q) (w := w) (i := i) (by rw [hP.cnt]; exact e)
      rw [a1, a2, a3]
      exact hP.rowD i m hi
     ·obtain ⟨j, rfl⟩ : ∃ j, i = zs.length + j := ⟨i - zs.length, by omega⟩
      rw [hlen] at hil
      rw [List.getElem?_append_right (by omega), List.getElem?_replicate] at hi
      split at hi
      ·simp only [Option.some.injEq] at hi
       subst hi
       obtain ⟨a1, a2, a3⟩ := addP_hi (ρ k) q w j
       rw [hP.cnt] at a1 a2 a3
       rw [a1, a2, a3]
       exact ⟨[], ⟨rfl, rfl⟩, Nat.zero_le _, rangeAt_nil' _ _ _, hth j (by omega)⟩
      ·cases hi
    ·rw [hlen] at hi
     rcases hO i c hi ho with ⟨a, b⟩ | ⟨j, _, hj, hc, rfl⟩
     ·exact hP.ltD i c a b
     ·exact (hq j hj hc).1
    ·rw [hlen] at hi
     rcases hO i c hi ho with ⟨a, b⟩ | ⟨j, _, hj, hc, rfl⟩
     ·exact hP.ownD i c a b
     ·exact (hq j hj hc).2.1
    ·rw [hlen] at hi
     rcases hO i c hi ho with ⟨a, b⟩ | ⟨j, _, hj, hc, rfl⟩
     ·exact hP.cleanD i c a b
     ·exact (hq j hj hc).2.2
    ·rw [hlen] at hi hj
     rcases hO i c hi ho with ⟨a, b⟩ | ⟨i', rfl, hi', hc, rfl⟩
     ·rcases hO j c hj ho' with ⟨a', b'⟩ | ⟨j', rfl, hj', hc', rfl⟩
      ·exact hP.sepD i j c a a' b b'
      ·exact (hqF j' i hj' hc' a b).elim
     ·rcases hO j _ hj ho' with ⟨a', b'⟩ | ⟨j', rfl, hj', hc', e⟩
      ·exact (hqF i' j hi' hc a' b').elim
      ·rw [hqs i' j' hi' hj' hc hc' e]
   ·rw [updP_ne n]; exact h.pools.pool k kd ms e
  ·obtain ⟨n2, e2⟩ := hx1 _ _ _ h2
   rw [updP_ne n2] at c1 ⊢
   rcases hx2 k1 kd ms1 h1 with ⟨rfl, rfl, rfl⟩ | ⟨n, e⟩
   ·rw [updP_same] at hc1
    rw [hlen] at hi
    rcases hO i c hi hc1 with ⟨a, b⟩ | ⟨j, _, hj, hc, rfl⟩
    ·exact h.pools.apartD k1 _ zs k2 ro l i c hF e2 c1 a b
    ·exact hqS k2 ro l j h2 c1 hj hc
   ·rw [updP_ne n] at hc1
    exact h.pools.apartD k1 kd ms1 k2 ro l i c e e2 c1 hi hc1
  ·rcases hx2 k1 kd1 ms1 h1 with ⟨rfl, rfl, rfl⟩ | ⟨n1, e1⟩
   ·rcases hx2 k2 kd2 ms2 h2 with ⟨rfl, rfl, rfl⟩ | ⟨n2, e2⟩
    ·exact absurd rfl hkk
    ·rw [updP_same] at c1; rw [updP_ne n2] at c2
     rw [hlen] at hi
     rcases hO i c hi c1 with ⟨a, b⟩ | ⟨j', _, hj', hc, rfl⟩
     ·exact h.pools.twoD k1 _ zs k2 kd2 ms2 i j c hF e2 hkk a hj b c2
     ·exact hqP k2 kd2 ms2 j' j n2 h2 hj' hc hj c2
   ·rw [updP_ne n1] at c1
    rcases hx2 k2 kd2 ms2 h2 with ⟨rfl, rfl, rfl⟩ | ⟨n2, e2⟩
    ·rw [updP_same] at c2
     rw [hlen] at hj
     rcases hO j c hj c2 with ⟨a, b⟩ | ⟨j', _, hj', hc, rfl⟩
     ·exact h.pools.twoD k1 kd1 ms1 k2 _ zs i j c e1 hF hkk hi a c1 b
     ·exact hqP k1 kd1 ms1 j' i n1 h1 hj' hc hi c1
    ·rw [updP_ne n2] at c2
     exact h.pools.twoD k1 kd1 ms1 k2 kd2 ms2 i j c e1 e2 hkk hi hj c1 c2
  ·rcases hx2 k _ ms hk with ⟨_, e, _⟩ | ⟨n, e⟩
   ·cases e
   ·obtain ⟨v1, v2, v3, v4⟩ := h.pools.view k kb b r ms e
    rw [updP_ne n]
    exact ⟨hdm b v1, v2, v3, v4.step rfl (hle b)⟩

end
end Go.Gx

/- A list of rows that a call has answered, frozen: its blocks join a store. -/
namespace Go.Gx
open Go.RowKit
set_option linter.unusedVariables false

def famP (p q : Pl) : Pl :=
 { blk := 0, off := 0, cap := 0, pn := q.pn + 1, pb := fun i => if i = 0 then p.blk else q.pb (i - 1), po := fun i => if i = 0 then p.off else q.po (i - 1), pc := fun i => if i = 0 then p.cap else q.pc (i - 1) }

theorem famP_s (p q : Pl) (i : Nat) : (famP p q).pb (i + 1) = q.pb i ∧ (famP p q).po (i + 1) = q.po i ∧ (famP p q).pc (i + 1) = q.pc i := by simp [famP]

structure Frozen (w w' : World) (q : Pl) : Prop where
 new : ∀ i, i < q.pn → 0 < q.pc i → w.heap.size ≤ q.pb i ∧ q.pb i < w'.heap.size ∧ Clean w' (q.pb i)
 there : ∀ i, i < q.pn → w'.there (q.pb i) (q.po i) (q.pc i)
 sep : ∀ i j, i < q.pn → j < q.pn → 0 < q.pc i → 0 < q.pc j → q.pb i = q.pb j → i = j

theorem chain_same {w : World} {Out : Nat → Prop} {k : IntKind} : ∀ (xs ys : List RO) (cs : List Value), xs.map roL = ys.map roL → ChainR (RoD w Out (.ints k)) xs cs → ChainR (RoD w Out (.ints k)) ys cs
 | [], [], cs, _, h => h
 | [], _ :: _, cs, e, _ => by simp at e
 | _ :: _, [], cs, e, _ => by simp at e
 | x :: r, y :: t, cs, e, h => by
  simp only [List.map_cons, List.cons.injEq] at e
  obtain ⟨v, c, h1, h2, h3⟩ := h
  refine ⟨v, c, ?_, h2, chain_same r t c e.2 h3⟩
  simp only [RoD] at h1 ⊢
  rw [← e.1]; exact h1

theorem roD_same {w : World} {Out : Nat → Prop} {k : IntKind} {d1 d2 : RO} {v : Value} (e : (roX d1).map roL = (roX d2).map roL) (h : RoD w Out (.l (.ints k)) d1 v) : RoD w Out (.l (.ints k)) d2 v := by
 have hl : (roX d1).length = (roX d2).length := by have := congrArg List.length e; simpa using this
 simp only [RoD] at h ⊢
 obtain ⟨a, cap, cs, h1, h2, h3, h4, h5⟩ := h
 rw [hl] at h1 h2 h3 h5
 exact ⟨a, cap, cs, h1, h2, h3, chain_same _ _ _ e h4, h5⟩

section
variable {P : Program} {Γ : Tab}

theorem ps_roZ {w0 w : World} {M : Nat → Prop} {ρ : Nat → Pl} {H : Nat → Option SB} {k : IntKind} {key r : Nat} {ms : List (List Int)} (hP : PoolD w0 M w (ρ key) (.k k) ms) {Out : Nat → Prop} (hO : ∀ i, i < (ρ key).pn → 0 < (ρ key).pc i → Out ((ρ key).pb i)) {len : SI} {v : Value} (hx : D (dmOf H) ρ (.ps key r len) v)
  (hle : len.z ≤ ((ms.getD r []).length : Int)) : RoD w Out (.ints k) (.l ((ms.getD r []).take len.z.toNat)) v := by
 simp only [D] at hx
 obtain ⟨hk, hrp, hl, hr, ad, cap, rfl, hlc, hdis⟩ := hx
 have hrl : r < ms.length := by rw [← hP.cnt]; exact hrp
 have hrm : ms[r]? = some (ms.getD r []) := by rw [List.getD_eq_getElem?_getD, List.getElem?_eq_getElem hrl]; rfl
 obtain ⟨a1, a2, a3, a4⟩ := hP.rowk r _ hrm
 have hll : ((ms.getD r []).take len.z.toNat).length = len.z.toNat := by rw [List.length_take]; omega
 simp only [RoD, InR] at hr ⊢
 have er : roL (.l ((ms.getD r []).take len.z.toNat)) = (ms.getD r []).take len.z.toNat := rfl
 rw [er, hll]
 refine ⟨ad, cap, rfl, hlc, by omega, fun z hz => a1 z (List.mem_of_mem_take hz), ?_⟩
 rcases hdis with ⟨rfl, hcap⟩ | ⟨q1, q2⟩
 ·rcases Nat.eq_zero_or_pos cap with h0 | h0
  ·exact .inr ⟨by omega, h0⟩
  ·refine .inl ⟨_, _, rfl, hO r hrp (by omega), fun j u hu => ?_⟩
   rw [List.map_take, List.getElem?_take] at hu
   split at hu
   ·exact a3 j u hu
   ·cases hu
 ·exact .inr ⟨by omega, q2⟩

theorem hdrs_chainZ {w0 w : World} {M : Nat → Prop} {ρ : Nat → Pl} {H : Nat → Option SB} {k : IntKind} {pk : Nat} {ms : List (List Int)} (hP : PoolD w0 M w (ρ pk) (.k k) ms) {Out : Nat → Prop} (hO : ∀ i, i < (ρ pk).pn → 0 < (ρ pk).pc i → Out ((ρ pk).pb i)) :
  ∀ (hs : List (Nat × Nat)) (cs : List Value), HdrsD (dmOf H) ρ pk hs cs → (∀ h ∈ hs, h.2 ≤ (ms.getD h.1 []).length) → ChainR (RoD w Out (.ints k)) (hs.map fun h => .l ((ms.getD h.1 []).take h.2)) cs
 | [], cs, h, _ => h
 | x :: t, cs, h, hl => by
  obtain ⟨v, c, h1, rfl, h3⟩ := h
  refine ⟨v, c, ?_, ?_, hdrs_chainZ hP hO t c h3 fun y hy => hl y (by simp [hy])⟩
  ·have := ps_roZ hP hO h1 (by have := hl x (by simp); simp only; omega)
   simpa using this
  ·rw [(single_cell rfl h1).2]; rfl

theorem fam_frozen {w w' : World} {ρ' : Nat → Pl} {H' : Nat → Option SB} (hr : Mem w (fun _ => False) ρ' H' w') {k : IntKind} {a : Option (Nat × Nat)} {hs : Hdrs} {rows : List (List Int)} {v : Value} (h1 : HdrAt H' ρ' a hs v) (h2 : PoolAt k H' (poolOf a none) rows)
  (hl : ∀ h ∈ hs, h.2 ≤ (rows.getD h.1 []).length) :
  ∃ q : Pl, q.pn = rows.length + 1 ∧ Frozen w w' q ∧ ∀ Out : Nat → Prop, (∀ b, Zp q b → Out b) → RoD w' Out (.l (.ints k)) (.r (hs.map fun h => .l ((rows.getD h.1 []).take h.2))) v := by
 cases a with
 | none =>
  obtain ⟨rfl, rfl⟩ := h1
  have h2 : rows = [] := h2
  subst h2
  have h0 : ∀ i, i < (famP noPl noPl).pn → (famP noPl noPl).pc i = 0 := fun i hi => by
   have : i = 0 := by have hi : i < 0 + 1 := hi; omega
   subst this; rfl
  refine ⟨famP noPl noPl, rfl, ⟨fun i hi hc => by rw [h0 i hi] at hc; omega, fun i hi => by rw [h0 i hi]; exact there_zero _ _ _, fun i j hi _ hc => by rw [h0 i hi] at hc; omega⟩, fun Out _ => ?_⟩
  simp only [RoD]
  exact ⟨none, 0, [], rfl, by simp [roX], by simp [roX], rfl, .inr ⟨by simp [roX], rfl⟩⟩
 | some x =>
  obtain ⟨kH, pk⟩ := x
  obtain ⟨_, hH, hD⟩ := h1
  obtain ⟨_, hpk⟩ : 1000 ≤ pk ∧ H' pk = some (.pool k rows) := h2
  have hP := hr.pools.pool pk _ rows hpk
  obtain ⟨vs, s1, s2, s3, s4⟩ := hr.segs hH
  obtain ⟨c1, c2, ⟨_, e1⟩, rfl, e3⟩ := s1
  have e4 : c2 = [] := e3
  subst e4
  simp only [List.append_nil] at s2 s3
  have hpn : (famP (ρ' kH) (ρ' pk)).pn = rows.length + 1 := by show (ρ' pk).pn + 1 = _; rw [hP.cnt]
  refine ⟨famP (ρ' kH) (ρ' pk), hpn, ⟨fun i hi hc => ?_, fun i hi => ?_, fun i j hi hj hc hc' e => ?_⟩, fun Out hO => ?_⟩
  ·cases i with
   | zero =>
    have hc : 0 < (ρ' kH).cap := hc
    exact ⟨(hr.own kH _ hH hc).resolve_right id, hr.heap.lt kH false _ hH hc, hr.clean kH _ hH hc⟩
   | succ i =>
    obtain ⟨q1, q2, q3⟩ := famP_s (ρ' kH) (ρ' pk) i
    rw [q3] at hc
    rw [q1]
    have hi' : i < rows.length := by rw [hpn] at hi; omega
    exact ⟨(hP.own i hi' hc).resolve_right id, hP.lt i hi' hc, hP.clean i hi' hc⟩
  ·cases i with
   | zero => exact s4 rfl
   | succ i =>
    obtain ⟨q1, q2, q3⟩ := famP_s (ρ' kH) (ρ' pk) i
    have hi' : i < rows.length := by rw [hpn] at hi; omega
    rw [q1, q2, q3]
    exact (hP.rowk i _ (List.getElem?_eq_getElem hi')).2.2.2
  ·cases i with
   | zero =>
    cases j with
    | zero => rfl
    | succ j =>
     obtain ⟨q1, q2, q3⟩ := famP_s (ρ' kH) (ρ' pk) j
     rw [q3] at hc'
     rw [q1] at e
     have hj' : j < rows.length := by rw [hpn] at hj; omega
     exact absurd e (hr.pools.apart pk _ rows kH false _ j hpk hH hc hj' hc')
   | succ i =>
    obtain ⟨q1, q2, q3⟩ := famP_s (ρ' kH) (ρ' pk) i
    rw [q3] at hc
    rw [q1] at e
    have hi' : i < rows.length := by rw [hpn] at hi; omega
    cases j with
    | zero => exact absurd e.symm (hr.pools.apart pk _ rows kH false _ i hpk hH hc' hi' hc)
    | succ j =>
     obtain ⟨t1, t2, t3⟩ := famP_s (ρ' kH) (ρ' pk) j
     rw [t3] at hc'
     rw [t1] at e
     have hj' : j < rows.length := by rw [hpn] at hj; omega
     rw [hP.sep i j hi' hj' hc hc' e]
  ·have hOp : ∀ i, i < (ρ' pk).pn → 0 < (ρ' pk).pc i → Out ((ρ' pk).pb i) := fun i hi hc => by
    obtain ⟨q1, q2, q3⟩ := famP_s (ρ' kH) (ρ' pk) i
    exact hO _ ⟨i + 1, by show i + 1 < (ρ' pk).pn + 1; omega, by rw [q3]; exact hc, q1.symm⟩
   simp only [D] at hD
   obtain ⟨_, _, _, hr0, ad, cap, rfl, hlc, hdis⟩ := hD
   have er : ∀ l, roX (.r l) = l := fun _ => rfl
   simp only [RoD, InR] at hr0 ⊢
   rw [er, List.length_map]
   refine ⟨ad, cap, c1, by simp, by simpa using hlc, by simpa using hr0.2, hdrs_chainZ hP hOp hs c1 e1 hl, ?_⟩
   rcases hdis with ⟨rfl, hcap⟩ | ⟨q1, q2⟩
   ·rcases Nat.eq_zero_or_pos cap with h0 | h0
    ·exact .inr ⟨by simp at hlc; omega, h0⟩
    ·refine .inl ⟨(ρ' kH).blk, (ρ' kH).off, by simp [at_], hO _ ⟨0, by rw [hpn]; omega, ?_, rfl⟩, s3⟩
     show 0 < (ρ' kH).cap
     simp at hcap; omega
   ·exact .inr ⟨by simpa using q1, q2⟩

def copK (d : RO) (hs : Hdrs) (rows : List (List Int)) : Prop :=
 hs.map (fun h => (rows.getD h.1 []).take h.2) = (roX d).map roL ∧ (∀ h ∈ hs, h.2 ≤ (rows.getD h.1 []).length) ∧ rows.length = (roX d).length

def copP (d : RO) : List Prop := [((roX d).length : Int) * 24 ≤ 70368744177664, ∀ i, i < (roX d).length → ((roL (roN d i)).length : Int) ≤ 70368744177664]

def copCtr (F : Nat) : Ctr := fun stamp args => getA [] [.d (.l (.ints .u8))] args fun p avs => match avs with
 | [.d (.l (.ints .u8)) d] => .get F fun b => (match b with
  | some (.pool .z zs) => .ret ⟨p ++ copP d, .ro F (.l (.ints .u8)) d, [(F, .pool .z (zs ++ List.replicate ((roX d).length + 1) []))], true⟩
  | _ => .fail)
 | _ => .fail

theorem call_copied {F : Nat} (hΓ : TabOk P Γ) (hgl : Γ.gl = keysOf Γ.gh) (hlow : ∀ g ∈ keysOf Γ.gh, g < 490) {f : FuncId} {fn : Func} (hf : P.funcs[f]? = some fn) (hn : (fn.name == "runtime.NumGoroutine") = false) (hb : fn.body.isNone = false) (hnt : 1 ≤ fn.ntmps)
  (h : ∀ d, AllP (copP d) → RoF (.l (.ints .u8)) d → ∃ L inv, VcX (fun x h' => kvH1 .u8 x h' fun hs rows => copK d hs rows) Γ fn L (Γ.gh ++ [(490, .world)]) [.ro 490 (.l (.ints .u8)) d] inv) :
  CallOk P Γ.gh f (copCtr F) := by
 intro stamp args H rs rs' d0 vs w0 M ρ w hG hc hp hD hm
 unfold copCtr at hc
 have hks : ownKeys [.d (.l (.ints .u8))] args = [] := onlyRO_keys _ args rfl
 have hB : BanOk w0 M ρ H w [] (fun _ => False) := ⟨fun _ _ _ _ _ _ h => h, fun _ _ _ h => h, fun _ _ _ _ _ _ _ _ _ _ h => h⟩
 obtain ⟨p, avs, rs1, hrun, hAs⟩ := getA_sound P hm hB _ args vs _ d0 rs rs' hD hc
 rw [hks] at hAs
 split at hrun
 ·rename_i d
  simp only [RP.run] at hrun
  split at hrun
  ·rename_i zs hF
   have e := run_ret hrun
   subst e
   obtain ⟨hp1, hp2⟩ := AllP.append (l := p) (r := copP d) hp
   have hA := hAs hp1
   have hfa := (AsD.fact hm _ vs [] hA).1
   obtain ⟨L, inv, o3⟩ := h d hp2 hfa
   obtain ⟨ρ1, m1, m2, m3, m4, m5⟩ := gen_mem (h6 := []) hG hgl hlow hm (ks := []) (fun k hk => by cases hk) List.nodup_nil (M' := fun _ => False) (fun b => ⟨fun h => h.elim, fun ⟨k, hk, _⟩ => by cases hk⟩) (fun k b hb => by cases hb) (fun i hi => absurd hi (by simp))
   have hargs := okA_args m3 m4 _ vs [] 600 [.ro 490 (.l (.ints .u8)) d] [] hA ⟨rfl, trivial⟩ (fun i hi => absurd hi (by simp))
   refine .inr ⟨f, _, GoFn.run ⟨fn, hf, hn, hb⟩ _ _, (vcX_calls hΓ hf o3 (by simpa using hnt) m2 m1 hargs).mono fun e w' he => ?_⟩
   obtain ⟨x, v, h', ρ', rfl, r1, r2, r3, r4⟩ := he
   obtain ⟨a, hs, rows, ⟨u1, u2, u3⟩, t1, t2⟩ := kvH1_sound r2 r1
   refine ⟨_, rfl, ?_⟩
   obtain ⟨q, q1, q2, q3⟩ := fam_frozen r3 t1 t2 u2
   have hMem : Mem w0 M ρ H w' := by
    refine Mem.import hm r3 (im := fun _ => none) (fun j _ => ⟨rfl, fun _ => rfl⟩) (fun j c hj => by cases hj) (fun j hj => by cases hj) (fun j j' c h1 => by cases h1) (fun j hj => ⟨hj, .refl _⟩) (fun b hb => hb.elim) (fun _ _ _ _ _ _ h => h) (fun _ _ _ _ _ _ _ _ _ h => h)
   have hlt : ∀ k kd ms i c, H k = some (.pool kd ms) → i < ms.length → OwnB w' (ρ k) kd i c → c < w.heap.size := fun k kd ms i c hk hi ho => by
    have hP := hm.pools.pool k kd ms hk
    exact hP.ltD i c hi (ho.of_block fun h0 => r3.frame.block _ (hP.lt i hi h0) id)
   have hbnd : ∀ i, i < q.pn → 0 < q.pc i → w.heap.size ≤ q.pb i := fun i hi hc => (q2.new i hi hc).1
   obtain ⟨k1, k2⟩ := hMem.store_join (H' := updH H F (.pool .z (zs ++ List.replicate q.pn []))) hF q
    (fun i hi hc => ⟨(q2.new i hi hc).2.1, .inl (Nat.le_trans hm.frame.size (hbnd i hi hc)), (q2.new i hi hc).2.2⟩) q2.there q2.sep
    (fun i j hi hc hj ho => by have := hlt F _ zs j _ hF hj ho; have := hbnd i hi hc; omega)
    (fun k hk => .inl (updH_ne hk)) (updH_same _ _ _)
    (fun k ro l i hk hc hi hc' e => by
     have n : k ≠ F := fun e => by subst e; rw [updH_same] at hk; cases hk
     rw [updH_ne n] at hk
     have := hm.heap.lt k ro l hk hc
     have := hbnd i hi hc'
     omega)
    (fun k kd ms i j n hk hi hc hj ho => by
     rw [updH_ne n] at hk
     have := hlt k kd ms j _ hk hj ho
     have := hbnd i hi hc
     omega)
   refine ⟨_, fun k _ => k2 k, ?_, ?_⟩
   ·have hro := roD_same (d2 := d) (by rw [show roX (.r (hs.map fun h => .l ((rows.getD h.1 []).take h.2))) = hs.map fun h => .l ((rows.getD h.1 []).take h.2) from rfl, List.map_map]; exact u1) (q3 (fun b => Zp (ρ F) b ∨ Zp q b) fun b hb => .inr hb)
    have hro2 := hro
    simp only [RoD] at hro2
    obtain ⟨ad, cap, cs, b1, b2, b3, b4, b5⟩ := hro2
    refine ⟨dm_new _ _ _, by rw [updP_same]; exact hro, hfa, ad, cap, b1, b2, b3, ?_⟩
    rcases b5 with ⟨b, o, e, _⟩ | b5
    ·exact .inl ⟨b, o, e⟩
    ·exact .inr b5
   ·show Mem w0 M _ (updH H F (.pool .z (zs ++ List.replicate ((roX d).length + 1) []))) w'
    rw [← u3, ← q1]
    exact k1
  ·simp [RP.run] at hrun
 ·simp [RP.run] at hrun

end
end Go.Gx

/- A call that opens blocks, rows and stores of the caller's: what it begins with. -/
namespace Go.Gx
open Go.RowKit
set_option linter.unusedVariables false

def OwnM (H : Nat → Option SB) (ρ : Nat → Pl) (w : World) (k b : Nat) : Prop :=
 ((∃ l, H k = some (.segs false l)) ∧ 0 < (ρ k).cap ∧ b = (ρ k).blk) ∨ ∃ kd ms j, H k = some (.pool kd ms) ∧ j < ms.length ∧ OwnB w (ρ k) kd j b

theorem OwnM.old {w0 : World} {M : Nat → Prop} {ρ : Nat → Pl} {H : Nat → Option SB} {w : World} {k b : Nat} (h : OwnM H ρ w k b) (hm : Mem w0 M ρ H w) : w0.heap.size ≤ b ∨ M b := by
 rcases h with ⟨⟨l, hl⟩, hc, rfl⟩ | ⟨kd, ms, j, hl, hj, ho⟩
 ·exact hm.own k l hl hc
 ·exact (hm.pools.pool k kd ms hl).ownD j b hj ho

def OpenD (H : Nat → Option SB) (ρ : Nat → Pl) (ks : List Nat) (i : Nat) (b : SB) : Prop :=
 (∃ l l', b = .segs false l' ∧ H (ks.getD i 0) = some (.segs false l) ∧ ∀ (dm : Nat → Prop) (ρ' : Nat → Pl), (∀ j, j < ks.length → dm (600 + j) ∧ ρ' (600 + j) = ρ (ks.getD j 0)) → ∀ cs, SegsD (dmOf H) ρ l cs → SegsD dm ρ' l' cs) ∨
 (∃ kd ms, b = .pool kd ms ∧ kd.seen = none ∧ H (ks.getD i 0) = some (.pool kd ms))

section
variable {P : Program} {Γ : Tab}

theorem open_mem {w0 : World} {M : Nat → Prop} {ρ : Nat → Pl} {H : Nat → Option SB} {w : World} (hG : Glob Γ.gh w0 M) (hgl : Γ.gl = keysOf Γ.gh) (hlow : ∀ g ∈ keysOf Γ.gh, g < 490) (hm : Mem w0 M ρ H w) {ks : List Nat} (hnd : ks.Nodup)
  {M' : Nat → Prop} (hM' : ∀ b, M' b ↔ ∃ k ∈ ks, OwnM H ρ w k b) {h6 : Heap}
  (h1 : ∀ k b, assoc h6 k = some b → ∃ i, k = 600 + i ∧ i < ks.length ∧ OpenD H ρ ks i b)
  (h2 : ∀ i, i < ks.length → (assoc h6 (600 + i)).isSome = true) :
  ∃ ρ1 : Nat → Pl, Mem w M' ρ1 (assoc (Γ.gh ++ (490, .world) :: h6)) w ∧ GlOk Γ w M' ρ1 (assoc (Γ.gh ++ (490, .world) :: h6)) ∧ dmOf (assoc (Γ.gh ++ (490, .world) :: h6)) 490 ∧ (ρ1 490).rel = RoD w (OutB w M') ∧
   ∀ i, i < ks.length → dmOf (assoc (Γ.gh ++ (490, .world) :: h6)) (600 + i) ∧ ρ1 (600 + i) = ρ (ks.getD i 0) := by
 obtain ⟨ρg, g1, g2, g3⟩ := mem_of_glob hG hm
 have hMo : ∀ b, M' b → w0.heap.size ≤ b ∨ M b := fun b hb => by
  obtain ⟨k, hk, ho⟩ := (hM' b).1 hb
  exact ho.old hm
 have hne : ∀ g b, (g, b) ∈ Γ.gh → ¬ M' g := fun g b hgb hb => by
  obtain ⟨_, _, _, _, _, q1, q2⟩ := hG g b hgb
  rcases hMo g hb with hh | hh
  ·omega
  ·exact q1 hh
 have hlow : ∀ k b, assoc Γ.gh k = some b → k < 490 := fun k b hb => hlow k (keysOf_of_dm (by unfold dmOf; rw [hb]; rfl))
 have hro : ∀ k b, assoc Γ.gh k = some b → ∃ l, b = .segs true l := fun k b hb => by
  obtain ⟨l, _, e, _⟩ := g2 k b (assoc_mem hb); exact ⟨l, e⟩
 let HH : Heap := Γ.gh ++ (490, .world) :: h6
 have hat : ∀ k b, assoc HH k = some b → (k < 490 ∧ assoc Γ.gh k = some b) ∨ (k = 490 ∧ b = .world) ∨ (600 ≤ k ∧ assoc h6 k = some b) := fun k b hb => by
  have hb : assoc (Γ.gh ++ (490, .world) :: h6) k = some b := hb
  rw [assoc_app] at hb
  split at hb
  ·rename_i x hx
   rw [hb] at hx
   exact .inl ⟨hlow k b hx, hx⟩
  ·simp only [assoc] at hb
   split at hb
   ·rename_i e
    simp only [Option.some.injEq] at hb
    exact .inr (.inl ⟨(Nat.eq_of_beq_eq_true e).symm, hb.symm⟩)
   ·obtain ⟨i, rfl, _⟩ := h1 k b hb
    exact .inr (.inr ⟨by omega, hb⟩)
 have hup : ∀ k b, assoc Γ.gh k = some b → assoc HH k = some b := fun k b hb => by
  show assoc (Γ.gh ++ (490, .world) :: h6) k = _
  rw [assoc_app, hb]
 have hnlow : ∀ k, 490 ≤ k → assoc Γ.gh k = none := fun k hk => by
  cases e : assoc Γ.gh k with
  | none => rfl
  | some b => have := hlow k b e; omega
 have h490 : assoc HH 490 = some .world := by
  show assoc (Γ.gh ++ (490, .world) :: h6) 490 = _
  rw [assoc_app, hnlow 490 (Nat.le_refl _)]
  simp [assoc]
 have hup6 : ∀ k, 600 ≤ k → assoc HH k = assoc h6 k := fun k hk => by
  show assoc (Γ.gh ++ (490, .world) :: h6) k = _
  rw [assoc_app, hnlow k (by omega)]
  have : Nat.beq 490 k = false := by
   cases hb : Nat.beq 490 k with
   | false => rfl
   | true => have := Nat.eq_of_beq_eq_true hb; omega
  simp only [assoc, this]
 let ρ1 : Nat → Pl := fun k => if k < 490 then ρg k else if k < 600 then { blk := 0, off := 0, cap := 0, rel := RoD w (OutB w M') } else ρ (ks.getD (k - 600) 0)
 have hρg : ∀ k, k < 490 → ρ1 k = ρg k := fun k hk => by simp [ρ1, hk]
 have hρ6 : ∀ i, ρ1 (600 + i) = ρ (ks.getD i 0) := fun i => by
  have h1 : ¬ (600 + i < 490) := by omega
  have h2 : ¬ (600 + i < 600) := by omega
  simp only [ρ1, h1, h2, if_false]
  rw [Nat.add_sub_cancel_left]
 have hmk : ∀ i, i < ks.length → ks.getD i 0 ∈ ks := fun i hi => by
  rw [List.getD_eq_getElem?_getD, List.getElem?_eq_getElem hi]
  exact List.getElem_mem hi
 have hinj : ∀ i i', i < ks.length → i' < ks.length → i ≠ i' → ks.getD i 0 ≠ ks.getD i' 0 := fun i i' hi hi' hne e => by
  rw [List.getD_eq_getElem?_getD, List.getD_eq_getElem?_getD, List.getElem?_eq_getElem hi, List.getElem?_eq_getElem hi'] at e
  have e : ks[i] = ks[i'] := e
  rcases Nat.lt_or_gt_of_ne hne with h | h
  ·exact List.pairwise_iff_getElem.1 hnd i i' hi hi' h e
  ·exact List.pairwise_iff_getElem.1 hnd i' i hi' hi h e.symm
 have d6 : ∀ i, i < ks.length → dmOf (assoc HH) (600 + i) := fun i hi => by
  unfold dmOf
  rw [hup6 _ (by omega)]
  exact h2 i hi
 -- the entries
 have hseg : ∀ k ro l, assoc HH k = some (.segs ro l) → (k < 490 ∧ ro = true ∧ assoc Γ.gh k = some (.segs ro l)) ∨ (∃ i l0, k = 600 + i ∧ i < ks.length ∧ ro = false ∧ H (ks.getD i 0) = some (.segs false l0) ∧
   ∀ (dm : Nat → Prop) (ρ' : Nat → Pl), (∀ j, j < ks.length → dm (600 + j) ∧ ρ' (600 + j) = ρ (ks.getD j 0)) → ∀ cs, SegsD (dmOf H) ρ l0 cs → SegsD dm ρ' l cs) := fun k ro l hk => by
  rcases hat k _ hk with ⟨a1, a2⟩ | ⟨_, a2⟩ | ⟨a1, a2⟩
  ·obtain ⟨lz, ez⟩ := hro k _ a2
   simp only [SB.segs.injEq] at ez
   exact .inl ⟨a1, ez.1, a2⟩
  ·cases a2
  ·obtain ⟨i, rfl, hi, ⟨l0, l', e, hl, hd⟩ | ⟨kd, ms, e, _⟩⟩ := h1 k _ a2
   ·simp only [SB.segs.injEq] at e
    obtain ⟨rfl, rfl⟩ := e
    exact .inr ⟨i, l0, rfl, hi, rfl, hl, hd⟩
   ·cases e
 have hpool : ∀ k kd ms, assoc HH k = some (.pool kd ms) → ∃ i, k = 600 + i ∧ i < ks.length ∧ kd.seen = none ∧ H (ks.getD i 0) = some (.pool kd ms) := fun k kd ms hk => by
  rcases hat k _ hk with ⟨a1, a2⟩ | ⟨_, a2⟩ | ⟨a1, a2⟩
  ·obtain ⟨lz, ez⟩ := hro k _ a2; cases ez
  ·cases a2
  ·obtain ⟨i, rfl, hi, ⟨l0, l', e, _⟩ | ⟨kd', ms', e, hs, hl⟩⟩ := h1 k _ a2
   ·cases e
   ·simp only [SB.pool.injEq] at e
    obtain ⟨rfl, rfl⟩ := e
    exact ⟨i, rfl, hi, hs, hl⟩
 have hMs : ∀ i l0, i < ks.length → H (ks.getD i 0) = some (.segs false l0) → 0 < (ρ (ks.getD i 0)).cap → M' (ρ (ks.getD i 0)).blk := fun i l0 hi hl hc => (hM' _).2 ⟨_, hmk i hi, .inl ⟨⟨l0, hl⟩, hc, rfl⟩⟩
 have hMp : ∀ i kd ms j c, i < ks.length → H (ks.getD i 0) = some (.pool kd ms) → j < ms.length → OwnB w (ρ (ks.getD i 0)) kd j c → M' c := fun i kd ms j c hi hl hj ho => (hM' _).2 ⟨_, hmk i hi, .inr ⟨kd, ms, j, hl, hj, ho⟩⟩
 have hsegM : ∀ k ro l, assoc HH k = some (.segs ro l) → 0 < (ρ1 k).cap → (k < 490 ∧ ro = true ∧ ¬ M' (ρ1 k).blk) ∨ (∃ i l0, k = 600 + i ∧ i < ks.length ∧ H (ks.getD i 0) = some (.segs false l0) ∧ M' (ρ1 k).blk) := fun k ro l hk hc => by
  rcases hseg k ro l hk with ⟨a1, a2, a3⟩ | ⟨i, l0, rfl, hi, _, hl, _⟩
  ·exact .inl ⟨a1, a2, by rw [hρg k a1, (g3 k).1]; exact hne k _ (assoc_mem a3)⟩
  ·exact .inr ⟨i, l0, rfl, hi, hl, by rw [hρ6] at hc ⊢; exact hMs i l0 hi hl hc⟩
 refine ⟨ρ1, ⟨⟨fun k b hb => ?_, fun k k' ro ro' l1 l2 e1 e2 hkk hr c1 c2 => ?_, fun k ro l1 e1 c1 => ?_⟩, FrameW.refl _ _, fun k l1 e1 c1 => ?_, fun k e1 => ?_, fun k l1 e1 c1 => ?_, ?_⟩, ⟨fun g hg => ?_, fun g b hgb => ?_⟩, by unfold dmOf; rw [h490]; rfl, by simp [ρ1], fun i hi => ⟨d6 i hi, hρ6 i⟩⟩
 ·rcases hat k b hb with ⟨hk, hb'⟩ | ⟨rfl, rfl⟩ | ⟨hk, hb'⟩
  ·refine (g1.heap.blk k b hb').of_block (fun j hj => ?_) (fun j hj => ?_) (hρg k hk) (fun _ _ _ _ => rfl)
   ·unfold dmOf at hj ⊢
    obtain ⟨b', hb''⟩ := Option.isSome_iff_exists.1 hj
    rw [hup j b' hb'']; rfl
   ·unfold dmOf at hj
    obtain ⟨b', hb''⟩ := Option.isSome_iff_exists.1 hj
    exact .of_eq (hρg j (hlow j b' hb''))
  ·trivial
  ·obtain ⟨i, rfl, hi, ⟨l0, l', rfl, hl, hd⟩ | ⟨kd, ms, rfl, _⟩⟩ := h1 k b hb'
   ·obtain ⟨cs, hcs, hcl, hra, hth⟩ := hm.heap.blk _ _ hl
    exact ⟨cs, hd _ _ (fun j hj => ⟨d6 j hj, hρ6 j⟩) cs hcs, by rw [hρ6]; exact hcl, by rw [hρ6]; exact hra, fun _ => by rw [hρ6]; exact hth rfl⟩
   ·trivial
 ·rcases hsegM k ro l1 e1 c1 with ⟨a1, a2, a3⟩ | ⟨i, l0, rfl, hi, hl, a3⟩
  ·rcases hsegM k' ro' l2 e2 c2 with ⟨b1, b2, b3⟩ | ⟨i', l0', rfl, hi', hl', b3⟩
   ·rw [a2, b2] at hr; rcases hr with hr | hr <;> cases hr
   ·intro e; rw [e] at a3; exact a3 b3
  ·rcases hsegM k' ro' l2 e2 c2 with ⟨b1, b2, b3⟩ | ⟨i', l0', rfl, hi', hl', b3⟩
   ·intro e; rw [e] at a3; exact b3 a3
   ·rw [hρ6] at c1 ⊢
    rw [hρ6] at c2 ⊢
    exact hm.heap.sep _ _ false false l0 l0' hl hl' (hinj i i' hi hi' (fun e => hkk (by rw [e]))) (.inl rfl) c1 c2
 ·rcases hat k _ e1 with ⟨h1', h1''⟩ | ⟨_, h1'⟩ | ⟨hk, h1'⟩
  ·rw [hρg k h1'] at c1 ⊢; exact g1.heap.lt k ro l1 h1'' c1
  ·cases h1'
  ·rcases hseg k ro l1 e1 with ⟨q, _⟩ | ⟨i, l0, rfl, hi, _, hl, _⟩
   ·omega
   ·rw [hρ6] at c1 ⊢
    exact hm.heap.lt _ _ _ hl c1
 ·rcases hsegM k false l1 e1 c1 with ⟨_, q, _⟩ | ⟨i, l0, rfl, hi, hl, a3⟩
  ·cases q
  ·exact .inr a3
 ·rcases hat k _ e1 with ⟨h1', h1''⟩ | ⟨rfl, _⟩ | ⟨hk, h1'⟩
  ·obtain ⟨lz, ez⟩ := hro k _ h1''; cases ez
  ·simp [ρ1]
  ·obtain ⟨i, rfl, hi, ⟨l, l', e, _⟩ | ⟨kd, ms, e, _⟩⟩ := h1 k _ h1' <;> cases e
 ·rcases hseg k false l1 e1 with ⟨_, q, _⟩ | ⟨i, l0, rfl, hi, _, hl, _⟩
  ·cases q
  ·rw [hρ6] at c1 ⊢
   exact hm.clean _ _ hl c1
 ·refine ⟨fun k kd ms hk => ?_, fun k kd ms k' ro l i c e1 e2 c1 hi hc => ?_, fun k kd ms k' kd' ms' i j c e1 e2 hkk hi hj hc hc' => ?_, fun k kd q r ms hk => ?_⟩
  ·obtain ⟨i, rfl, hi, _, hl⟩ := hpool k kd ms hk
   rw [hρ6]
   exact (hm.pools.pool _ kd ms hl).step rfl (Nat.le_refl _) (fun j c hj ho _ => .inr (hMp i kd ms j c hi hl hj ho)) (fun _ _ _ _ => rfl)
  ·obtain ⟨a, rfl, ha, _, hl⟩ := hpool k kd ms e1
   rw [hρ6] at hc
   rcases hsegM k' ro l e2 c1 with ⟨b1, b2, b3⟩ | ⟨i', l0, rfl, hi', hl', b3⟩
   ·intro e; exact b3 (by rw [e]; exact hMp a kd ms i c ha hl hi hc)
   ·rw [hρ6] at c1 ⊢
    exact hm.pools.apartD _ kd ms _ false l0 i c hl hl' c1 hi hc
  ·obtain ⟨a, rfl, ha, _, hl⟩ := hpool k kd ms e1
   obtain ⟨a', rfl, ha', _, hl'⟩ := hpool k' kd' ms' e2
   rw [hρ6] at hc hc'
   exact hm.pools.twoD _ kd ms _ kd' ms' i j c hl hl' (hinj a a' ha ha' fun e => hkk (by rw [e])) hi hj hc hc'
  ·obtain ⟨i, _, _, hs, _⟩ := hpool k _ ms hk
   cases hs
 ·have hdm : dmOf (assoc Γ.gh) g := assoc_dm (by rw [← hgl]; exact hg)
  unfold dmOf at hdm
  obtain ⟨b', hb''⟩ := Option.isSome_iff_exists.1 hdm
  refine ⟨by unfold dmOf; rw [hup g b' hb'']; rfl, ?_, ?_⟩
  ·rw [hρg g (hlow g b' hb'')]; exact (g3 g).1
  ·rw [hρg g (hlow g b' hb'')]; exact (g3 g).2
 ·obtain ⟨lz, vz, q0, q1, q2, _, q4⟩ := g2 g b hgb
  exact ⟨lz, vz, q0, q1, q2, hne g b hgb, q4⟩

end
end Go.Gx

/- Contracts of a Script's methods. -/
namespace Go.Gx
open Go.RowKit
set_option linter.unusedVariables false

theorem memN_false {x : Nat} {l : List Nat} (h : memN x l = false) : x ∉ l := fun hm => by rw [memN_iff.2 hm] at h; cases h

theorem BanOk.opens {w0 : World} {M : Nat → Prop} {ρ : Nat → Pl} {H : Nat → Option SB} {w : World} (hm : Mem w0 M ρ H w) {ks : List Nat} (hdeep : ∀ k ∈ ks, ∀ kd ms, H k = some (.pool kd ms) → kd.deep = true) :
  BanOk w0 M ρ H w ks (fun b => ∃ k ∈ ks, OwnM H ρ w k b) := by
 refine ⟨fun key ro l hban hkey hc ⟨k, hk, ho⟩ => ?_, fun b hb hnM ⟨k, hk, ho⟩ => ?_, fun key kd ms i c hr hd hkey hi hc ⟨k, hk, ho⟩ => ?_⟩
 ·have hne : key ≠ k := fun e => memN_false hban (by rw [e]; exact hk)
  rcases ho with ⟨⟨l', hl'⟩, hc', e⟩ | ⟨kd, ms, j, hl, hj, ho⟩
  ·exact hm.heap.sep key k ro false l l' hkey hl' hne (.inr rfl) hc hc' e
  ·exact hm.pools.apartD k kd ms key ro l j _ hl hkey hc hj ho rfl
 ·rcases ho.old hm with h | h
  ·omega
  ·exact hnM h
 ·rcases ho with ⟨⟨l', hl'⟩, hc', e⟩ | ⟨kd', ms', j, hl, hj, ho⟩
  ·exact hm.pools.apartD key kd ms k false l' i c hkey hl' hc' hi hc e.symm
  ·have hne : key ≠ k := fun e => by
    subst e
    rw [hkey] at hl
    simp only [Option.some.injEq, SB.pool.injEq] at hl
    obtain ⟨rfl, rfl⟩ := hl
    exact memN_false (hd (hdeep key hk kd ms hkey)) hk
   exact hm.pools.twoD key kd ms k kd' ms' i j c hkey hl hne hi hj hc ho

structure Scr where
 l : List (List Int)
 off : Int
 len : Int
 ds : List RO
 b : Bool

def shSt : Sh := .r [.tb, .ts, .l (.ints .u8)]

def scriptSegs (k1 k2 : Nat) (S : Scr) : List Seg := [.one (.sl k1 0 4 ⟨false, S.off⟩ ⟨false, S.len⟩), .one (.sl k2 0 3 ⟨true, .ofNat 0⟩ ⟨false, (S.ds.length : Int)⟩), .one (.b false S.b)]
def scriptH (S : Scr) (zs : List (List Int)) : Heap := [(600, .segs false (scriptSegs 601 602 S)), (601, .segs false [.rowA .u64 4 S.l]), (602, .segs false [.rowD 603 shSt S.ds]), (603, .pool .z zs)]

def isScr : List Seg → Option (Nat × SI × SI × Nat × SI × Bool)
 | [.one (.sl k1 0 4 off len), .one (.sl k2 0 3 ⟨true, .ofNat 0⟩ n), .one (.b _ b)] => some (k1, off, len, k2, n, b)
 | _ => none

theorem isScr_eq {l : List Seg} {k1 k2 : Nat} {off len n : SI} {b : Bool} (h : isScr l = some (k1, off, len, k2, n, b)) : ∃ st, l = [.one (.sl k1 0 4 off len), .one (.sl k2 0 3 ⟨true, .ofNat 0⟩ n), .one (.b st b)] := by
 unfold isScr at h
 split at h
 ·simp only [Option.some.injEq, Prod.mk.injEq] at h
  obtain ⟨rfl, rfl, rfl, rfl, rfl, rfl⟩ := h
  exact ⟨_, rfl⟩
 ·cases h

inductive RS where
 | v (x : SV)
 | rowS (l : List (List Int))
 | said (ds : List RO) (g : Nat)

def scrArg : Option Nat → List SV → Option (Nat × List SV)
 | none, .p key 0 :: r => some (key, r)
 | some t, .ifc none t' key :: r => (match Nat.beq t t' with | true => some (key, r) | false => none)
 | _, _ => none
def scrSV : Option Nat → Nat → SV
 | none, key => .p key 0
 | some t, key => .ifc none t key

def resS (stamp F' : Nat) : RS → Option (SV × List (Nat × SB))
 | .v x => some (x, [])
 | .rowS l => some (.sl stamp 0 4 ⟨true, .ofNat 0⟩ ⟨false, (l.length : Int)⟩, [(stamp, .segs false [.rowA .u64 4 l])])
 | .said ds g => some (.sl stamp 0 3 ⟨true, .ofNat 0⟩ ⟨false, (ds.length : Int)⟩, [(stamp, .segs false [.rowD F' shSt ds]), (F', .pool .z (List.replicate g []))])
def freeS (stamp F' : Nat) (r : RS) (f : RP Delta) : RP Delta :=
 match r with
 | .v _ => f
 | .rowS _ => .get stamp fun b => (match b with | none => f | some _ => .fail)
 | .said _ _ => .get stamp fun b => (match b with
  | none => .get F' fun b => (match b with | none => f | some _ => .fail)
  | some _ => .fail)

def scqCtr (t : Option Nat) (ms : List Md) (spec : Scr → List AV → Option (List Prop × Scr × RS × Nat)) : Ctr := fun stamp args => match scrArg t args with
 | some (key, rest) => .get key fun b => (match b with
  | some (.segs false l0) => (match isScr l0 with
   | some (k1, off, len, k2, n, mb) => .get k1 fun b1 => (match b1 with
    | some (.segs false [.rowA .u64 4 l]) => .get k2 fun b2 => (match b2 with
     | some (.segs false [.rowD F (.r [.tb, .ts, .l (.ints .u8)]) ds]) => .get F fun b3 => (match b3 with
      | some (.pool .z zs) => getA [key, k1, k2, F] ms rest fun p avs => (match spec ⟨l, off.z, len.z, ds, mb⟩ avs with
       | some (p', S', r, g) => .get stamp fun c1 => (match c1 with
        | none => .get (stamp + 500000) fun c2 => (match c2 with
         | none => freeS (stamp + 600000) (stamp + 700000) r (match resS (stamp + 600000) (stamp + 700000) r with
          | some (x, ws) => .ret ⟨(n.z = (ds.length : Int)) :: (p ++ p'), x, (stamp, .segs false [.rowA .u64 4 S'.l]) :: (stamp + 500000, .segs false [.rowD F shSt S'.ds]) :: (k1, .gone) :: (k2, .gone) :: (key, .segs false (scriptSegs stamp (stamp + 500000) S')) :: (F, .pool .z (zs ++ List.replicate g [])) :: ws, true⟩
          | none => .fail)
         | some _ => .fail)
        | some _ => .fail)
       | none => .fail)
      | _ => .fail)
     | _ => .fail)
    | _ => .fail)
   | none => .fail)
  | _ => .fail)
 | none => .fail

def scrCtr (ms : List Md) (spec : Scr → List AV → Option (List Prop × Scr × SV × Nat)) : Ctr :=
 scqCtr none ms fun S avs => match spec S avs with | some (p, S', r, g) => some (p, S', .v r, g) | none => none

def notS (h : Heap) (key : Nat) : Bool :=
 match assoc h 600 with
 | some (.segs false (.one (.sl a _ _ _ _) :: .one (.sl b _ _ _ _) :: _)) => !Nat.beq a key && !Nat.beq b key
 | _ => false
def canR (h : Heap) (x : SV) (K : List (List Int) → Prop) : Prop :=
 match x with
 | .nsl => K []
 | .sl key 0 4 ⟨true, .ofNat 0⟩ len => (match notS h key, assoc h key with
  | true, some (.segs false [.rowA .u64 4 l]) => Need (len.z = (l.length : Int)) ∧ K l
  | _, _ => False)
 | _ => False
def canD (h : Heap) (x : SV) (K : List RO → List (List Int) → Prop) : Prop :=
 match assoc h 604 with
 | some (.pool .z zs) => (match x with
  | .nsl => K [] zs
  | .sl key 0 3 ⟨true, .ofNat 0⟩ len => (match notS h key, assoc h key with
   | true, some (.segs false [.rowD F (.r [.tb, .ts, .l (.ints .u8)]) ds]) => (match Nat.beq F 604 with
    | true => Need (len.z = (ds.length : Int)) ∧ K ds zs
    | false => False)
   | _, _ => False)
  | _ => False)
 | _ => False
def kvR : RS → SV → Heap → Prop
 | .v r, x, _ => eqV x r
 | .rowS l, x, h => canR h x fun l' => l' = l
 | .said ds g, x, h => canD h x fun ds' zs => ds' = ds ∧ zs = List.replicate g []

def kvScr (x : SV) (h : Heap) (K : SV → Scr → List (List Int) → Prop) : Prop :=
 match assoc h 600 with
 | some (.segs false l0) => (match isScr l0 with
  | some (a, off, len, b, n, mb) => (match assoc h a, assoc h b, assoc h 603 with
   | some (.segs false [.rowA .u64 4 l]), some (.segs false [.rowD F (.r [.tb, .ts, .l (.ints .u8)]) ds]), some (.pool .z zs) => (match Nat.beq F 603 with
    | true => Need (n.z = (ds.length : Int)) ∧ K x ⟨l, off.z, len.z, ds, mb⟩ zs
    | false => False)
   | _, _, _ => False)
  | none => False)
 | _ => False

theorem kvScr_sound {x : SV} {h : Heap} {K : SV → Scr → List (List Int) → Prop} (hk : kvScr x h K) : ∃ a b off len n st S zs, assoc h 600 = some (.segs false [.one (.sl a 0 4 off len), .one (.sl b 0 3 ⟨true, .ofNat 0⟩ n), .one (.b st S.b)]) ∧
  assoc h a = some (.segs false [.rowA .u64 4 S.l]) ∧ assoc h b = some (.segs false [.rowD 603 shSt S.ds]) ∧ assoc h 603 = some (.pool .z zs) ∧ n.z = (S.ds.length : Int) ∧ off.z = S.off ∧ len.z = S.len ∧ K x S zs := by
 unfold kvScr at hk
 split at hk
 ·rename_i l0 h0
  split at hk
  ·rename_i a off len b n mb h1
   obtain ⟨st, rfl⟩ := isScr_eq h1
   split at hk
   ·rename_i l F ds zs e1 e2 e3
    split at hk
    ·rename_i eF
     have eF := Nat.eq_of_beq_eq_true eF
     subst eF
     exact ⟨a, b, off, len, n, st, ⟨l, off.z, len.z, ds, mb⟩, zs, h0, e1, e2, e3, hk.1, rfl, rfl, hk.2⟩
    ·exact hk.elim
   ·exact hk.elim
  ·exact hk.elim
 ·exact hk.elim

theorem own_apart {w0 : World} {M : Nat → Prop} {ρ : Nat → Pl} {H : Nat → Option SB} {w : World} (hm : Mem w0 M ρ H w) {ks : List Nat} {key : Nat} (hne : key ∉ ks) {kd : PK} {ms : List (List Int)} {i c : Nat} (hkey : H key = some (.pool kd ms)) (hi : i < ms.length) (hc : OwnB w (ρ key) kd i c) :
  ¬ ∃ k ∈ ks, OwnM H ρ w k c := fun ⟨k, hk, ho⟩ => by
 rcases ho with ⟨⟨l', hl'⟩, hc', e⟩ | ⟨kd', ms', j, hl, hj, ho⟩
 ·exact hm.pools.apartD key kd ms k false l' i c hkey hl' hc' hi hc e.symm
 ·exact hm.pools.twoD key kd ms k kd' ms' i j c hkey hl (fun e => hne (by rw [e]; exact hk)) hi hj hc ho

theorem sl_ren {dm dm' : Nat → Prop} {ρ ρ' : Nat → Pl} {k k' c es : Nat} {off len off' len' : SI} {v : Value} (h : D dm ρ (.sl k c es off len) v) (hd : dm' k') (hρ : ρ' k' = ρ k) (ho : off'.z = off.z) (hl : len'.z = len.z) : D dm' ρ' (.sl k' c es off' len') v := by
 simp only [D] at h ⊢
 rw [hρ, ho, hl]
 exact ⟨hd, h.2⟩

theorem scr_ren {dm dm' : Nat → Prop} {ρ ρ' : Nat → Pl} {a b a' b' : Nat} {off len n : SI} {st : Bool} {S : Scr} (hn : n.z = (S.ds.length : Int)) (ho : off.z = S.off) (hl : len.z = S.len) (ha : dm' a') (hb : dm' b') (ea : ρ' a' = ρ a) (eb : ρ' b' = ρ b) (cs : List Value)
  (h : SegsD dm ρ [.one (.sl a 0 4 off len), .one (.sl b 0 3 ⟨true, .ofNat 0⟩ n), .one (.b st S.b)] cs) : SegsD dm' ρ' (scriptSegs a' b' S) cs := by
 obtain ⟨c1, c2, ⟨_, u1, hu1, rfl⟩, rfl, c3, c4, ⟨_, u2, hu2, rfl⟩, rfl, c5, c6, ⟨_, u3, hu3, rfl⟩, rfl, he⟩ := h
 exact ⟨[u1], _, ⟨rfl, u1, sl_ren hu1 ha ea ho.symm hl.symm, rfl⟩, rfl, [u2], _, ⟨rfl, u2, sl_ren hu2 hb eb rfl hn.symm, rfl⟩, rfl, [u3], _, ⟨rfl, u3, hu3, rfl⟩, rfl, he⟩

theorem rowD_ren {dm dm' : Nat → Prop} {ρ ρ' : Nat → Pl} {F F' : Nat} {sh : Sh} {ds : List RO} (hd : dm' F') (e : ρ' F' = ρ F) (cs : List Value) (h : SegsD dm ρ [.rowD F sh ds] cs) : SegsD dm' ρ' [.rowD F' sh ds] cs := by
 obtain ⟨c1, c2, ⟨q1, q2, q3, q4, q5, q6⟩, b, c⟩ := h
 exact ⟨c1, c2, ⟨hd, by rw [e]; exact q2, by rw [e]; exact q3, q4, q5, q6⟩, b, c⟩

theorem rowA_ren {dm dm' : Nat → Prop} {ρ ρ' : Nat → Pl} {k : IntKind} {n : Nat} {l : List (List Int)} (cs : List Value) (h : SegsD dm ρ [.rowA k n l] cs) : SegsD dm' ρ' [.rowA k n l] cs := by
 obtain ⟨c1, c2, a, b, c⟩ := h
 exact ⟨c1, c2, a, b, c⟩

def bigH (big : Bool) (h : Heap) : Heap := match big with
 | true => h ++ [(604, .pool .z [])]
 | false => h

theorem freeS_run {H : Nat → Option SB} {rs rs' : List Nat} {s6 s7 : Nat} {r : RS} {mk : SV → List (Nat × SB) → Delta} {d : Delta}
  (h : (freeS s6 s7 r (match resS s6 s7 r with | some (x, ws) => .ret (mk x ws) | none => .fail)).run H rs = some (d, rs')) :
  ∃ x ws, resS s6 s7 r = some (x, ws) ∧ d = mk x ws ∧ ∀ k b, (k, b) ∈ ws → H k = none ∧ (k = s6 ∨ k = s7) := by
 cases r with
 | v x =>
  refine ⟨x, [], rfl, ?_, fun k b hk => by cases hk⟩
  exact run_ret h
 | rowS lq =>
  refine ⟨_, _, rfl, ?_⟩
  unfold freeS at h
  simp only [RP.run] at h
  split at h
  ·rename_i e6
   refine ⟨run_ret h, fun k b hk => ?_⟩
   simp only [List.mem_cons, Prod.mk.injEq, List.not_mem_nil, or_false] at hk
   obtain ⟨rfl, _⟩ := hk
   exact ⟨e6, .inl rfl⟩
  ·simp [RP.run] at h
 | said dq mq =>
  refine ⟨_, _, rfl, ?_⟩
  unfold freeS at h
  simp only [RP.run] at h
  split at h
  ·rename_i e6
   simp only [RP.run] at h
   split at h
   ·rename_i e7
    refine ⟨run_ret h, fun k b hk => ?_⟩
    simp only [List.mem_cons, Prod.mk.injEq, List.not_mem_nil, or_false] at hk
    rcases hk with ⟨rfl, _⟩ | ⟨rfl, _⟩
    ·exact ⟨e6, .inl rfl⟩
    ·exact ⟨e7, .inr rfl⟩
   ·simp [RP.run] at h
  ·simp [RP.run] at h

theorem notS_a {h : Heap} {a b : Nat} {off len n : SI} {st mb : Bool} (t0 : assoc h 600 = some (.segs false [.one (.sl a 0 4 off len), .one (.sl b 0 3 ⟨true, .ofNat 0⟩ n), .one (.b st mb)])) (hn : notS h a = true) : False := by
 unfold notS at hn
 rw [t0] at hn
 simp at hn
theorem notS_b {h : Heap} {a b : Nat} {off len n : SI} {st mb : Bool} (t0 : assoc h 600 = some (.segs false [.one (.sl a 0 4 off len), .one (.sl b 0 3 ⟨true, .ofNat 0⟩ n), .one (.b st mb)])) (hn : notS h b = true) : False := by
 unfold notS at hn
 rw [t0] at hn
 simp at hn

def bkH (H : Nat → Option SB) (E : Nat → Option (Option Nat)) (Hx : Nat → Option SB) (s4 s5 k1 k2 key F : Nat) (S : Scr) (zs : List (List Int)) : Nat → Option SB := fun j =>
 if j = s4 then some (.segs false [.rowA .u64 4 S.l]) else if j = s5 then some (.segs false [.rowD F shSt S.ds]) else if j = key then some (.segs false (scriptSegs s4 s5 S)) else if j = F then some (.pool .z zs) else
  match E j with
  | some _ => Hx j
  | none => updH (updH H k1 .gone) k2 .gone j
def bkP (ρ ρ' : Nat → Pl) (E : Nat → Option (Option Nat)) (s4 s5 key F a b : Nat) : Nat → Pl := fun j =>
 if j = s4 then ρ' a else if j = s5 then ρ' b else if j = key then ρ' 600 else if j = F then ρ' 603 else
  match E j with
  | some (some c) => ρ' c
  | some none => noPl
  | none => ρ j

theorem scr_back {w0 w w' : World} {M : Nat → Prop} {ρ ρ' : Nat → Pl} {H H' : Nat → Option SB} (hm : Mem w0 M ρ H w) {key k1 k2 F s4 s5 : Nat} {l0 g1 g2 : List Seg} {zs zs' : List (List Int)}
  (hkey : H key = some (.segs false l0)) (h1 : H k1 = some (.segs false g1)) (h2 : H k2 = some (.segs false g2)) (hF : H F = some (.pool .z zs)) (n1 : key ≠ k1) (n2 : key ≠ k2) (n4 : k1 ≠ k2) (hst : H s4 = none) (hs5 : H s5 = none) (n56 : s4 ≠ s5)
  (r3 : Mem w (fun b => ∃ k ∈ [key, k1, k2, F], OwnM H ρ w k b) ρ' H' w') {a b : Nat} {off len n : SI} {st : Bool} {S : Scr}
  (t0 : H' 600 = some (.segs false [.one (.sl a 0 4 off len), .one (.sl b 0 3 ⟨true, .ofNat 0⟩ n), .one (.b st S.b)])) (ta : H' a = some (.segs false [.rowA .u64 4 S.l])) (tb : H' b = some (.segs false [.rowD 603 shSt S.ds])) (tF : H' 603 = some (.pool .z zs')) (tn : n.z = (S.ds.length : Int)) (to : off.z = S.off) (tl : len.z = S.len)
  (hle6 : PlLe (ρ key) (ρ' 600)) (hle3 : PlLe (ρ F) (ρ' 603))
  (E : Nat → Option (Option Nat)) (Hx : Nat → Option SB) (e1 : ∀ k, E k ≠ none → H k = none ∧ k ≠ s4 ∧ k ≠ s5)
  (e2 : ∀ k c, E k = some (some c) → c ≠ a ∧ c ≠ b ∧ c ≠ 600 ∧ c ≠ 603 ∧ ((∃ kd ms, Hx k = some (.pool kd ms) ∧ kd.seen = none ∧ H' c = some (.pool kd ms)) ∨ ∃ l l0, Hx k = some (.segs false l) ∧ H' c = some (.segs false l0) ∧ ∀ cs, SegsD (dmOf H') ρ' l0 cs → SegsD (dmOf (bkH H E Hx s4 s5 k1 k2 key F S zs')) (bkP ρ ρ' E s4 s5 key F a b) l cs))
  (e3 : ∀ k, E k = some none → ∃ l, Hx k = some (.segs false l) ∧ SegsD (dmOf (bkH H E Hx s4 s5 k1 k2 key F S zs')) (bkP ρ ρ' E s4 s5 key F a b) l [])
  (e4 : ∀ k k' c, E k = some (some c) → E k' = some (some c) → k = k') :
  Mem w0 M (bkP ρ ρ' E s4 s5 key F a b) (bkH H E Hx s4 s5 k1 k2 key F S zs') w' ∧ ∀ j, dmOf H j → PlLe (ρ j) (bkP ρ ρ' E s4 s5 key F a b j) := by
 have n3 : key ≠ F := fun e => by rw [e, hF] at hkey; cases hkey
 have n5 : k1 ≠ F := fun e => by rw [e, hF] at h1; cases h1
 have n6 : k2 ≠ F := fun e => by rw [e, hF] at h2; cases h2
 have hks : ∀ k ∈ [key, k1, k2, F], k = key ∨ k = k1 ∨ k = k2 ∨ k = F := fun k hk => by simpa using hk
 have hdeep : ∀ k ∈ [key, k1, k2, F], ∀ kd ms, H k = some (.pool kd ms) → kd.deep = true := fun k hk kd ms e => by
  rcases hks k hk with rfl | rfl | rfl | rfl
  ·rw [hkey] at e; cases e
  ·rw [h1] at e; cases e
  ·rw [h2] at e; cases e
  ·rw [hF] at e; cases e; rfl
 have hB := BanOk.opens hm hdeep
 have hdk : ∀ k b, H k = some b → k ≠ s4 ∧ k ≠ s5 := fun k b hk => ⟨fun e => (by rw [e, hst] at hk; cases hk), fun e => (by rw [e, hs5] at hk; cases hk)⟩
 have hmA := hm.gone k1 (by rw [h1]; rfl)
 have hmB := hmA.gone k2 (dm_updH H k1 .gone k2 (by unfold dmOf; rw [h2]; rfl))
 have ks1 : key ≠ s4 ∧ key ≠ s5 := hdk _ _ hkey
 have ks2 : F ≠ s4 ∧ F ≠ s5 := hdk _ _ hF
 have eD : ∀ j b, H j = some b → E j = none := fun j b hj => by
  cases e : E j with
  | none => rfl
  | some o => have := (e1 j (by rw [e]; simp)).1; rw [hj] at this; cases this
 have eK := eD key _ hkey
 have eF := eD F _ hF
 let Hn := bkH H E Hx s4 s5 k1 k2 key F S zs'
 let ρn := bkP ρ ρ' E s4 s5 key F a b
 let im : Nat → Option (Option Nat) := fun j => if j = s4 then some (some a) else if j = s5 then some (some b) else if j = key then some (some 600) else if j = F then some (some 603) else E j
 have g1' : Hn s4 = some (.segs false [.rowA .u64 4 S.l]) := by simp [Hn, bkH]
 have g2' : Hn s5 = some (.segs false [.rowD F shSt S.ds]) := by simp [Hn, bkH, Ne.symm n56]
 have g3 : Hn key = some (.segs false (scriptSegs s4 s5 S)) := by simp [Hn, bkH, ks1]
 have g4 : Hn F = some (.pool .z zs') := by simp [Hn, bkH, ks2, Ne.symm n3]
 have g5 : ∀ j, j ≠ s4 → j ≠ s5 → j ≠ key → j ≠ F → Hn j = (match E j with | some _ => Hx j | none => updH (updH H k1 .gone) k2 .gone j) := fun j a b c d => by simp [Hn, bkH, a, b, c, d]
 have q1 : ρn s4 = ρ' a := by simp [ρn, bkP]
 have q2 : ρn s5 = ρ' b := by simp [ρn, bkP, Ne.symm n56]
 have q3 : ρn key = ρ' 600 := by simp [ρn, bkP, ks1]
 have q4 : ρn F = ρ' 603 := by simp [ρn, bkP, ks2, Ne.symm n3]
 have q5 : ∀ j, j ≠ s4 → j ≠ s5 → j ≠ key → j ≠ F → ρn j = (match E j with | some (some c) => ρ' c | some none => noPl | none => ρ j) := fun j a b c d => by simp [ρn, bkP, a, b, c, d]
 have i1 : im s4 = some (some a) := by simp [im]
 have i2 : im s5 = some (some b) := by simp [im, Ne.symm n56]
 have i3 : im key = some (some 600) := by simp [im, ks1]
 have i4 : im F = some (some 603) := by simp [im, ks2, Ne.symm n3]
 have i5 : ∀ j, j ≠ s4 → j ≠ s5 → j ≠ key → j ≠ F → im j = E j := fun j a b c d => by simp [im, a, b, c, d]
 have five : ∀ j, j = s4 ∨ j = s5 ∨ j = key ∨ j = F ∨ (j ≠ s4 ∧ j ≠ s5 ∧ j ≠ key ∧ j ≠ F) := fun j => by
  by_cases a1 : j = s4
  ·exact .inl a1
  ·by_cases a2 : j = s5
   ·exact .inr (.inl a2)
   ·by_cases a3 : j = key
    ·exact .inr (.inr (.inl a3))
    ·by_cases a4 : j = F
     ·exact .inr (.inr (.inr (.inl a4)))
     ·exact .inr (.inr (.inr (.inr ⟨a1, a2, a3, a4⟩)))
 have six : ∀ j, j ≠ s4 → j ≠ s5 → j ≠ key → j ≠ F → E j = none → Hn j = updH (updH H k1 .gone) k2 .gone j ∧ ρn j = ρ j := fun j a1 a2 a3 a4 e => by
  rw [g5 j a1 a2 a3 a4, q5 j a1 a2 a3 a4, e]
  exact ⟨rfl, rfl⟩
 have hold : ∀ j b, b ≠ .gone → updH (updH H k1 .gone) k2 .gone j = some b → j ≠ k1 ∧ j ≠ k2 ∧ H j = some b := fun j b hb hj => by
  have m2 : j ≠ k2 := fun e => by subst e; rw [updH_same] at hj; simp only [Option.some.injEq] at hj; exact hb hj.symm
  rw [updH_ne m2] at hj
  have m1 : j ≠ k1 := fun e => by subst e; rw [updH_same] at hj; simp only [Option.some.injEq] at hj; exact hb hj.symm
  rw [updH_ne m1] at hj
  exact ⟨m1, m2, hj⟩
 have hdm : ∀ j, dmOf (updH (updH H k1 .gone) k2 .gone) j → dmOf H j := fun j hj => dm_updH_of (by rw [h1]; rfl) j (dm_updH_of (dm_updH H k1 .gone k2 (by unfold dmOf; rw [h2]; rfl)) j hj)
 have hEn : ∀ j, dmOf H j → E j = none := fun j hj => by
  obtain ⟨b, hb⟩ := dm_iff.1 hj
  exact eD j b hb
 have hdmo : ∀ j, dmOf H j → dmOf Hn j ∧ PlLe (ρ j) (ρn j) := fun j hj => by
  rcases five j with rfl | rfl | rfl | rfl | ⟨a1, a2, a3, a4⟩
  ·unfold dmOf at hj; rw [hst] at hj; cases hj
  ·unfold dmOf at hj; rw [hs5] at hj; cases hj
  ·exact ⟨dm_of g3, by rw [q3]; exact hle6⟩
  ·exact ⟨dm_of g4, by rw [q4]; exact hle3⟩
  ·obtain ⟨u1, u2⟩ := six j a1 a2 a3 a4 (hEn j hj)
   refine ⟨?_, .of_eq u2⟩
   unfold dmOf; rw [u1]; exact dm_updH _ _ _ j (dm_updH _ _ _ j hj)
 have nab : a ≠ b := fun e => by rw [e, tb] at ta; cases ta
 have na6 : a ≠ 600 := fun e => by rw [e, t0] at ta; cases ta
 have na3 : a ≠ 603 := fun e => by rw [e, tF] at ta; cases ta
 have nb6 : b ≠ 600 := fun e => by rw [e, t0] at tb; cases tb
 have nb3 : b ≠ 603 := fun e => by rw [e, tF] at tb; cases tb
 have inj : ∀ j c, im j = some (some c) → (j = s4 ∧ c = a) ∨ (j = s5 ∧ c = b) ∨ (j = key ∧ c = 600) ∨ (j = F ∧ c = 603) ∨ (j ≠ s4 ∧ j ≠ s5 ∧ j ≠ key ∧ j ≠ F ∧ E j = some (some c)) := fun j c hj => by
  rcases five j with rfl | rfl | rfl | rfl | ⟨a1, a2, a3, a4⟩
  ·rw [i1] at hj; simp only [Option.some.injEq] at hj; exact .inl ⟨rfl, hj.symm⟩
  ·rw [i2] at hj; simp only [Option.some.injEq] at hj; exact .inr (.inl ⟨rfl, hj.symm⟩)
  ·rw [i3] at hj; simp only [Option.some.injEq] at hj; exact .inr (.inr (.inl ⟨rfl, hj.symm⟩))
  ·rw [i4] at hj; simp only [Option.some.injEq] at hj; exact .inr (.inr (.inr (.inl ⟨rfl, hj.symm⟩)))
  ·rw [i5 j a1 a2 a3 a4] at hj; exact .inr (.inr (.inr (.inr ⟨a1, a2, a3, a4, hj⟩)))
 have nov : ∀ j, im j = some none → j ≠ s4 ∧ j ≠ s5 ∧ j ≠ key ∧ j ≠ F ∧ E j = some none := fun j hj => by
  rcases five j with rfl | rfl | rfl | rfl | ⟨a1, a2, a3, a4⟩
  ·rw [i1] at hj; simp at hj
  ·rw [i2] at hj; simp at hj
  ·rw [i3] at hj; simp at hj
  ·rw [i4] at hj; simp at hj
  ·rw [i5 j a1 a2 a3 a4] at hj; exact ⟨a1, a2, a3, a4, hj⟩
 have non : ∀ j, im j = none → j ≠ s4 ∧ j ≠ s5 ∧ j ≠ key ∧ j ≠ F ∧ E j = none := fun j hj => by
  rcases five j with rfl | rfl | rfl | rfl | ⟨a1, a2, a3, a4⟩
  ·rw [i1] at hj; cases hj
  ·rw [i2] at hj; cases hj
  ·rw [i3] at hj; cases hj
  ·rw [i4] at hj; cases hj
  ·rw [i5 j a1 a2 a3 a4] at hj; exact ⟨a1, a2, a3, a4, hj⟩
 have out : ∀ j b', im j = none → b' ≠ .gone → updH (updH H k1 .gone) k2 .gone j = some b' → j ∉ [key, k1, k2, F] ∧ H j = some b' := fun j b' hj hb' hjk => by
  obtain ⟨y1, y2, y3⟩ := hold j b' hb' hjk
  obtain ⟨_, _, x3, x4, _⟩ := non j hj
  refine ⟨fun hmem => ?_, y3⟩
  rcases hks j hmem with rfl | rfl | rfl | rfl
  ·exact x3 rfl
  ·exact y1 rfl
  ·exact y2 rfl
  ·exact x4 rfl
 refine ⟨Mem.import hmB r3 (im := im) (fun j hj => ?_) (fun j c hj => ?_) (fun j hj => ?_) (fun j j' c x1 x2 => ?_) (fun j hj => hdmo j (hdm j hj)) (fun b' hb' => ?_) (fun j ro l' hj hjk c1 hb' => ?_) (fun j kd ms' i c hj hjk hi c1 hb' => ?_) (fun j kd ms' hj hjk => ?_) (fun j kd hj hjk => ?_), fun j hj => (hdmo j hj).2⟩
 ·obtain ⟨a1, a2, a3, a4, e⟩ := non j hj
  obtain ⟨u1, u2⟩ := six j a1 a2 a3 a4 e
  exact ⟨u1, fun _ => u2⟩
 ·rcases inj j c hj with ⟨rfl, rfl⟩ | ⟨rfl, rfl⟩ | ⟨rfl, rfl⟩ | ⟨rfl, rfl⟩ | ⟨a1, a2, a3, a4, e⟩
  ·exact ⟨q1, .inr (.inr ⟨_, _, g1', ta, fun cs hcs => rowA_ren cs hcs⟩)⟩
  ·exact ⟨q2, .inr (.inr ⟨_, _, g2', tb, fun cs hcs => rowD_ren (dm_of g4) q4 cs hcs⟩)⟩
  ·exact ⟨q3, .inr (.inr ⟨_, _, g3, t0, fun cs hcs => scr_ren tn to tl (dm_of g1') (dm_of g2') q1 q2 cs hcs⟩)⟩
  ·exact ⟨q4, .inr (.inl ⟨_, _, g4, tF⟩)⟩
  ·refine ⟨(q5 j a1 a2 a3 a4).trans (by rw [e]), ?_⟩
   have gj : Hn j = Hx j := by rw [g5 j a1 a2 a3 a4, e]
   obtain ⟨_, _, _, _, ⟨kd, ms, v1, _, v2⟩ | ⟨l, l0, v1, v2, v3⟩⟩ := e2 j c e
   ·exact .inr (.inl ⟨kd, ms, gj.trans v1, v2⟩)
   ·exact .inr (.inr ⟨l, l0, gj.trans v1, v2, v3⟩)
 ·obtain ⟨a1, a2, a3, a4, e⟩ := nov j hj
  obtain ⟨l, v1, v2⟩ := e3 j e
  have gj : Hn j = Hx j := by rw [g5 j a1 a2 a3 a4, e]
  exact ⟨(q5 j a1 a2 a3 a4).trans (by rw [e]), .inr (.inr ⟨l, gj.trans v1, v2⟩)⟩
 ·have ex : ∀ j c, im j = some (some c) → (j = s4 ∧ c = a) ∨ (j = s5 ∧ c = b) ∨ (j = key ∧ c = 600) ∨ (j = F ∧ c = 603) ∨ ((c ≠ a ∧ c ≠ b ∧ c ≠ 600 ∧ c ≠ 603) ∧ E j = some (some c)) := fun j c hj => by
   rcases inj j c hj with e | e | e | e | ⟨_, _, _, _, e⟩
   ·exact .inl e
   ·exact .inr (.inl e)
   ·exact .inr (.inr (.inl e))
   ·exact .inr (.inr (.inr (.inl e)))
   ·obtain ⟨m1, m2, m3, m4, _⟩ := e2 j c e
    exact .inr (.inr (.inr (.inr ⟨⟨m1, m2, m3, m4⟩, e⟩)))
  rcases ex j c x1 with e | e | e | e | ⟨m, e⟩ <;> rcases ex j' c x2 with e' | e' | e' | e' | ⟨m', e'⟩
  rotate_right 1
  ·exact e4 j j' c e e'
  all_goals omega
 ·obtain ⟨k, hk, ho⟩ := hb'
  exact ho.old hm
 ·obtain ⟨y1, y2⟩ := out j _ hj (by simp) hjk
  refine hB.own j ro l' ?_ y2 c1 hb'
  cases e : memN j [key, k1, k2, F] with
  | false => rfl
  | true => exact absurd (memN_iff.1 e) y1
 ·obtain ⟨y1, y2⟩ := out j _ hj (by simp) hjk
  exact own_apart hm y1 y2 hi c1 hb'
 ·rcases five j with rfl | rfl | rfl | rfl | ⟨a1, a2, a3, a4⟩
  ·have hjk := g1'.symm.trans hjk
   cases hjk
  ·have hjk := g2'.symm.trans hjk
   cases hjk
  ·have hjk := g3.symm.trans hjk
   cases hjk
  ·have hjk := g4.symm.trans hjk
   cases hjk; rfl
  ·rw [i5 j a1 a2 a3 a4] at hj
   have hjk : Hn j = some (.pool kd ms') := hjk
   cases e : E j with
   | none => exact absurd e hj
   | some o =>
    rw [g5 j a1 a2 a3 a4, e] at hjk
    have hjk : Hx j = some (.pool kd ms') := hjk
    cases o with
    | none => obtain ⟨l, v1, _⟩ := e3 j e; rw [v1] at hjk; cases hjk
    | some c =>
     obtain ⟨_, _, _, _, ⟨kd', ms, v1, v0, v2⟩ | ⟨l, l0, v1, v2, v3⟩⟩ := e2 j c e
     ·rw [v1] at hjk; simp only [Option.some.injEq, SB.pool.injEq] at hjk; rw [← hjk.1]; exact v0
     ·rw [v1] at hjk; cases hjk
 ·obtain ⟨a1, a2, a3, a4, e⟩ := nov j hj
  obtain ⟨l, v1, v2⟩ := e3 j e
  have hjk : Hn j = some (.pool kd []) := hjk
  rw [g5 j a1 a2 a3 a4, e] at hjk
  have hjk : Hx j = some (.pool kd []) := hjk
  rw [v1] at hjk; cases hjk

section
variable {P : Program} {Γ : Tab}

theorem call_scq (hΓ : TabOk P Γ) (hgl : Γ.gl = keysOf Γ.gh) (hlow : ∀ g ∈ keysOf Γ.gh, g < 490) {f : FuncId} {fn : Func} (hf : P.funcs[f]? = some fn) (hn : (fn.name == "runtime.NumGoroutine") = false) (hb : fn.body.isNone = false) (t : Option Nat) (big : Bool) (ms : List Md) (hro : onlyRO ms = true)
  (spec : Scr → List AV → Option (List Prop × Scr × RS × Nat))
  (h : ∀ S avs p S' r g zs, spec S avs = some (p, S', r, g) → AllP p → FactA avs → 0 ≤ S.off → 0 ≤ S.len → InR .i64 S.len → AllA .u64 4 S.l → (∀ d ∈ S.ds, RoF shSt d) →
   ∃ args' L inv, okA 700 avs args' [] ∧ args'.length + 1 ≤ fn.ntmps ∧ VcX (fun x h' => kvScr x h' fun x1 S1 zs1 => S1 = S' ∧ kvR r x1 h' ∧ zs1 = zs ++ List.replicate g []) Γ fn L (Γ.gh ++ (490, .world) :: bigH big (scriptH S zs)) (scrSV t 600 :: args') inv) :
  CallOk P Γ.gh f (scqCtr t ms spec) := by
 intro stamp args H rs rs' d vs w0 M ρ w hG hc hp hD hm
 unfold scqCtr at hc
 split at hc
 ·rename_i key rest hsa
  have hargs : ∃ v0 vs', D (dmOf H) ρ (scrSV t key) v0 ∧ vs = v0 :: vs' ∧ Ds (dmOf H) ρ rest vs' := by
   unfold scrArg at hsa
   split at hsa
   ·simp only [Option.some.injEq, Prod.mk.injEq] at hsa
    obtain ⟨rfl, rfl⟩ := hsa
    simp only [Ds] at hD
    exact hD
   ·split at hsa
    ·rename_i e
     simp only [Option.some.injEq, Prod.mk.injEq] at hsa
     obtain ⟨rfl, rfl⟩ := hsa
     rw [Nat.eq_of_beq_eq_true e]
     simp only [Ds] at hD
     exact hD
    ·cases hsa
   ·cases hsa
  obtain ⟨v0, vs', hv0, rfl, hrest⟩ := hargs
  simp only [RP.run] at hc
  split at hc
  ·rename_i l0 hkey
   split at hc
   ·rename_i k1 off len k2 n mb hsc
    obtain ⟨st, rfl⟩ := isScr_eq hsc
    simp only [RP.run] at hc
    split at hc
    ·rename_i l h1
     simp only [RP.run] at hc
     split at hc
     ·rename_i F ds h2
      simp only [RP.run] at hc
      split at hc
      ·rename_i zs hF
       have n1 : key ≠ k1 := fun e => by rw [e, h1] at hkey; cases hkey
       have n2 : key ≠ k2 := fun e => by rw [e, h2] at hkey; cases hkey
       have n3 : key ≠ F := fun e => by rw [e, hF] at hkey; cases hkey
       have n4 : k1 ≠ k2 := fun e => by rw [e, h2] at h1; cases h1
       have n5 : k1 ≠ F := fun e => by rw [e, hF] at h1; cases h1
       have n6 : k2 ≠ F := fun e => by rw [e, hF] at h2; cases h2
       have hks : ∀ k ∈ [key, k1, k2, F], k = key ∨ k = k1 ∨ k = k2 ∨ k = F := fun k hk => by simpa using hk
       have hdeep : ∀ k ∈ [key, k1, k2, F], ∀ kd ms, H k = some (.pool kd ms) → kd.deep = true := fun k hk kd ms e => by
        rcases hks k hk with rfl | rfl | rfl | rfl
        ·rw [hkey] at e; cases e
        ·rw [h1] at e; cases e
        ·rw [h2] at e; cases e
        ·rw [hF] at e; cases e; rfl
       have hB := BanOk.opens hm hdeep
       obtain ⟨p, avs, rs1, hrun, hAs⟩ := getA_sound P hm hB ms rest vs' _ d _ rs' hrest hc
       rw [onlyRO_keys ms rest hro] at hAs
       clear hc
       split at hrun
       ·rename_i p' S' r g hspec
        simp only [RP.run] at hrun
        split at hrun
        ·rename_i hst
         simp only [RP.run] at hrun
         split at hrun
         ·rename_i hs5
          have n56 : stamp ≠ stamp + 500000 := by omega
          have n57 : stamp + 600000 ≠ stamp + 700000 := by omega
          have nq : stamp + 600000 ≠ stamp ∧ stamp + 600000 ≠ stamp + 500000 ∧ stamp + 700000 ≠ stamp ∧ stamp + 700000 ≠ stamp + 500000 := by omega
          generalize stamp + 500000 = s5 at *
          generalize stamp + 600000 = s6 at *
          generalize stamp + 700000 = s7 at *
          -- what is asked
          obtain ⟨x0, ws, hrs, rfl, hws⟩ := freeS_run (mk := fun x ws => ⟨(n.z = (ds.length : Int)) :: (p ++ p'), x, (stamp, .segs false [.rowA .u64 4 S'.l]) :: (s5, .segs false [.rowD F shSt S'.ds]) :: (k1, .gone) :: (k2, .gone) :: (key, .segs false (scriptSegs stamp s5 S')) :: (F, .pool .z (zs ++ List.replicate g [])) :: ws, true⟩) hrun
          clear hrun
          obtain ⟨hnl, hp⟩ := hp
          obtain ⟨hpa, hpb⟩ := AllP.append (l := p) (r := p') hp
          have hA := hAs hpa
          obtain ⟨vsK, sK, _, _, _⟩ := hm.segs hkey
          obtain ⟨_, _, ⟨_, u1, hu1, _⟩, _, _⟩ := sK
          simp only [D] at hu1
          obtain ⟨_, f1, f2, f3, _⟩ := hu1
          obtain ⟨_, sA, _⟩ := hm.segs h1
          obtain ⟨_, _, ⟨fA, _⟩, _⟩ := sA
          obtain ⟨_, sD, _⟩ := hm.segs h2
          obtain ⟨_, _, ⟨_, _, _, _, _, fD⟩, _⟩ := sD
          obtain ⟨args', L, inv, o1, o2, o3⟩ := h ⟨l, off.z, len.z, ds, mb⟩ avs p' S' r g zs hspec hpb (AsD.fact hm avs vs' [] hA) f1 f2 f3 fA fD
          have hop1 : ∀ k b, assoc (scriptH ⟨l, off.z, len.z, ds, mb⟩ zs) k = some b → ∃ i, k = 600 + i ∧ i < [key, k1, k2, F].length ∧ OpenD H ρ [key, k1, k2, F] i b := fun k b hkb => by
           simp only [scriptH, assoc] at hkb
           split at hkb
           ·rename_i e
            have e := Nat.eq_of_beq_eq_true e
            simp only [Option.some.injEq] at hkb
            subst e hkb
            refine ⟨0, rfl, by simp, .inl ⟨_, _, rfl, hkey, fun dm ρ' hj cs hcs => ?_⟩⟩
            exact scr_ren hnl rfl rfl (hj 1 (by simp)).1 (hj 2 (by simp)).1 (hj 1 (by simp)).2 (hj 2 (by simp)).2 cs hcs
           ·split at hkb
            ·rename_i e
             have e := Nat.eq_of_beq_eq_true e
             simp only [Option.some.injEq] at hkb
             subst e hkb
             exact ⟨1, rfl, by simp, .inl ⟨_, _, rfl, h1, fun dm ρ' hj cs hcs => rowA_ren cs hcs⟩⟩
            ·split at hkb
             ·rename_i e
              have e := Nat.eq_of_beq_eq_true e
              simp only [Option.some.injEq] at hkb
              subst e hkb
              exact ⟨2, rfl, by simp, .inl ⟨_, _, rfl, h2, fun dm ρ' hj cs hcs => rowD_ren (hj 3 (by simp)).1 (hj 3 (by simp)).2 cs hcs⟩⟩
             ·split at hkb
              ·rename_i e
               have e := Nat.eq_of_beq_eq_true e
               simp only [Option.some.injEq] at hkb
               subst e hkb
               exact ⟨3, rfl, by simp, .inr ⟨_, _, rfl, rfl, hF⟩⟩
              ·cases hkb
          have hop2 : ∀ i, i < [key, k1, k2, F].length → (assoc (scriptH ⟨l, off.z, len.z, ds, mb⟩ zs) (600 + i)).isSome = true := fun i hi => by
           have hi : i < 4 := hi
           have : i = 0 ∨ i = 1 ∨ i = 2 ∨ i = 3 := by omega
           rcases this with rfl | rfl | rfl | rfl <;> rfl
          obtain ⟨ρ0, y1, y2, y3, y4, y5⟩ := open_mem (Γ := Γ) (ks := [key, k1, k2, F]) (M' := fun b => ∃ k ∈ [key, k1, k2, F], OwnM H ρ w k b) hG hgl hlow hm (by simp [n1, n2, n3, n4, n5, n6]) (fun b => Iff.rfl) hop1 hop2
          -- with a store of the callee's own
          obtain ⟨ρ1, m1, m2, m3, m4, m5⟩ : ∃ ρ1 : Nat → Pl, Mem w (fun b => ∃ k ∈ [key, k1, k2, F], OwnM H ρ w k b) ρ1 (assoc (Γ.gh ++ (490, .world) :: bigH big (scriptH ⟨l, off.z, len.z, ds, mb⟩ zs))) w ∧ GlOk Γ w (fun b => ∃ k ∈ [key, k1, k2, F], OwnM H ρ w k b) ρ1 (assoc (Γ.gh ++ (490, .world) :: bigH big (scriptH ⟨l, off.z, len.z, ds, mb⟩ zs))) ∧
            dmOf (assoc (Γ.gh ++ (490, .world) :: bigH big (scriptH ⟨l, off.z, len.z, ds, mb⟩ zs))) 490 ∧ (ρ1 490).rel = RoD w (OutB w fun b => ∃ k ∈ [key, k1, k2, F], OwnM H ρ w k b) ∧
            ∀ i, i < [key, k1, k2, F].length → dmOf (assoc (Γ.gh ++ (490, .world) :: bigH big (scriptH ⟨l, off.z, len.z, ds, mb⟩ zs))) (600 + i) ∧ ρ1 (600 + i) = ρ ([key, k1, k2, F].getD i 0) := by
           cases big with
           | false => exact ⟨ρ0, y1, y2, y3, y4, y5⟩
           | true =>
            have hno : assoc (Γ.gh ++ (490, .world) :: scriptH ⟨l, off.z, len.z, ds, mb⟩ zs) 604 = none := by
             rw [assoc_app]
             have : assoc Γ.gh 604 = none := by
              cases e : assoc Γ.gh 604 with
              | none => rfl
              | some b => have := hlow 604 (keysOf_of_dm (by unfold dmOf; rw [e]; rfl)); omega
             rw [this]; rfl
            have hup : assoc (Γ.gh ++ (490, .world) :: bigH true (scriptH ⟨l, off.z, len.z, ds, mb⟩ zs)) = updH (assoc (Γ.gh ++ (490, .world) :: scriptH ⟨l, off.z, len.z, ds, mb⟩ zs)) 604 (.pool .z []) := by
             funext j
             by_cases e : j = 604
             ·subst e
              rw [updH_same]
              show assoc (Γ.gh ++ (490, .world) :: (scriptH ⟨l, off.z, len.z, ds, mb⟩ zs ++ [(604, .pool .z [])])) 604 = _
              rw [← List.cons_append, ← List.append_assoc, assoc_app, hno]
              rfl
             ·rw [updH_ne e]
              show assoc (Γ.gh ++ (490, .world) :: (scriptH ⟨l, off.z, len.z, ds, mb⟩ zs ++ [(604, .pool .z [])])) j = _
              rw [← List.cons_append, ← List.append_assoc, assoc_app]
              split
              ·rename_i x hx; rw [hx]
              ·rename_i hx
               rw [hx]
               have : Nat.beq 604 j = false := by
                cases hb : Nat.beq 604 j with
                | false => rfl
                | true => exact absurd (Nat.eq_of_beq_eq_true hb).symm e
               simp only [assoc, this]
            rw [hup]
            refine ⟨_, y1.store_new hno, ⟨fun g hg => ?_, y2.2⟩, dm_updH _ _ _ _ y3, by rw [updP_ne (by decide)]; exact y4, fun i hi => ⟨dm_updH _ _ _ _ (y5 i hi).1, ?_⟩⟩
            ·have := y2.1 g hg
             have hg' := hlow g (by rw [← hgl]; exact hg)
             rw [updP_ne (by omega)]
             exact ⟨dm_updH _ _ _ _ this.1, this.2⟩
            ·have hi : i < 4 := hi
             rw [updP_ne (by omega)]
             exact (y5 i hi).2
          clear y1 y2 y3 y4 y5
          have hv0' : D (dmOf (assoc (Γ.gh ++ (490, .world) :: bigH big (scriptH ⟨l, off.z, len.z, ds, mb⟩ zs)))) ρ1 (scrSV t 600) v0 := by
           have e0 : ρ1 600 = ρ key := (m5 0 (by simp)).2
           cases t with
           | none =>
            simp only [scrSV, D] at hv0 ⊢
            exact ⟨(m5 0 (by simp)).1, by rw [hv0.2, e0]⟩
           | some t =>
            simp only [scrSV, D] at hv0 ⊢
            exact ⟨(m5 0 (by simp)).1, by rw [hv0.2, e0]⟩
          have hargs : Ds (dmOf (assoc (Γ.gh ++ (490, .world) :: bigH big (scriptH ⟨l, off.z, len.z, ds, mb⟩ zs)))) ρ1 (scrSV t 600 :: args') (v0 :: vs') :=
           ⟨_, vs', hv0', rfl, okA_args m3 m4 avs vs' [] 700 args' [] hA o1 (fun i hi => absurd hi (by simp))⟩
          refine .inr ⟨f, _, GoFn.run ⟨fn, hf, hn, hb⟩ _ _, (vcX_calls hΓ hf o3 (by simpa using o2) m2 m1 hargs).mono fun e w' he => ?_⟩
          obtain ⟨x, v, h', ρ', rfl, r1, r2, r3, r4⟩ := he
          obtain ⟨a, b, off', len', n', st', S1, zs1, t0, ta, tb, tF, tn, to, tl, rfl, tx, rfl⟩ := kvScr_sound r1
          refine ⟨_, rfl, ?_⟩
          have hle6 : PlLe (ρ key) (ρ' 600) := by have := (r4 600 (m5 0 (by simp)).1).2; rwa [show ρ1 600 = ρ key from (m5 0 (by simp)).2] at this
          have hle3 : PlLe (ρ F) (ρ' 603) := by have := (r4 603 (m5 3 (by simp)).1).2; rwa [show ρ1 603 = ρ F from (m5 3 (by simp)).2] at this
          have hdk : ∀ k b, H k = some b → k ≠ stamp ∧ k ≠ s5 := fun k b hk => ⟨fun e => (by rw [e, hst] at hk; cases hk), fun e => (by rw [e, hs5] at hk; cases hk)⟩
          -- the entries behind the call
          have hHn : ∀ (E : Nat → Option (Option Nat)) (Hx : Nat → Option SB), (∀ k, E k ≠ none ↔ ∃ b, (k, b) ∈ ws) → (∀ J : Nat → Option SB, (∀ j, E j = none → updsH J ws j = J j) ∧ ∀ j, E j ≠ none → updsH J ws j = Hx j) →
            updsH H ((stamp, .segs false [.rowA .u64 4 S1.l]) :: (s5, .segs false [.rowD F shSt S1.ds]) :: (k1, .gone) :: (k2, .gone) :: (key, .segs false (scriptSegs stamp s5 S1)) :: (F, .pool .z (zs ++ List.replicate g [])) :: ws) = bkH H E Hx stamp s5 k1 k2 key F S1 (zs ++ List.replicate g []) := fun E Hx hE hJ => by
           funext j
           show updsH (updH (updH (updH (updH (updH (updH H _ _) _ _) _ _) _ _) _ _) _ _) ws j = _
           have q := hJ (updH (updH (updH (updH (updH (updH H stamp (.segs false [.rowA .u64 4 S1.l])) s5 (.segs false [.rowD F shSt S1.ds])) k1 .gone) k2 .gone) key (.segs false (scriptSegs stamp s5 S1))) F (.pool .z (zs ++ List.replicate g [])))
           have ks1 := hdk _ _ hkey
           have ks2 := hdk _ _ hF
           have ks3 := hdk _ _ h1
           have ks4 := hdk _ _ h2
           cases eE : E j with
           | some o =>
            rw [q.2 j (by rw [eE]; simp)]
            obtain ⟨bb, hbb⟩ := (hE j).1 (by rw [eE]; simp)
            obtain ⟨z1, z2⟩ := hws j bb hbb
            have m1 : j ≠ stamp ∧ j ≠ s5 := by
             rcases z2 with rfl | rfl
             ·exact ⟨nq.1, nq.2.1⟩
             ·exact ⟨nq.2.2.1, nq.2.2.2⟩
            have m2 : j ≠ key := fun e => by rw [e, hkey] at z1; cases z1
            have m3 : j ≠ F := fun e => by rw [e, hF] at z1; cases z1
            simp only [bkH, m1.1, m1.2, m2, m3, if_false, eE]
           | none =>
            rw [q.1 j eE]
            unfold bkH
            by_cases a1 : j = stamp
            ·subst a1
             rw [if_pos rfl, updH_ne (Ne.symm ks2.1), updH_ne (Ne.symm ks1.1), updH_ne (Ne.symm ks4.1), updH_ne (Ne.symm ks3.1), updH_ne n56, updH_same]
            ·rw [if_neg a1]
             by_cases a2 : j = s5
             ·subst a2
              rw [if_pos rfl, updH_ne (Ne.symm ks2.2), updH_ne (Ne.symm ks1.2), updH_ne (Ne.symm ks4.2), updH_ne (Ne.symm ks3.2), updH_same]
             ·rw [if_neg a2]
              by_cases a3 : j = key
              ·subst a3
               rw [if_pos rfl, updH_ne n3, updH_same]
              ·rw [if_neg a3]
               by_cases a4 : j = F
               ·subst a4
                rw [if_pos rfl, updH_same]
               ·rw [if_neg a4, updH_ne a4, updH_ne a3, eE]
                unfold updH
                simp only [a1, a2, if_false]
          cases r with
          | v r =>
           simp only [resS, Option.some.injEq, Prod.mk.injEq] at hrs
           obtain ⟨rfl, rfl⟩ := hrs
           obtain ⟨b1, b2⟩ := scr_back hm hkey h1 h2 hF n1 n2 n4 hst hs5 n56 r3 t0 ta tb tF tn to tl hle6 hle3 (fun _ => none) (fun _ => none) (fun k hk => absurd rfl hk) (fun k c hk => by cases hk) (fun k hk => by cases hk) (fun k k' c hk => by cases hk)
           refine ⟨_, b2, eqV_D x r v tx r2, ?_⟩
           have hup := hHn (fun _ => none) (fun _ => none) (fun k => ⟨fun hk => absurd rfl hk, fun ⟨_, hk⟩ => by cases hk⟩) (fun J => ⟨fun _ _ => rfl, fun _ hk => absurd rfl hk⟩)
           show Mem w0 M _ (updsH H _) w'
           rw [hup]
           exact b1
          | rowS lq =>
           simp only [resS, Option.some.injEq, Prod.mk.injEq] at hrs
           obtain ⟨rfl, rfl⟩ := hrs
           have hs6 : H s6 = none := (hws s6 _ (List.mem_singleton.2 rfl)).1
           have tx : canR h' x fun l' => l' = lq := tx
           have hcase : ∃ o : Option Nat, (∀ c, o = some c → notS h' c = true ∧ assoc h' c = some (.segs false [.rowA .u64 4 lq])) ∧ (o = none → lq = []) ∧ (∀ (dm : Nat → Prop) (σ : Nat → Pl), dm s6 → (∀ c, o = some c → σ s6 = ρ' c) → D dm σ (.sl s6 0 4 ⟨true, .ofNat 0⟩ ⟨false, (lq.length : Int)⟩) v) := by
            unfold canR at tx
            split at tx
            ·refine ⟨none, (fun c hc => by cases hc), fun _ => tx.symm, fun dm σ hd _ => ?_⟩
             subst tx
             have r2 : v = .slice none 0 0 := r2
             subst r2
             simp only [D]
             exact ⟨hd, Int.le_refl _, Int.le_refl _, by constructor <;> decide, none, 0, rfl, Nat.le_refl _, .inr ⟨rfl, rfl⟩⟩
            ·rename_i ka len0 _
             split at tx
             ·rename_i lz hz0 hz
              obtain ⟨u1, rfl⟩ := tx
              refine ⟨some ka, (fun c hc => by cases hc; exact ⟨hz0, hz⟩), (fun hc => by cases hc), fun dm σ hd hσ => sl_ren r2 hd (hσ ka rfl) rfl u1.symm⟩
             ·exact tx.elim
            ·exact tx.elim
           obtain ⟨o, c1, c2, c3⟩ := hcase
           let E : Nat → Option (Option Nat) := fun j => if j = s6 then some o else none
           have hE : ∀ k x, E k = some x → k = s6 ∧ x = o := fun k x hk => by
            by_cases e : k = s6
            ·simp only [E, e, if_true, Option.some.injEq] at hk; exact ⟨e, hk.symm⟩
            ·simp only [E, e, if_false] at hk; cases hk
           have hE6 : E s6 = some o := by simp [E]
           have hnn : s6 ≠ stamp ∧ s6 ≠ s5 := ⟨nq.1, nq.2.1⟩
           have n6k : s6 ≠ key := fun e => by rw [e, hkey] at hs6; cases hs6
           have n6F : s6 ≠ F := fun e => by rw [e, hF] at hs6; cases hs6
           obtain ⟨b1, b2⟩ := scr_back hm hkey h1 h2 hF n1 n2 n4 hst hs5 n56 r3 t0 ta tb tF tn to tl hle6 hle3 E (fun _ => some (.segs false [.rowA .u64 4 lq]))
            (fun k hk => by
             obtain ⟨y, hy⟩ := Option.ne_none_iff_exists'.1 hk
             obtain ⟨rfl, _⟩ := hE k y hy
             exact ⟨hs6, hnn⟩)
            (fun k c hk => by
             obtain ⟨rfl, e⟩ := hE k _ hk
             obtain ⟨hns, hc⟩ := c1 c e.symm
             refine ⟨fun e => notS_a t0 (by rw [← e]; exact hns), fun e => ?_, fun e => ?_, fun e => ?_, .inr ⟨_, _, rfl, hc, fun cs hcs => rowA_ren cs hcs⟩⟩
             ·rw [e, tb] at hc; cases hc
             ·rw [e, t0] at hc; cases hc
             ·rw [e, tF] at hc; cases hc)
            (fun k hk => by
             obtain ⟨rfl, e⟩ := hE k _ hk
             have := c2 e.symm
             subst this
             exact ⟨_, rfl, [], [], ⟨(fun y hy => by cases hy), rfl⟩, rfl, rfl⟩)
            (fun k k' c e1 e2 => (hE k _ e1).1.trans (hE k' _ e2).1.symm)
           have hup := hHn E (fun _ => some (.segs false [.rowA .u64 4 lq])) (fun k => ⟨fun hk => by
             obtain ⟨y, hy⟩ := Option.ne_none_iff_exists'.1 hk
             obtain ⟨rfl, _⟩ := hE k y hy
             exact ⟨_, List.mem_singleton.2 rfl⟩, fun ⟨bb, hk⟩ => by
             have := List.mem_singleton.1 hk
             simp only [Prod.mk.injEq] at this
             rw [this.1, hE6]; simp⟩) (fun J => ⟨fun j hj => updH_ne fun e => (by rw [e, hE6] at hj; cases hj), fun j hj => by
             obtain ⟨y, hy⟩ := Option.ne_none_iff_exists'.1 hj
             obtain ⟨rfl, _⟩ := hE j y hy
             exact updH_same _ _ _⟩)
           refine ⟨_, b2, ?_, ?_⟩
           ·refine c3 _ _ ?_ fun c hc => ?_
            ·show dmOf (updsH H _) s6
             rw [hup]
             unfold dmOf bkH
             simp [hnn, n6k, n6F, hE6]
            ·unfold bkP
             simp [hnn, n6k, n6F, hE6, hc]
           ·show Mem w0 M _ (updsH H _) w'
            rw [hup]
            exact b1
          | said dq mq =>
           simp only [resS, Option.some.injEq, Prod.mk.injEq] at hrs
           obtain ⟨rfl, rfl⟩ := hrs
           have hs6 : H s6 = none := (hws s6 _ (List.mem_cons.2 (.inl rfl))).1
           have hs7 : H s7 = none := (hws s7 _ (List.mem_cons.2 (.inr (List.mem_singleton.2 rfl)))).1
           have tx : canD h' x fun ds' zs => ds' = dq ∧ zs = List.replicate mq [] := tx
           have hcase : assoc h' 604 = some (.pool .z (List.replicate mq [])) ∧ ∃ o : Option Nat, (∀ c, o = some c → notS h' c = true ∧ assoc h' c = some (.segs false [.rowD 604 shSt dq])) ∧ (o = none → dq = []) ∧ (∀ (dm : Nat → Prop) (σ : Nat → Pl), dm s6 → (∀ c, o = some c → σ s6 = ρ' c) → D dm σ (.sl s6 0 3 ⟨true, .ofNat 0⟩ ⟨false, (dq.length : Int)⟩) v) := by
            unfold canD at tx
            split at tx
            ·rename_i zq hzq
             split at tx
             ·obtain ⟨rfl, rfl⟩ := tx
              refine ⟨hzq, none, (fun c hc => by cases hc), fun _ => rfl, fun dm σ hd _ => ?_⟩
              have r2 : v = .slice none 0 0 := r2
              subst r2
              simp only [D]
              exact ⟨hd, Int.le_refl _, Int.le_refl _, by constructor <;> decide, none, 0, rfl, Nat.le_refl _, .inr ⟨rfl, rfl⟩⟩
             ·rename_i ka len0 _
              split at tx
              ·rename_i Fz dz hz0 hz
               split at tx
               ·rename_i eF
                have eF := Nat.eq_of_beq_eq_true eF
                subst eF
                obtain ⟨u1, rfl, rfl⟩ := tx
                exact ⟨hzq, some ka, (fun c hc => by cases hc; exact ⟨hz0, hz⟩), (fun hc => by cases hc), fun dm σ hd hσ => sl_ren r2 hd (hσ ka rfl) rfl u1.symm⟩
               ·exact tx.elim
              ·exact tx.elim
             ·exact tx.elim
            ·exact tx.elim
           obtain ⟨c0, o, c1, c2, c3⟩ := hcase
           let E : Nat → Option (Option Nat) := fun j => if j = s6 then some o else if j = s7 then some (some 604) else none
           let Hx : Nat → Option SB := fun j => if j = s6 then some (.segs false [.rowD s7 shSt dq]) else some (.pool .z (List.replicate mq []))
           have hE : ∀ k x, E k = some x → (k = s6 ∧ x = o) ∨ (k = s7 ∧ x = some 604) := fun k x hk => by
            by_cases e : k = s6
            ·simp only [E, e, if_true, Option.some.injEq] at hk; exact .inl ⟨e, hk.symm⟩
            ·by_cases e' : k = s7
             ·simp only [E, e', Ne.symm n57, if_false, if_true, Option.some.injEq] at hk; exact .inr ⟨e', hk.symm⟩
             ·simp only [E, e, e', if_false] at hk; cases hk
           have hE6 : E s6 = some o := by simp [E]
           have hE7 : E s7 = some (some 604) := by simp [E, Ne.symm n57]
           have hX6 : Hx s6 = some (.segs false [.rowD s7 shSt dq]) := by simp [Hx]
           have hX7 : Hx s7 = some (.pool .z (List.replicate mq [])) := by simp [Hx, Ne.symm n57]
           have hnn : s6 ≠ stamp ∧ s6 ≠ s5 := ⟨nq.1, nq.2.1⟩
           have hn7 : s7 ≠ stamp ∧ s7 ≠ s5 := ⟨nq.2.2.1, nq.2.2.2⟩
           have n6k : s6 ≠ key := fun e => by rw [e, hkey] at hs6; cases hs6
           have n6F : s6 ≠ F := fun e => by rw [e, hF] at hs6; cases hs6
           have n7k : s7 ≠ key := fun e => by rw [e, hkey] at hs7; cases hs7
           have n7F : s7 ≠ F := fun e => by rw [e, hF] at hs7; cases hs7
           have hd7 : dmOf (bkH H E Hx stamp s5 k1 k2 key F S1 (zs ++ List.replicate g [])) s7 := by
            unfold dmOf bkH
            simp [hn7, n7k, n7F, hE7, hX7]
           have hp7 : bkP ρ ρ' E stamp s5 key F a b s7 = ρ' 604 := by
            unfold bkP
            simp [hn7, n7k, n7F, hE7]
           obtain ⟨b1, b2⟩ := scr_back hm hkey h1 h2 hF n1 n2 n4 hst hs5 n56 r3 t0 ta tb tF tn to tl hle6 hle3 E Hx
            (fun k hk => by
             obtain ⟨y, hy⟩ := Option.ne_none_iff_exists'.1 hk
             rcases hE k y hy with ⟨rfl, _⟩ | ⟨rfl, _⟩
             ·exact ⟨hs6, hnn⟩
             ·exact ⟨hs7, hn7⟩)
            (fun k c hk => by
             rcases hE k _ hk with ⟨rfl, e⟩ | ⟨rfl, e⟩
             ·obtain ⟨hns, hc⟩ := c1 c e.symm
              refine ⟨fun e => ?_, fun e => notS_b t0 (by rw [← e]; exact hns), fun e => ?_, fun e => ?_, .inr ⟨_, _, hX6, hc, fun cs hcs => rowD_ren hd7 hp7 cs hcs⟩⟩
              ·rw [e, ta] at hc; cases hc
              ·rw [e, t0] at hc; cases hc
              ·rw [e, tF] at hc; cases hc
             ·simp only [Option.some.injEq] at e
              subst e
              refine ⟨fun e => ?_, fun e => ?_, by decide, by decide, .inl ⟨_, _, hX7, rfl, c0⟩⟩
              ·rw [← e, c0] at ta; cases ta
              ·rw [← e, c0] at tb; cases tb)
            (fun k hk => by
             rcases hE k _ hk with ⟨rfl, e⟩ | ⟨rfl, e⟩
             ·have := c2 e.symm
              subst this
              have hP := r3.pools.pool 604 _ _ c0
              obtain ⟨wF, eF, _⟩ := hP.fzD rfl
              refine ⟨_, hX6, [], [], ⟨hd7, ⟨wF, _, by rw [hp7]; exact eF⟩, rfl, rfl, (fun y hy => by cases hy), (fun y hy => by cases hy)⟩, rfl, rfl⟩
             ·cases e)
            (fun k k' c e1 e2 => by
             rcases hE k _ e1 with ⟨rfl, e⟩ | ⟨rfl, e⟩ <;> rcases hE k' _ e2 with ⟨rfl, e'⟩ | ⟨rfl, e'⟩
             ·rfl
             ·rw [e'] at e; have := (c1 604 e.symm).2; rw [c0] at this; cases this
             ·rw [e] at e'; have := (c1 604 e'.symm).2; rw [c0] at this; cases this
             ·rfl)
           have hup := hHn E Hx (fun k => ⟨fun hk => by
             obtain ⟨y, hy⟩ := Option.ne_none_iff_exists'.1 hk
             rcases hE k y hy with ⟨rfl, _⟩ | ⟨rfl, _⟩
             ·exact ⟨_, List.mem_cons.2 (.inl rfl)⟩
             ·exact ⟨_, List.mem_cons.2 (.inr (List.mem_singleton.2 rfl))⟩, fun ⟨bb, hk⟩ => by
             simp only [List.mem_cons, Prod.mk.injEq, List.not_mem_nil, or_false] at hk
             rcases hk with ⟨rfl, _⟩ | ⟨rfl, _⟩
             ·rw [hE6]; simp
             ·rw [hE7]; simp⟩) (fun J => ⟨fun j hj => by
             have e : j ≠ s6 := fun e => by rw [e, hE6] at hj; cases hj
             have e' : j ≠ s7 := fun e => by rw [e, hE7] at hj; cases hj
             show updH (updH J s6 _) s7 _ j = _
             rw [updH_ne e', updH_ne e], fun j hj => by
             obtain ⟨y, hy⟩ := Option.ne_none_iff_exists'.1 hj
             show updH (updH J s6 _) s7 _ j = _
             rcases hE j y hy with ⟨rfl, _⟩ | ⟨rfl, _⟩
             ·rw [updH_ne n57, updH_same, hX6]
             ·rw [updH_same, hX7]⟩)
           refine ⟨_, b2, ?_, ?_⟩
           ·refine c3 _ _ ?_ fun c hc => ?_
            ·show dmOf (updsH H _) s6
             rw [hup]
             unfold dmOf bkH
             simp [hnn, n6k, n6F, hE6, hX6]
            ·unfold bkP
             simp [hnn, n6k, n6F, hE6, hc]
           ·show Mem w0 M _ (updsH H _) w'
            rw [hup]
            exact b1
         ·simp [RP.run] at hrun
        ·simp [RP.run] at hrun
       ·simp [RP.run] at hrun
      ·simp [RP.run] at hc
     ·simp [RP.run] at hc
    ·simp [RP.run] at hc
   ·simp [RP.run] at hc
  ·simp [RP.run] at hc
 ·simp [RP.run] at hc

theorem call_scr (hΓ : TabOk P Γ) (hgl : Γ.gl = keysOf Γ.gh) (hlow : ∀ g ∈ keysOf Γ.gh, g < 490) {f : FuncId} {fn : Func} (hf : P.funcs[f]? = some fn) (hn : (fn.name == "runtime.NumGoroutine") = false) (hb : fn.body.isNone = false) (ms : List Md) (hro : onlyRO ms = true)
  (spec : Scr → List AV → Option (List Prop × Scr × SV × Nat))
  (h : ∀ S avs p S' r g zs, spec S avs = some (p, S', r, g) → AllP p → FactA avs → 0 ≤ S.off → 0 ≤ S.len → InR .i64 S.len → AllA .u64 4 S.l → (∀ d ∈ S.ds, RoF shSt d) →
   ∃ args' L inv, okA 700 avs args' [] ∧ args'.length + 1 ≤ fn.ntmps ∧ VcX (fun x h' => kvScr x h' fun x1 S1 zs1 => S1 = S' ∧ eqV x1 r ∧ zs1 = zs ++ List.replicate g []) Γ fn L (Γ.gh ++ (490, .world) :: scriptH S zs) (.p 600 0 :: args') inv) :
  CallOk P Γ.gh f (scrCtr ms spec) := by
 refine call_scq hΓ hgl hlow hf hn hb none false ms hro _ fun S avs p S' r g zs hs hp hf h0 h1 h2 h3 h4 => ?_
 cases e : spec S avs with
 | none => rw [e] at hs; cases hs
 | some q =>
  obtain ⟨p', S1, r', g'⟩ := q
  rw [e] at hs
  simp only [Option.some.injEq, Prod.mk.injEq] at hs
  obtain ⟨rfl, rfl, rfl, rfl⟩ := hs
  exact h S avs _ _ _ _ zs e hp hf h0 h1 h2 h3 h4

end
end Go.Gx

/- A list of rows is copied. -/
namespace Go.Gx
open Go.Proofs Go.Sp
set_option linter.unusedVariables false
set_option maxRecDepth 100000

def L34 : Loops := [(3, ⟨[.any, .any, .any, .nsl, .any, .any, .ro 490 (.l (.ints .u8)) (.r []), .i .i64 ⟨false, 0⟩, .i .i64 ⟨false, 0⟩] ++ reps .any 10, [(490, .world)], 2000⟩),
 (1003, ⟨[.any, .any, .any, .sl 1000 0 1 ⟨true, .ofNat 0⟩ ⟨false, 0⟩, .any, .any, .ro 490 (.l (.ints .u8)) (.r []), .i .i64 ⟨false, 0⟩, .i .i64 ⟨false, 0⟩] ++ reps .any 10, [(490, .world), (1000, .segs false [.rowH 1001 []]), (1001, .pool (.k .u8) [])], 2000⟩)]
def vc34 (d : RO) (KV : Hdrs → List (List Int) → Prop) (Q : Nat → List Pv → Prop) : Prop := fnVcX Γe Tryd.f34 L34 [.ro 490 (.l (.ints .u8)) d] ([] ++ [(490, .world)]) (fun x h => kvH1 .u8 x h KV) Q
def lc34a (d : RO) (n i : Int) (KV : Hdrs → List (List Int) → Prop) (Q : Nat → List Pv → Prop) : Prop := loopVcX Γe Tryd.f34 L34 3 [.ro d, .z n, .z i] (fun x h => kvH1 .u8 x h KV) Q
def lc34b (y : Int) (d : RO) (n i : Int) (hs : Hdrs) (ms : List (List Int)) (KV : Hdrs → List (List Int) → Prop) (Q : Nat → List Pv → Prop) : Prop := loopVcX Γe Tryd.f34 L34 1003 [.z y, .ro d, .z n, .z i, .hh hs, .ll ms] (fun x h => kvH1 .u8 x h KV) Q
theorem vc34_eq : ∀ (d : RO) (KV : Hdrs → List (List Int) → Prop) (Q : Nat → List Pv → Prop), vc34 d KV Q = (Same Tryd.f34 3 (itemsOf Tryd.f34 3) ∧ Q 3 [Pv.ro d, Pv.z (((roX d).length : Nat) : Int), Pv.z 0]) := by
 intros
 kernel_rfl
theorem lc34a_eq : ∀ (d : RO) (n i : Int) (KV : Hdrs → List (List Int) → Prop) (Q : Nat → List Pv → Prop), lc34a d n i KV Q = ((decide (i < n) = true → Need (0 ≤ i ∧ i < (((roX d).length : Nat) : Int)) ∧ Need (((([] ++ roL (roN d i.toNat)).length : Nat) : Int) * 1 ≤ (70368744177664 : Int)) ∧ ForL .u8 ([] ++ roL (roN d i.toNat)) fun x1 => ForN ((([] ++ roL (roN d i.toNat)).length : Nat) : Int) fun x2 => Need ((24 : Int) ≤ 70368744177664) ∧ ∀ (x3 : List (List Int)), x3 = [x1] → ForN (1 : Int) fun x4 => ForI .i64 (IntKind.i64.wrap (i + 1)) fun x5 => Same Tryd.f34 3 (itemsOf Tryd.f34 3) ∧ Q 1003 [Pv.z x4, Pv.ro d, Pv.z n, Pv.z x5, Pv.hh ([] ++ [((0 : Nat), x2.toNat)]), Pv.ll x3]) ∧ (decide (i < n) = false → KV [] [])) := by
 intros
 kernel_rfl
theorem lc34b_eq : ∀ (y : Int) (d : RO) (n i : Int) (hs : Hdrs) (ms : List (List Int)) (KV : Hdrs → List (List Int) → Prop) (Q : Nat → List Pv → Prop), lc34b y d n i hs ms KV Q = ((decide (i < n) = true → Need (0 ≤ i ∧ i < (((roX d).length : Nat) : Int)) ∧ Need (((([] ++ roL (roN d i.toNat)).length : Nat) : Int) * 1 ≤ (70368744177664 : Int)) ∧ ForL .u8 ([] ++ roL (roN d i.toNat)) fun x1 => ForN ((([] ++ roL (roN d i.toNat)).length : Nat) : Int) fun x2 => Need ((((List.length hs + 1) : Nat) : Int) * 24 ≤ (70368744177664 : Int)) ∧ Need (y = (((List.length hs) : Nat) : Int)) ∧ ∀ (x3 : List (List Int)), x3 = ms ++ [x1] → ForN (((List.length hs + 1) : Nat) : Int) fun x4 => ForI .i64 (IntKind.i64.wrap (i + 1)) fun x5 => Same Tryd.f34 3 (itemsOf Tryd.f34 3) ∧ Q 1003 [Pv.z x4, Pv.ro d, Pv.z n, Pv.z x5, Pv.hh (hs ++ [(ms.length, x2.toNat)]), Pv.ll x3]) ∧ (decide (i < n) = false → Need (y = (((List.length hs) : Nat) : Int)) ∧ KV hs ms)) := by
 intros
 kernel_rfl

def cpRows (d : RO) (j : Nat) : List (List Int) := (List.range j).map fun i => roL (roN d i)
def cpHs (d : RO) (j : Nat) : Hdrs := (List.range j).map fun i => (i, (roL (roN d i)).length)
theorem cpRows_len (d : RO) (j : Nat) : (cpRows d j).length = j := by simp [cpRows]
theorem cpHs_len (d : RO) (j : Nat) : (cpHs d j).length = j := by simp [cpHs]
theorem cpRows_s (d : RO) (j : Nat) : cpRows d (j + 1) = cpRows d j ++ [roL (roN d j)] := by simp [cpRows, List.range_succ]
theorem cpHs_s (d : RO) (j : Nat) : cpHs d (j + 1) = cpHs d j ++ [(j, (roL (roN d j)).length)] := by simp [cpHs, List.range_succ]
theorem cpRows_at (d : RO) {n i : Nat} (h : i < n) : (cpRows d n).getD i [] = roL (roN d i) := by simp [cpRows, List.getD_eq_getElem?_getD, h]
theorem cp_ok (d : RO) : copK d (cpHs d (roX d).length) (cpRows d (roX d).length) := by
 refine ⟨?_, fun h hh => ?_, cpRows_len d _⟩
 ·apply List.ext_getElem
  ·simp [cpHs]
  ·intro i h1 h2
   have hi : i < (roX d).length := by simpa [cpHs] using h1
   have e : roN d i = (roX d)[i] := by simp [roN, List.getD_eq_getElem?_getD, hi]
   have e2 := cpRows_at d hi
   rw [List.getD_eq_getElem?_getD] at e2
   simp [cpHs, e2, e]
 ·simp only [cpHs, List.mem_map, List.mem_range] at hh
  obtain ⟨i, hi, rfl⟩ := hh
  rw [cpRows_at d hi]
  exact Nat.le_refl _
def inv34 (d : RO) (key : Nat) (ps : List Pv) (mm : Nat) : Prop :=
 (key = 3 ∧ ps = [.ro d, .z ((roX d).length : Int), .z 0] ∧ mm = (roX d).length + 1) ∨
 (key = 1003 ∧ ∃ j : Nat, 0 < j ∧ j ≤ (roX d).length ∧ ps = [.z (j : Int), .ro d, .z ((roX d).length : Int), .z (j : Int), .hh (cpHs d j), .ll (cpRows d j)] ∧ mm = (roX d).length - j)
theorem copied_ok (F : Nat) : CallOk Tryd.prog [] 34 (copCtr F) := by
 refine call_copied (Γ := Γe) (fn := Tryd.f34) Γe_ok rfl (fun g hg => by cases hg) rfl (by kernel_rfl) (by kernel_rfl) (Nat.le_of_ble_eq_true (by kernel_rfl)) fun d hp hf => ?_
 obtain ⟨h1, h2, _⟩ := hp
 obtain ⟨_, hlen⟩ := hf
 have h2' : ∀ i : Nat, i < (roX d).length → ((roL (roN d i)).length : Int) ≤ 70368744177664 := h2
 refine ⟨L34, inv34 d, ?_, ?_, ?_⟩
 ·intro kk t ht g hg
  have hg : g ∈ [490] := hg
  simp only [List.mem_cons, List.not_mem_nil, or_false] at hg
  subst hg
  simp only [L34, List.mem_cons, List.not_mem_nil, or_false, Prod.mk.injEq] at ht
  obtain ⟨rfl, rfl⟩ | ⟨rfl, rfl⟩ := ht <;> exact ⟨by omega, rfl⟩
 ·rintro vk t ps mm ht (⟨rfl, rfl, rfl⟩ | ⟨rfl, j, hj0, hj, rfl, rfl⟩)
  all_goals simp only [L34, List.mem_cons, List.not_mem_nil, or_false, Prod.mk.injEq, Nat.reduceEqDiff, false_and, true_and, false_or, or_false] at ht
  ·subst ht
   show lc34a d _ 0 _ _
   rw [lc34a_eq]
   refine ⟨fun hlt => ?_, fun hge => ?_⟩
   ·have hlt := of_decide_eq_true hlt
    have hjl : 0 < (roX d).length := by omega
    have hb := h2' 0 hjl
    refine ⟨need_of (by omega), need_of (by rw [toN0]; simp; omega), ?_⟩
    intro x1 e1 _ x2 e2 _ _
    rw [toN0] at e1 e2
    rw [List.nil_append] at e1 e2
    subst e1; subst e2
    refine ⟨need_of (by omega), ?_⟩
    intro x3 e3 x4 e4 _ _ x5 e5 _
    rw [wrap_i64 (by omega)] at e5
    subst e3; subst e4; subst e5
    refine ⟨rfl, (roX d).length - (0 + 1), by omega, Or.inr ⟨rfl, 0 + 1, by omega, by omega, ?_, rfl⟩⟩
    rw [cpHs_s, cpRows_s, Int.toNat_natCast]
    rfl
   ·have hge := of_decide_eq_false hge
    have h0 : (roX d).length = 0 := by omega
    have := cp_ok d
    rw [h0] at this
    exact this
  ·subst ht
   show lc34b (j : Int) d _ (j : Int) (cpHs d j) (cpRows d j) _ _
   rw [lc34b_eq]
   refine ⟨fun hlt => ?_, fun hge => ?_⟩
   ·have hlt := of_decide_eq_true hlt
    have hjl : j < (roX d).length := by omega
    have hb := h2' j hjl
    refine ⟨need_of (by omega), need_of (by rw [Int.toNat_natCast]; simp; omega), ?_⟩
    intro x1 e1 _ x2 e2 _ _
    rw [Int.toNat_natCast] at e1 e2
    rw [List.nil_append] at e1 e2
    subst e1; subst e2
    refine ⟨need_of (by rw [cpHs_len]; omega), need_of (by rw [cpHs_len]), ?_⟩
    intro x3 e3 x4 e4 _ _ x5 e5 _
    rw [wrap_i64 (by omega)] at e5
    rw [cpHs_len] at e4
    subst e3; subst e4; subst e5
    refine ⟨rfl, (roX d).length - (j + 1), by omega, Or.inr ⟨rfl, j + 1, by omega, by omega, ?_, rfl⟩⟩
    rw [cpHs_s, cpRows_s, cpRows_len, Int.toNat_natCast]
    rfl
   ·have hge := of_decide_eq_false hge
    obtain rfl : j = (roX d).length := by omega
    exact ⟨need_of (by rw [cpHs_len]), cp_ok d⟩
 ·show vc34 d _ _
  rw [vc34_eq]
  exact ⟨rfl, _, Or.inl ⟨rfl, rfl, rfl⟩⟩
end Go.Gx

/- Is a Script made? -/
namespace Go.Gx
open Go.Proofs Go.Sp
set_option linter.unusedVariables false
set_option maxRecDepth 100000

def vc33 (l : List (List Int)) (off len : Int) (ds : List RO) (b : Bool) (zs : List (List Int)) (K : SV → Scr → List (List Int) → Prop) (Q : Nat → List Pv → Prop) : Prop := fnVcX Γe Tryd.f33 [] [.p 600 0] ([] ++ (490, .world) :: scriptH ⟨l, off, len, ds, b⟩ zs) (fun x h => kvScr x h K) Q
theorem vc33_eq : ∀ (l : List (List Int)) (off len : Int) (ds : List RO) (b : Bool) (zs : List (List Int)) (K : SV → Scr → List (List Int) → Prop) (Q : Nat → List Pv → Prop), vc33 l off len ds b zs K Q = (Need (((ds.length : Nat) : Int) = ((ds.length : Nat) : Int)) ∧ K (.b false b) ⟨l, off, len, ds, b⟩ zs) := by
 intros
 kernel_rfl
def scLivesG : Scr → List AV → Option (List Prop × Scr × SV × Nat)
 | S, [] => some ([], S, .b false S.b, 0)
 | _, _ => none
theorem scLives_ok : CallOk Tryd.prog [] 33 (scrCtr [] scLivesG) := by
 refine call_scr (Γ := Γe) (fn := Tryd.f33) Γe_ok rfl (fun g hg => by cases hg) rfl (by kernel_rfl) (by kernel_rfl) _ rfl scLivesG fun S avs p S' r g zs hs hp hf h0 h1 h2 h3 h4 => ?_
 unfold scLivesG at hs
 split at hs
 ·simp only [Option.some.injEq, Prod.mk.injEq] at hs
  obtain ⟨rfl, rfl, rfl, rfl⟩ := hs
  refine ⟨[], [], _, trivial, Nat.le_of_ble_eq_true (by kernel_rfl), vcX_noloops ?_⟩
  show vc33 S.l S.off S.len S.ds S.b zs _ _
  rw [vc33_eq]
  exact ⟨need_of rfl, rfl, by simp only [eqV], by simp⟩
 ·cases hs
end Go.Gx

/- A Script hears what is absorbed. -/
namespace Go.Sp
open Go.Gx
def heardA (s : ByteArray) (d : RO) : RO := .r [.b false, .s s, d]
def heardD (s : ByteArray) : RO := .r [.b true, .s s, .r []]
def ansD (l : List (List Int)) (off len : Int) : List Int := if len = 0 then [0, 0, 0, 0] else Sc.words4 (Sc.val4 (l.getD off.toNat []) % Sc.ell)
def errD (l : List (List Int)) (off len : Int) : Int := if len = 0 then 5 else if Sc.val4 (l.getD off.toNat []) % Sc.ell = 0 then 4 else 0
def offD (off len : Int) : Int := if len = 0 then off else off + 1
def lenD (len : Int) : Int := if len = 0 then len else len - 1
end Go.Sp
namespace Go.Gx
open Go.Proofs Go.Sp
set_option linter.unusedVariables false
set_option maxRecDepth 100000

def Γs : Tab := ⟨tys, [(33, scrCtr [] scLivesG), (34, copCtr 603)], [], []⟩
theorem Γs_ok : TabOk Tryd.prog Γs := (TabOk.cons (TabOk.cons Γe_ok (copied_ok 603)) scLives_ok)
def vcAb (s : ByteArray) (d : RO) (l : List (List Int)) (off len : Int) (ds : List RO) (b : Bool) (zs : List (List Int)) (K : SV → Scr → List (List Int) → Prop) (Q : Nat → List Pv → Prop) : Prop := fnVcX Γs Tryd.f11 [] [.p 600 0, .s s, .ro 490 (.l (.ints .u8)) d] ([] ++ (490, .world) :: scriptH ⟨l, off, len, ds, b⟩ zs) (fun x h => kvScr x h K) Q
theorem vcAb_eq : ∀ (s : ByteArray) (d : RO) (l : List (List Int)) (off len : Int) (ds : List RO) (b : Bool) (zs : List (List Int)) (K : SV → Scr → List (List Int) → Prop) (Q : Nat → List Pv → Prop), vcAb s d l off len ds b zs K Q = (Need (((ds.length : Nat) : Int) = ((ds.length : Nat) : Int)) ∧ ∀ (x1 : List (List Int)), x1 = l → AllA IntKind.u64 (4 : Nat) x1 → ∀ (x2 : List (List Int)), x2 = zs ++ List.replicate (0 : Nat) [] → ∀ (x3 : Bool), x3 = b →
  (x3 = true → Need ((((roX d).length : Nat) : Int) * (24 : Int) ≤ (70368744177664 : Int)) ∧ Need (∀ (i : Nat), i < (roX d).length → (((roL (roN d i)).length : Nat) : Int) ≤ (70368744177664 : Int)) ∧ ∀ (x4 : List (List Int)), x4 = x2 ++ List.replicate ((roX d).length + (1 : Nat)) [] →
   Need (((ds.length + (1 : Nat) : Nat) : Int) * (48 : Int) ≤ (70368744177664 : Int)) ∧ Need (((ds.length : Nat) : Int) = ((ds.length : Nat) : Int)) ∧ ∀ (x5 : Int), x5 = ((ds.length + (1 : Nat) : Nat) : Int) → (0 : Int) ≤ x5 → InR IntKind.i64 x5 → Need (x5 = (((ds ++ [RO.r [RO.b false, RO.s s, d]]).length : Nat) : Int)) ∧ K (SV.tup []) ⟨x1, off, len, ds ++ [RO.r [RO.b false, RO.s s, d]], b⟩ x4) ∧
  (x3 = false → Need (((ds.length : Nat) : Int) = ((ds.length : Nat) : Int)) ∧ K (SV.tup []) ⟨x1, off, len, ds, b⟩ x2)) := by
 intros
 kernel_rfl
def scAbsG : Scr → List AV → Option (List Prop × Scr × SV × Nat)
 | S, [.v (.s s), .d (.l (.ints .u8)) d] => some ([S.b = true, AllP (copP d), (((S.ds.length + 1 : Nat) : Int)) * 48 ≤ 70368744177664], { S with ds := S.ds ++ [heardA s d] }, .tup [], (roX d).length + 1)
 | _, _ => none
theorem scAbs_ok : CallOk Tryd.prog [] 11 (scrCtr [.v, .d (.l (.ints .u8))] scAbsG) := by
 refine call_scr (Γ := Γs) (fn := Tryd.f11) Γs_ok rfl (fun g hg => by cases hg) rfl (by kernel_rfl) (by kernel_rfl) _ rfl scAbsG fun S avs p S' r g zs hs hp hf h0 h1 h2 h3 h4 => ?_
 unfold scAbsG at hs
 split at hs
 ·rename_i s d
  simp only [Option.some.injEq, Prod.mk.injEq] at hs
  obtain ⟨rfl, rfl, rfl, rfl⟩ := hs
  obtain ⟨hb, hc, hl, _⟩ := hp
  refine ⟨[.s s, .ro 490 (.l (.ints .u8)) d], [], _, ⟨by simp only [eqV], rfl, trivial⟩, Nat.le_of_ble_eq_true (by kernel_rfl), vcX_noloops ?_⟩
  show vcAb s d S.l S.off S.len S.ds S.b zs _ _
  rw [vcAb_eq]
  refine ⟨need_of rfl, ?_⟩
  rintro x1 rfl _ x2 rfl x3 rfl
  refine ⟨fun _ => ⟨need_of hc.1, need_of hc.2.1, ?_⟩, fun e => by rw [hb] at e; cases e⟩
  rintro x4 rfl
  refine ⟨need_of hl, need_of rfl, ?_⟩
  rintro x5 rfl _ _
  exact ⟨need_of (by simp), rfl, by simp only [eqV, eqVs], by simp⟩
 ·cases hs
end Go.Gx

/- The contract of a function that makes a Script. -/
namespace Go.Gx
open Go.RowKit
set_option linter.unusedVariables false

def newScr (d : RO) : Scr := ⟨(roX d).map roL, 0, ((roX d).length : Int), [], true⟩

def newCtrK (f5 f6 f7 : Nat → Nat) : Ctr := fun stamp args => getA [] [.d (.l (.arr 4 .u64))] args fun p avs => match avs with
 | [.d (.l (.arr 4 .u64)) d] => .get stamp fun c1 => (match c1 with
  | none => .get (f5 stamp) fun c2 => (match c2 with
   | none => .get (f6 stamp) fun c3 => (match c3 with
    | none => .get (f7 stamp) fun c4 => (match c4 with
     | none => .ret ⟨p ++ [((roX d).length : Int) * 32 ≤ 70368744177664], .p stamp 0, [(f7 stamp, .pool .z []), (stamp, .segs false (scriptSegs (f5 stamp) (f6 stamp) (newScr d))), (f5 stamp, .segs false [.rowA .u64 4 (newScr d).l]), (f6 stamp, .segs false [.rowD (f7 stamp) shSt []])], true⟩
     | some _ => .fail)
    | some _ => .fail)
   | some _ => .fail)
  | some _ => .fail)
 | _ => .fail
def newCtr : Ctr := newCtrK (fun s => s + 500000) (fun s => s + 600000) (fun s => s + 700000)

def kvN (x : SV) (h : Heap) (K : List (List Int) → Int → Int → Bool → Prop) : Prop :=
 match x with
 | .p a 0 => (match Nat.ble 1000 a, assoc h a with
  | true, some (.segs false [.one (.sl k1 0 4 off len), .one .nsl, .one (.b _ b)]) => (match assoc h k1 with
   | some (.segs false [.rowA .u64 4 l]) => K l off.z len.z b
   | _ => False)
  | _, _ => False)
 | _ => False

section
variable {P : Program} {Γ : Tab}

theorem call_newK {f5 f6 f7 : Nat → Nat} (u45 : ∀ s, s ≠ f5 s) (u46 : ∀ s, s ≠ f6 s) (u47 : ∀ s, s ≠ f7 s) (u56 : ∀ s, f5 s ≠ f6 s) (u57 : ∀ s, f5 s ≠ f7 s) (u67 : ∀ s, f6 s ≠ f7 s) (hΓ : TabOk P Γ) (hgl : Γ.gl = keysOf Γ.gh) (hlow : ∀ g ∈ keysOf Γ.gh, g < 490) {f : FuncId} {fn : Func} (hf : P.funcs[f]? = some fn) (hn : (fn.name == "runtime.NumGoroutine") = false) (hb : fn.body.isNone = false) (hnt : 1 ≤ fn.ntmps)
  (h : ∀ d, ((roX d).length : Int) * 32 ≤ 70368744177664 → RoF (.l (.arr 4 .u64)) d → ∃ L inv, VcX (fun x h' => kvN x h' fun l off len b => l = (newScr d).l ∧ off = 0 ∧ len = (newScr d).len ∧ b = true) Γ fn L (Γ.gh ++ [(490, .world)]) [.ro 490 (.l (.arr 4 .u64)) d] inv) :
  CallOk P Γ.gh f (newCtrK f5 f6 f7) := by
 intro stamp args H rs rs' d0 vs w0 M ρ w hG hc hp hD hm
 unfold newCtrK at hc
 have hks : ownKeys [.d (.l (.arr 4 .u64))] args = [] := onlyRO_keys _ args rfl
 have hB : BanOk w0 M ρ H w [] (fun _ => False) := ⟨fun _ _ _ _ _ _ h => h, fun _ _ _ h => h, fun _ _ _ _ _ _ _ _ _ _ h => h⟩
 obtain ⟨p, avs, rs1, hrun, hAs⟩ := getA_sound P hm hB _ args vs _ d0 rs rs' hD hc
 rw [hks] at hAs
 split at hrun
 ·rename_i d
  simp only [RP.run] at hrun
  split at hrun
  ·rename_i hs4
   simp only [RP.run] at hrun
   split at hrun
   ·rename_i hs5
    simp only [RP.run] at hrun
    split at hrun
    ·rename_i hs6
     simp only [RP.run] at hrun
     split at hrun
     ·rename_i hs7
      have e := run_ret hrun
      have m45 := u45 stamp
      have m46 := u46 stamp
      have m47 := u47 stamp
      have m56 := u56 stamp
      have m57 := u57 stamp
      have m67 := u67 stamp
      generalize f5 stamp = s5 at *
      generalize f6 stamp = s6 at *
      generalize f7 stamp = s7 at *
      subst e
      obtain ⟨hp1, hp2⟩ := AllP.append (l := p) hp
      have hA := hAs hp1
      have hfa := (AsD.fact hm _ vs [] hA).1
      obtain ⟨L, inv, o3⟩ := h d hp2.1 hfa
      obtain ⟨ρ1, m1, m2, m3, m4, m5⟩ := gen_mem (h6 := []) hG hgl hlow hm (ks := []) (fun k hk => by cases hk) List.nodup_nil (M' := fun _ => False) (fun b => ⟨fun h => h.elim, fun ⟨k, hk, _⟩ => by cases hk⟩) (fun k b hb => by cases hb) (fun i hi => absurd hi (by simp))
      have hargs := okA_args m3 m4 _ vs [] 600 [.ro 490 (.l (.arr 4 .u64)) d] [] hA ⟨rfl, trivial⟩ (fun i hi => absurd hi (by simp))
      refine .inr ⟨f, _, GoFn.run ⟨fn, hf, hn, hb⟩ _ _, (vcX_calls hΓ hf o3 (by simpa using hnt) m2 m1 hargs).mono fun e w' he => ?_⟩
      obtain ⟨x, v, h', ρ', rfl, r1, r2, r3, r4⟩ := he
      have hk : ∃ a k1 off len st l, x = .p a 0 ∧ assoc h' a = some (.segs false [.one (.sl k1 0 4 off len), .one .nsl, .one (.b st true)]) ∧ assoc h' k1 = some (.segs false [.rowA .u64 4 l]) ∧ l = (newScr d).l ∧ off.z = 0 ∧ len.z = (newScr d).len := by
       unfold kvN at r1
       split at r1
       ·split at r1
        ·rename_i hz0 hz
         split at r1
         ·rename_i hl
          obtain ⟨u1, u2, u3, rfl⟩ := r1
          exact ⟨_, _, _, _, _, _, rfl, hz, hl, u1, u2, u3⟩
         ·exact r1.elim
        ·exact r1.elim
       ·exact r1.elim
      obtain ⟨a, k1, off, len, st, l, rfl, ta, tk, rfl, to, tl⟩ := hk
      refine ⟨_, rfl, ?_⟩
      have hmS := hm.store_new hs7
      let ρ7 : Nat → Pl := updP ρ s7 ({ blk := 0, off := 0, cap := 0, rel := RoD w fun _ => False } : Pl)
      let Hn := updsH H [(s7, .pool .z []), (stamp, .segs false (scriptSegs s5 s6 (newScr d))), (s5, .segs false [.rowA .u64 4 (newScr d).l]), (s6, .segs false [.rowD s7 shSt []])]
      let ρn : Nat → Pl := fun j => if j = stamp then ρ' a else if j = s5 then ρ' k1 else if j = s6 then noPl else ρ7 j
      let im : Nat → Option (Option Nat) := fun j => if j = stamp then some (some a) else if j = s5 then some (some k1) else if j = s6 then some none else none
      have g1 : Hn stamp = some (.segs false (scriptSegs s5 s6 (newScr d))) := by
       show updH (updH (updH (updH H _ _) _ _) _ _) _ _ stamp = _
       rw [updH_ne m46, updH_ne m45, updH_same]
      have g2 : Hn s5 = some (.segs false [.rowA .u64 4 (newScr d).l]) := by
       show updH (updH (updH (updH H _ _) _ _) _ _) _ _ s5 = _
       rw [updH_ne m56, updH_same]
      have g3 : Hn s6 = some (.segs false [.rowD s7 shSt []]) := by
       show updH (updH (updH (updH H _ _) _ _) _ _) _ _ s6 = _
       rw [updH_same]
      have g4 : ∀ j, j ≠ stamp → j ≠ s5 → j ≠ s6 → Hn j = updH H s7 (.pool .z []) j := fun j h1 h2 h3 => by
       show updH (updH (updH (updH H _ _) _ _) _ _) _ _ j = _
       rw [updH_ne h3, updH_ne h2, updH_ne h1]
      have q1 : ρn stamp = ρ' a := by simp [ρn]
      have q2 : ρn s5 = ρ' k1 := by simp [ρn, Ne.symm m45]
      have q3 : ρn s6 = noPl := by simp [ρn, Ne.symm m46, Ne.symm m56]
      have q4 : ∀ j, j ≠ stamp → j ≠ s5 → j ≠ s6 → ρn j = ρ7 j := fun j h1 h2 h3 => by simp [ρn, h1, h2, h3]
      have i1 : im stamp = some (some a) := by simp [im]
      have i2 : im s5 = some (some k1) := by simp [im, Ne.symm m45]
      have i3 : im s6 = some none := by simp [im, Ne.symm m46, Ne.symm m56]
      have i4 : ∀ j, j ≠ stamp → j ≠ s5 → j ≠ s6 → im j = none := fun j h1 h2 h3 => by simp [im, h1, h2, h3]
      have four : ∀ j, j = stamp ∨ j = s5 ∨ j = s6 ∨ (j ≠ stamp ∧ j ≠ s5 ∧ j ≠ s6) := fun j => by
       by_cases e1 : j = stamp
       ·exact .inl e1
       ·by_cases e2 : j = s5
        ·exact .inr (.inl e2)
        ·by_cases e3 : j = s6
         ·exact .inr (.inr (.inl e3))
         ·exact .inr (.inr (.inr ⟨e1, e2, e3⟩))
      have g7 : Hn s7 = some (.pool .z []) := by rw [g4 s7 (Ne.symm m47) (Ne.symm m57) (Ne.symm m67), updH_same]
      have q7 : ρn s7 = ({ blk := 0, off := 0, cap := 0, rel := RoD w fun _ => False } : Pl) := by rw [q4 s7 (Ne.symm m47) (Ne.symm m57) (Ne.symm m67)]; exact updP_same _ _ _
      have nak : a ≠ k1 := fun e => by rw [e, tk] at ta; cases ta
      have hno : ∀ j, dmOf (updH H s7 (.pool .z [])) j → j ≠ stamp ∧ j ≠ s5 ∧ j ≠ s6 := fun j hj => by
       refine ⟨fun e => ?_, fun e => ?_, fun e => ?_⟩
       ·subst e; unfold dmOf at hj; rw [updH_ne m47, hs4] at hj; cases hj
       ·subst e; unfold dmOf at hj; rw [updH_ne m57, hs5] at hj; cases hj
       ·subst e; unfold dmOf at hj; rw [updH_ne m67, hs6] at hj; cases hj
      have hMem : Mem w0 M ρn Hn w' := by
       refine Mem.import hmS r3 (im := im) (fun j hj => ?_) (fun j c hj => ?_) (fun j hj => ?_) (fun j j' c h1 h2 => ?_) (fun j hj => ?_) (fun b hb => hb.elim) (fun _ _ _ _ _ _ h => h) (fun _ _ _ _ _ _ _ _ _ h => h) (fun j kd ms0 hj hjk => by
        rcases four j with rfl | rfl | rfl | ⟨e1, e2, e3⟩
        ·rw [g1] at hjk; cases hjk
        ·rw [g2] at hjk; cases hjk
        ·rw [g3] at hjk; cases hjk
        ·exact absurd (i4 j e1 e2 e3) hj) (fun j kd hj hjk => by
        rcases four j with rfl | rfl | rfl | ⟨e1, e2, e3⟩
        ·rw [g1] at hjk; cases hjk
        ·rw [g2] at hjk; cases hjk
        ·rw [g3] at hjk; cases hjk
        ·rw [i4 j e1 e2 e3] at hj; cases hj)
       ·rcases four j with rfl | rfl | rfl | ⟨e1, e2, e3⟩
        ·rw [i1] at hj; cases hj
        ·rw [i2] at hj; cases hj
        ·rw [i3] at hj; cases hj
        ·exact ⟨g4 j e1 e2 e3, fun _ => q4 j e1 e2 e3⟩
       ·rcases four j with rfl | rfl | rfl | ⟨e1, e2, e3⟩
        ·rw [i1] at hj
         simp only [Option.some.injEq] at hj
         subst hj
         refine ⟨q1, .inr (.inr ⟨_, _, g1, ta, fun cs hcs => ?_⟩)⟩
         obtain ⟨c1, c2, ⟨_, u1, hu1, rfl⟩, rfl, c3, c4, ⟨_, u2, hu2, rfl⟩, rfl, c5, c6, ⟨_, u3, hu3, rfl⟩, rfl, he⟩ := hcs
         refine ⟨[u1], _, ⟨rfl, u1, sl_ren hu1 (dm_of g2) q2 to.symm tl.symm, rfl⟩, rfl, [u2], _, ⟨rfl, u2, ?_, rfl⟩, rfl, [u3], _, ⟨rfl, u3, hu3, rfl⟩, rfl, he⟩
         have hu2 : u2 = .slice none 0 0 := hu2
         subst hu2
         simp only [D]
         exact ⟨dm_of g3, Int.le_refl _, Int.le_refl _, (show InR .i64 0 by constructor <;> decide), none, 0, rfl, Nat.le_refl _, .inr ⟨rfl, rfl⟩⟩
        ·rw [i2] at hj
         simp only [Option.some.injEq] at hj
         subst hj
         exact ⟨q2, .inr (.inr ⟨_, _, g2, tk, fun cs hcs => rowA_ren cs hcs⟩)⟩
        ·rw [i3] at hj; simp at hj
        ·rw [i4 j e1 e2 e3] at hj; cases hj
       ·rcases four j with rfl | rfl | rfl | ⟨e1, e2, e3⟩
        ·rw [i1] at hj; simp at hj
        ·rw [i2] at hj; simp at hj
        ·refine ⟨q3, .inr (.inr ⟨_, g3, [], [], ⟨dm_of g7, ⟨w, _, by rw [q7]⟩, rfl, rfl, (fun y hy => by cases hy), (fun y hy => by cases hy)⟩, rfl, rfl⟩)⟩
        ·rw [i4 j e1 e2 e3] at hj; cases hj
       ·have inj : ∀ j c, im j = some (some c) → (j = stamp ∧ c = a) ∨ (j = s5 ∧ c = k1) := fun j c hj => by
         rcases four j with rfl | rfl | rfl | ⟨e1, e2, e3⟩
         ·rw [i1] at hj; simp only [Option.some.injEq] at hj; exact .inl ⟨rfl, hj.symm⟩
         ·rw [i2] at hj; simp only [Option.some.injEq] at hj; exact .inr ⟨rfl, hj.symm⟩
         ·rw [i3] at hj; simp at hj
         ·rw [i4 j e1 e2 e3] at hj; cases hj
        rcases inj j c h1 with ⟨rfl, e⟩ | ⟨rfl, e⟩ <;> rcases inj j' c h2 with ⟨rfl, e'⟩ | ⟨rfl, e'⟩
        ·rfl
        ·exact absurd (e.symm.trans e') nak
        ·exact absurd (e'.symm.trans e) nak
        ·rfl
       ·obtain ⟨e1, e2, e3⟩ := hno j hj
        exact ⟨by unfold dmOf; rw [g4 j e1 e2 e3]; exact hj, .of_eq (q4 j e1 e2 e3)⟩
      refine ⟨ρn, fun j hj => ?_, ?_, hMem⟩
      ·have hj' : dmOf (updH H s7 (.pool .z [])) j := dm_updH _ _ _ j hj
       obtain ⟨e1, e2, e3⟩ := hno j hj'
       have e7 : j ≠ s7 := fun e => by subst e; unfold dmOf at hj; rw [hs7] at hj; cases hj
       exact .of_eq ((q4 j e1 e2 e3).trans (updP_ne e7))
      ·simp only [D] at r2 ⊢
       exact ⟨dm_of g1, by rw [q1]; exact r2.2⟩
     ·simp [RP.run] at hrun
    ·simp [RP.run] at hrun
   ·simp [RP.run] at hrun
  ·simp [RP.run] at hrun
 ·simp [RP.run] at hrun

theorem call_new (hΓ : TabOk P Γ) (hgl : Γ.gl = keysOf Γ.gh) (hlow : ∀ g ∈ keysOf Γ.gh, g < 490) {f : FuncId} {fn : Func} (hf : P.funcs[f]? = some fn) (hn : (fn.name == "runtime.NumGoroutine") = false) (hb : fn.body.isNone = false) (hnt : 1 ≤ fn.ntmps)
  (h : ∀ d, ((roX d).length : Int) * 32 ≤ 70368744177664 → RoF (.l (.arr 4 .u64)) d → ∃ L inv, VcX (fun x h' => kvN x h' fun l off len b => l = (newScr d).l ∧ off = 0 ∧ len = (newScr d).len ∧ b = true) Γ fn L (Γ.gh ++ [(490, .world)]) [.ro 490 (.l (.arr 4 .u64)) d] inv) :
  CallOk P Γ.gh f newCtr :=
 call_newK (fun s => by omega) (fun s => by omega) (fun s => by omega) (fun s => by omega) (fun s => by omega) (fun s => by omega) hΓ hgl hlow hf hn hb hnt h

end
end Go.Gx

/- A Script is made of given challenges. -/
namespace Go.Gx
open Go.Proofs Go.Sp
set_option linter.unusedVariables false
set_option maxRecDepth 100000

def vcGi (d : RO) (K : List (List Int) → Int → Int → Bool → Prop) (Q : Nat → List Pv → Prop) : Prop := fnVcX Γe Tryd.f9 [] [.ro 490 (.l (.arr 4 .u64)) d] ([] ++ [(490, .world)]) (fun x h => kvN x h K) Q
theorem vcGi_eq : ∀ (d : RO) (K : List (List Int) → Int → Int → Bool → Prop) (Q : Nat → List Pv → Prop), vcGi d K Q = (Need (((([] ++ List.map roL (roX d)).length : Nat) : Int) * 32 ≤ (70368744177664 : Int)) ∧ ∀ (x1 : List (List Int)), x1 = [] ++ List.map roL (roX d) → AllA .u64 (4 : Nat) x1 → ForN ((([] ++ List.map roL (roX d)).length : Nat) : Int) fun x2 => K x1 (0 : Int) x2 true) := by
 intros
 kernel_rfl
theorem newScr_ok : CallOk Tryd.prog [] 9 newCtr := by
 refine call_new (Γ := Γe) (fn := Tryd.f9) Γe_ok rfl (fun g hg => by cases hg) rfl (by kernel_rfl) (by kernel_rfl) (Nat.le_of_ble_eq_true (by kernel_rfl)) fun d hp hf => ?_
 refine ⟨[], _, vcX_noloops ?_⟩
 show vcGi d _ _
 rw [vcGi_eq]
 have hl : ([] ++ List.map roL (roX d)).length = (roX d).length := by simp
 refine ⟨need_of (by rw [hl]; exact hp), ?_⟩
 intro x1 e1 _ x2 e2 _ _
 rw [hl] at e2
 exact ⟨e1, rfl, e2, rfl⟩
end Go.Gx

/- What a Script has heard, copied. -/
namespace Go.Sp
open Go.Gx
def recN (x : RO) : RO := .r [.b (roB (roN x 0)), .s (roS (roN x 1)), roN x 2]
def cntN (ds : List RO) : Nat → Nat
 | 0 => 0
 | j + 1 => cntN ds j + ((roX (roN (ds.getD j (.r [])) 2)).length + 1)
end Go.Sp
namespace Go.Gx
open Go.Proofs Go.Sp
set_option linter.unusedVariables false
set_option maxRecDepth 100000

def Γh : Tab := ⟨tys, [(33, scrCtr [] scLivesG), (34, copCtr 604)], [], []⟩
def h18T : Heap := [(490, .world), (600, .segs false [.one (.sl 1001 0 4 ⟨false, 0⟩ ⟨false, 0⟩), .one (.sl 1002 0 3 ⟨true, .ofNat 0⟩ ⟨false, 0⟩), .one (.b false false)]), (601, .gone), (602, .gone), (603, .pool .z []), (604, .pool .z []), (1001, .segs false [.rowA .u64 4 []]), (1002, .segs false [.rowD 603 shSt []])]
def L18 : Loops := [(5, ⟨[.any, .any, .any, .nsl] ++ reps .any 8 ++ [.sl 1002 0 3 ⟨true, .ofNat 0⟩ ⟨false, 0⟩, .i .i64 ⟨false, 0⟩, .i .i64 ⟨false, 0⟩] ++ reps .any 13, h18T, 3000⟩),
 (1005, ⟨[.any, .any, .any, .sl 1000 0 3 ⟨true, .ofNat 0⟩ ⟨false, 0⟩] ++ reps .any 8 ++ [.sl 1002 0 3 ⟨true, .ofNat 0⟩ ⟨false, 0⟩, .i .i64 ⟨false, 0⟩, .i .i64 ⟨false, 0⟩] ++ reps .any 13, h18T ++ [(1000, .segs false [.rowD 604 shSt []])], 3000⟩)]
def vc18 (l : List (List Int)) (off len : Int) (ds : List RO) (b : Bool) (zs : List (List Int)) (K1 : List RO → List (List Int) → Prop) (K : Scr → List (List Int) → Prop → Prop) (Q : Nat → List Pv → Prop) : Prop := fnVcX Γh Tryd.f18 L18 [.p 600 0] ([] ++ (490, .world) :: bigH true (scriptH ⟨l, off, len, ds, b⟩ zs)) (fun x h => kvScr x h fun x1 S1 zs1 => K S1 zs1 (canD h x1 K1)) Q
def lc18a (m n i off len n2 : Int) (b : Bool) (zs z2 l : List (List Int)) (ds : List RO) (K1 : List RO → List (List Int) → Prop) (K : Scr → List (List Int) → Prop → Prop) (Q : Nat → List Pv → Prop) : Prop := loopVcX Γh Tryd.f18 L18 5 [.z m, .z n, .z i, .z off, .z len, .z n2, .b b, .ll zs, .ll z2, .ll l, .ro (.r ds)] (fun x h => kvScr x h fun x1 S1 zs1 => K S1 zs1 (canD h x1 K1)) Q
def lc18b (y m n i off len n2 : Int) (b : Bool) (zs z2 l : List (List Int)) (ds ds2 : List RO) (K1 : List RO → List (List Int) → Prop) (K : Scr → List (List Int) → Prop → Prop) (Q : Nat → List Pv → Prop) : Prop := loopVcX Γh Tryd.f18 L18 1005 [.z y, .z m, .z n, .z i, .z off, .z len, .z n2, .b b, .ll zs, .ll z2, .ll l, .ro (.r ds), .ro (.r ds2)] (fun x h => kvScr x h fun x1 S1 zs1 => K S1 zs1 (canD h x1 K1)) Q
theorem Γh_ok : TabOk Tryd.prog Γh := (TabOk.cons (TabOk.cons Γe_ok (copied_ok 604)) scLives_ok)
theorem vc18_eq : ∀ (l : List (List Int)) (off len : Int) (ds : List RO) (b : Bool) (zs : List (List Int)) (K1 : List RO → List (List Int) → Prop) (K : Scr → List (List Int) → Prop → Prop) (Q : Nat → List Pv → Prop), vc18 l off len ds b zs K1 K Q = (Need (((ds.length : Nat) : Int) = ((ds.length : Nat) : Int)) ∧ ∀ (x1 : List (List Int)), x1 = l → AllA .u64 (4 : Nat) x1 → ∀ (x2 : List (List Int)), x2 = zs ++ List.replicate 0 [] → ∀ (x3 : Bool), x3 = b → ((!x3) = true → Need (((ds.length : Nat) : Int) = ((ds.length : Nat) : Int)) ∧ K ⟨x1, off, len, ds, b⟩ x2 (K1 [] [])) ∧ ((!x3) = false → Same Tryd.f18 5 (itemsOf Tryd.f18 5) ∧ Q 5 [Pv.z ((ds.length : Nat) : Int), Pv.z ((ds.length : Nat) : Int), Pv.z 0, Pv.z off, Pv.z len, Pv.z ((ds.length : Nat) : Int), Pv.b b, Pv.ll x2, Pv.ll [], Pv.ll x1, Pv.ro (RO.r ds)])) := by
 intros
 kernel_rfl
theorem lc18a_eq : ∀ (m n i off len n2 : Int) (b : Bool) (zs z2 l : List (List Int)) (ds : List RO) (K1 : List RO → List (List Int) → Prop) (K : Scr → List (List Int) → Prop → Prop) (Q : Nat → List Pv → Prop), lc18a m n i off len n2 b zs z2 l ds K1 K Q = ((decide (i < n) = true → Need (0 ≤ i ∧ i < m) ∧ Need (0 ≤ i ∧ i < (((roX (RO.r ds)).length : Nat) : Int)) ∧ ∀ (x1 : Bool), x1 = roB (roN ((roX (RO.r ds)).getD i.toNat (RO.r [])) (0 : Nat)) → Need ((((roX (roN ((roX (RO.r ds)).getD i.toNat (RO.r [])) (2 : Nat))).length : Nat) : Int) * 24 ≤ (70368744177664 : Int)) ∧ Need (∀ (i_1 : Nat), i_1 < (roX (roN ((roX (RO.r ds)).getD i.toNat (RO.r [])) (2 : Nat))).length → (((roL (roN (roN ((roX (RO.r ds)).getD i.toNat (RO.r [])) (2 : Nat)) i_1)).length : Nat) : Int) ≤ 70368744177664) ∧ ∀ (x2 : List (List Int)), x2 = z2 ++ List.replicate ((roX (roN ((roX (RO.r ds)).getD i.toNat (RO.r [])) (2 : Nat))).length + (1 : Nat)) [] → Need ((48 : Int) ≤ 70368744177664) ∧ ForN (1 : Int) fun x3 => ForI .i64 (IntKind.i64.wrap (i + 1)) fun x4 => Same Tryd.f18 5 (itemsOf Tryd.f18 5) ∧ Q 1005 [Pv.z x3, Pv.z m, Pv.z n, Pv.z x4, Pv.z off, Pv.z len, Pv.z n2, Pv.b b, Pv.ll zs, Pv.ll x2, Pv.ll l, Pv.ro (RO.r (roX (RO.r ds))), Pv.ro (RO.r ([] ++ [RO.r [RO.b x1, RO.s (roS (roN ((roX (RO.r ds)).getD i.toNat (RO.r [])) (1 : Nat))), roN ((roX (RO.r ds)).getD i.toNat (RO.r [])) (2 : Nat)]]))]) ∧ (decide (i < n) = false → Need (n2 = (((roX (RO.r ds)).length : Nat) : Int)) ∧ K ⟨l, off, len, roX (RO.r ds), b⟩ zs (K1 [] z2))) := by
 intros
 kernel_rfl
theorem lc18b_eq : ∀ (y m n i off len n2 : Int) (b : Bool) (zs z2 l : List (List Int)) (ds ds2 : List RO) (K1 : List RO → List (List Int) → Prop) (K : Scr → List (List Int) → Prop → Prop) (Q : Nat → List Pv → Prop), lc18b y m n i off len n2 b zs z2 l ds ds2 K1 K Q = ((decide (i < n) = true → Need (0 ≤ i ∧ i < m) ∧ Need (0 ≤ i ∧ i < (((roX (RO.r ds)).length : Nat) : Int)) ∧ ∀ (x1 : Bool), x1 = roB (roN ((roX (RO.r ds)).getD i.toNat (RO.r [])) (0 : Nat)) → Need ((((roX (roN ((roX (RO.r ds)).getD i.toNat (RO.r [])) (2 : Nat))).length : Nat) : Int) * 24 ≤ (70368744177664 : Int)) ∧ Need (∀ (i_1 : Nat), i_1 < (roX (roN ((roX (RO.r ds)).getD i.toNat (RO.r [])) (2 : Nat))).length → (((roL (roN (roN ((roX (RO.r ds)).getD i.toNat (RO.r [])) (2 : Nat)) i_1)).length : Nat) : Int) ≤ 70368744177664) ∧ ∀ (x2 : List (List Int)), x2 = z2 ++ List.replicate ((roX (roN ((roX (RO.r ds)).getD i.toNat (RO.r [])) (2 : Nat))).length + (1 : Nat)) [] → Need (((((roX (RO.r ds2)).length + (1 : Nat)) : Nat) : Int) * 48 ≤ (70368744177664 : Int)) ∧ Need (y = (((roX (RO.r ds2)).length : Nat) : Int)) ∧ ForN ((((roX (RO.r ds2)).length + (1 : Nat)) : Nat) : Int) fun x3 => ForI .i64 (IntKind.i64.wrap (i + 1)) fun x4 => Same Tryd.f18 5 (itemsOf Tryd.f18 5) ∧ Q 1005 [Pv.z x3, Pv.z m, Pv.z n, Pv.z x4, Pv.z off, Pv.z len, Pv.z n2, Pv.b b, Pv.ll zs, Pv.ll x2, Pv.ll l, Pv.ro (RO.r (roX (RO.r ds))), Pv.ro (RO.r (roX (RO.r ds2) ++ [RO.r [RO.b x1, RO.s (roS (roN ((roX (RO.r ds)).getD i.toNat (RO.r [])) (1 : Nat))), roN ((roX (RO.r ds)).getD i.toNat (RO.r [])) (2 : Nat)]]))]) ∧ (decide (i < n) = false → Need (n2 = (((roX (RO.r ds)).length : Nat) : Int)) ∧ K ⟨l, off, len, roX (RO.r ds), b⟩ zs (Need (y = (((roX (RO.r ds2)).length : Nat) : Int)) ∧ K1 (roX (RO.r ds2)) z2))) := by
 intros
 kernel_rfl
def heardG : Scr → List AV → Option (List Prop × Scr × RS × Nat)
 | S, [] => some ([S.b = true, ((S.ds.length : Nat) : Int) * 48 ≤ 70368744177664, ∀ i, i < S.ds.length → AllP (copP (roN (S.ds.getD i (.r [])) 2))], S, .said (S.ds.map recN) (cntN S.ds S.ds.length), 0)
 | _, _ => none
def inv18 (S : Scr) (zs : List (List Int)) (key : Nat) (ps : List Pv) (mm : Nat) : Prop :=
 (key = 5 ∧ ps = [.z (S.ds.length : Int), .z (S.ds.length : Int), .z 0, .z S.off, .z S.len, .z (S.ds.length : Int), .b S.b, .ll zs, .ll [], .ll S.l, .ro (.r S.ds)] ∧ mm = S.ds.length + 1) ∨
 (key = 1005 ∧ ∃ j : Nat, 0 < j ∧ j ≤ S.ds.length ∧ ps = [.z (j : Int), .z (S.ds.length : Int), .z (S.ds.length : Int), .z (j : Int), .z S.off, .z S.len, .z (S.ds.length : Int), .b S.b, .ll zs, .ll (List.replicate (cntN S.ds j) []), .ll S.l, .ro (.r S.ds), .ro (.r ((S.ds.take j).map recN))] ∧ mm = S.ds.length - j)
theorem take_rec (ds : List RO) {j : Nat} (h : j < ds.length) : (ds.take (j + 1)).map recN = (ds.take j).map recN ++ [recN (ds.getD j (.r []))] := by
 rw [List.take_add_one, List.getElem?_eq_getElem h, List.map_append]
 simp [List.getD, h]
theorem repl_add (m n : Nat) : List.replicate m ([] : List Int) ++ List.replicate n [] = List.replicate (m + n) [] := by rw [List.replicate_append_replicate]
theorem heard18_ok : CallOk Tryd.prog [] 18 (scqCtr none [] heardG) := by
 refine call_scq (Γ := Γh) (fn := Tryd.f18) Γh_ok rfl (fun g hg => by cases hg) rfl (by kernel_rfl) (by kernel_rfl) none true _ rfl heardG fun S avs p S' r g zs hs hp hf h0 h1 h2 h3 h4 => ?_
 unfold heardG at hs
 split at hs
 ·simp only [Option.some.injEq, Prod.mk.injEq] at hs
  obtain ⟨rfl, rfl, rfl, rfl⟩ := hs
  obtain ⟨hb, hl, hc, _⟩ := hp
  refine ⟨[], L18, inv18 S zs, trivial, Nat.le_of_ble_eq_true (by kernel_rfl), ?_, ?_, ?_⟩
  ·intro kk t ht g hg
   have hg : g ∈ [490, 600, 601, 602, 603, 604] := hg
   simp only [L18, List.mem_cons, List.not_mem_nil, or_false, Prod.mk.injEq] at ht hg
   obtain ⟨rfl, rfl⟩ | ⟨rfl, rfl⟩ := ht <;> rcases hg with rfl | rfl | rfl | rfl | rfl | rfl <;> exact ⟨by omega, rfl⟩
  ·rintro vk t ps mm ht (⟨rfl, rfl, rfl⟩ | ⟨rfl, j, hj0, hj, rfl, rfl⟩)
   all_goals simp only [L18, List.mem_cons, List.not_mem_nil, or_false, Prod.mk.injEq, Nat.reduceEqDiff, false_and, true_and, false_or, or_false] at ht
   ·subst ht
    show lc18a S.ds.length S.ds.length 0 S.off S.len S.ds.length S.b zs [] S.l S.ds (fun d2 z2 => d2 = S.ds.map recN ∧ z2 = List.replicate (cntN S.ds S.ds.length) []) (fun S1 zs1 P => S1 = S ∧ P ∧ zs1 = zs ++ List.replicate 0 []) _
    rw [lc18a_eq]
    have er : roX (.r S.ds) = S.ds := rfl
    rw [er]
    refine ⟨fun hlt => ?_, fun hge => ?_⟩
    ·have hlt := of_decide_eq_true hlt
     have hjl : 0 < S.ds.length := by omega
     have hcc := hc 0 hjl
     rw [toN0]
     refine ⟨need_of (by omega), need_of (by omega), ?_⟩
     intro x1 e1
     refine ⟨need_of hcc.1, need_of hcc.2.1, ?_⟩
     intro x2 e2
     refine ⟨need_of (by omega), ?_⟩
     intro x3 e3 _ _ x4 e4 _
     rw [wrap_i64 (by omega)] at e4
     subst e1; subst e2; subst e3; subst e4
     refine ⟨rfl, S.ds.length - (0 + 1), by omega, Or.inr ⟨rfl, 0 + 1, by omega, by omega, ?_, rfl⟩⟩
     have ez : List.replicate (cntN S.ds (0 + 1)) ([] : List Int) = [] ++ List.replicate ((roX (roN (S.ds.getD 0 (.r [])) 2)).length + 1) [] := by
      show List.replicate (0 + _) _ = _
      rw [Nat.zero_add]
      rfl
     rw [take_rec S.ds hjl, ez]
     rfl
    ·have hge := of_decide_eq_false hge
     have hz : S.ds = [] := List.eq_nil_of_length_eq_zero (by omega)
     refine ⟨need_of rfl, rfl, ⟨by rw [hz]; rfl, by rw [hz]; rfl⟩, by simp⟩
   ·subst ht
    show lc18b j S.ds.length S.ds.length j S.off S.len S.ds.length S.b zs (List.replicate (cntN S.ds j) []) S.l S.ds ((S.ds.take j).map recN) (fun d2 z2 => d2 = S.ds.map recN ∧ z2 = List.replicate (cntN S.ds S.ds.length) []) (fun S1 zs1 P => S1 = S ∧ P ∧ zs1 = zs ++ List.replicate 0 []) _
    rw [lc18b_eq]
    have er : ∀ l, roX (.r l) = l := fun _ => rfl
    have el : ((S.ds.take j).map recN).length = j := by rw [List.length_map, List.length_take]; omega
    rw [er, er, el]
    refine ⟨fun hlt => ?_, fun hge => ?_⟩
    ·have hlt := of_decide_eq_true hlt
     have hjl : j < S.ds.length := by omega
     have hcc := hc j hjl
     rw [Int.toNat_natCast]
     refine ⟨need_of (by omega), need_of (by omega), ?_⟩
     intro x1 e1
     refine ⟨need_of hcc.1, need_of hcc.2.1, ?_⟩
     intro x2 e2
     refine ⟨need_of (by omega), need_of rfl, ?_⟩
     intro x3 e3 _ _ x4 e4 _
     rw [wrap_i64 (by omega)] at e4
     rw [repl_add] at e2
     subst e1; subst e2; subst e3; subst e4
     refine ⟨rfl, S.ds.length - (j + 1), by omega, Or.inr ⟨rfl, j + 1, by omega, by omega, ?_, rfl⟩⟩
     rw [take_rec S.ds hjl]
     rfl
    ·have hge := of_decide_eq_false hge
     obtain rfl : j = S.ds.length := by omega
     exact ⟨need_of rfl, rfl, ⟨need_of rfl, by rw [List.take_length], rfl⟩, by simp⟩
  ·show vc18 S.l S.off S.len S.ds S.b zs (fun d2 z2 => d2 = S.ds.map recN ∧ z2 = List.replicate (cntN S.ds S.ds.length) []) (fun S1 zs1 P => S1 = S ∧ P ∧ zs1 = zs ++ List.replicate 0 []) _
   rw [vc18_eq]
   refine ⟨need_of rfl, ?_⟩
   rintro x1 rfl _ x2 e2 x3 rfl
   refine ⟨fun e => (by rw [hb] at e; cases e), fun _ => ⟨rfl, _, Or.inl ⟨rfl, ?_, rfl⟩⟩⟩
   rw [e2]
   simp
 ·cases hs
end Go.Gx

/- Is what a Script heard just this? -/
namespace Go.Sp
open Go.Gx
def eqH (x w : RO) : Bool := (roB (roN x 0) == (roZ (roN w 0) == 2)) && sameB (roS (roN x 1)) ((roX (roN x 2)).map roL) (roS (roN w 2)) (if roZ (roN w 0) = 2 then [] else (roX (roN w 3)).map roL)
def heardB (d e : RO) : Bool := decide ((roX d).length = (roX e).length ∧ ∀ i, i < (roX e).length → eqH (roN d i) (roN e i) = true)
end Go.Sp
namespace Go.Gx
open Go.Proofs Go.Sp
set_option linter.unusedVariables false
set_option maxRecDepth 100000

def Θ0 : Tab := ⟨tys, [(38, genCtr [.v, .d (.l (.ints .u8)), .v, .d (.l (.ints .u8))] sameG)], [], []⟩
def L19 : Loops := [(4, ⟨[.ro 490 (.l shSt) (.r []), .ro 490 (.l shSay) (.r []), .any, .any, .any, .i .i64 ⟨false, 0⟩] ++ reps .any 53, [(490, .world)], 3000⟩)]
def vc19 (d e : RO) (K : List RV → List (Option (List Seg)) → Prop) (Q : Nat → List Pv → Prop) : Prop := fnVcG 0 Θ0 Tryd.f19 L19 [.ro 490 (.l shSt) d, .ro 490 (.l shSay) e] [(490, .world)] K Q
def lc19 (d e : RO) (i : Int) (K : List RV → List (Option (List Seg)) → Prop) (Q : Nat → List Pv → Prop) : Prop := loopVcG 0 Θ0 Tryd.f19 L19 4 [.ro d, .ro e, .z i] K Q
theorem Θ0_ok : TabOk Tryd.prog Θ0 := TabOk.cons Γe_ok sameG_ok
theorem vc19_eq : ∀ (d e : RO) (K : List RV → List (Option (List Seg)) → Prop) (Q : Nat → List Pv → Prop), vc19 d e K Q = ((((((roX d).length : Nat) : Int) != (((roX e).length : Nat) : Int)) = true → K [RV.v (SV.b true false)] []) ∧ (((((roX d).length : Nat) : Int) != (((roX e).length : Nat) : Int)) = false → Same Tryd.f19 4 (itemsOf Tryd.f19 4) ∧ Q 4 [Pv.ro d, Pv.ro e, Pv.z 0])) := by
 intros
 kernel_rfl
theorem lc19_eq : ∀ (d e : RO) (i : Int) (K : List RV → List (Option (List Seg)) → Prop) (Q : Nat → List Pv → Prop), lc19 d e i K Q = ((decide (i < (((roX e).length : Nat) : Int)) = true → Need (0 ≤ i ∧ i < (((roX d).length : Nat) : Int)) ∧ ∀ (x1 : Bool), x1 = roB (roN (roN d i.toNat) 0) → Need (0 ≤ i ∧ i < (((roX e).length : Nat) : Int)) ∧ ForI .i64 (roZ (roN (roN e i.toNat) 0)) fun x2 => ((!x1 == (x2 == 2)) = true → K [RV.v (SV.b true false)] []) ∧ ((!x1 == (x2 == 2)) = false → Need (0 ≤ i ∧ i < (((roX e).length : Nat) : Int)) ∧ Need (0 ≤ i ∧ i < (((roX e).length : Nat) : Int)) ∧ ForI .i64 (roZ (roN (roN e i.toNat) 0)) fun x3 => ((x3 == 2) = true → Need (0 ≤ i ∧ i < (((roX d).length : Nat) : Int)) ∧ Need (0 ≤ i ∧ i < (((roX d).length : Nat) : Int)) ∧ Need (0 ≤ i ∧ i < (((roX e).length : Nat) : Int)) ∧ ∀ (x4 : Bool), x4 = sameB (roS (roN (roN d i.toNat) 1)) (List.map roL (roX (roN (roN d i.toNat) 2))) (roS (roN (roN e i.toNat) 2)) (List.map roL (roX (RO.r []))) → ((!x4) = true → K [RV.v (SV.b true false)] []) ∧ ((!x4) = false → ForI .i64 (IntKind.i64.wrap (i + 1)) fun x5 => Same Tryd.f19 4 (itemsOf Tryd.f19 4) ∧ Q 4 [Pv.ro d, Pv.ro e, Pv.z x5])) ∧ ((x3 == 2) = false → Need (0 ≤ i ∧ i < (((roX d).length : Nat) : Int)) ∧ Need (0 ≤ i ∧ i < (((roX d).length : Nat) : Int)) ∧ Need (0 ≤ i ∧ i < (((roX e).length : Nat) : Int)) ∧ ∀ (x6 : Bool), x6 = sameB (roS (roN (roN d i.toNat) 1)) (List.map roL (roX (roN (roN d i.toNat) 2))) (roS (roN (roN e i.toNat) 2)) (List.map roL (roX (roN (roN e i.toNat) 3))) → ((!x6) = true → K [RV.v (SV.b true false)] []) ∧ ((!x6) = false → ForI .i64 (IntKind.i64.wrap (i + 1)) fun x7 => Same Tryd.f19 4 (itemsOf Tryd.f19 4) ∧ Q 4 [Pv.ro d, Pv.ro e, Pv.z x7])))) ∧ (decide (i < (((roX e).length : Nat) : Int)) = false → K [RV.v (SV.b true true)] [])) := by
 intros
 kernel_rfl
def hrdG : List AV → Option (List Prop × List RV × List (Option (List Seg)))
 | [.d (.l (.r [.tb, .ts, .l (.ints .u8)])) d, .d (.l (.r [.i .i64, .i .i64, .ts, .l (.ints .u8)])) e] => some ([], [.v (.b false (heardB d e))], [])
 | _ => none
def inv19 (d e : RO) (key : Nat) (ps : List Pv) (mm : Nat) : Prop :=
 key = 4 ∧ (roX d).length = (roX e).length ∧ ∃ j : Nat, j ≤ (roX e).length ∧ ps = [.ro d, .ro e, .z (j : Int)] ∧ (∀ i, i < j → eqH (roN d i) (roN e i) = true) ∧ mm = (roX e).length - j
theorem heardB_no {d e : RO} {j : Nat} (hj : j < (roX e).length) (h : eqH (roN d j) (roN e j) = false) : heardB d e = false :=
 decide_eq_false fun hh => by have := hh.2 j hj; rw [h] at this; cases this
theorem hrdG_ok : CallOk Tryd.prog [] 19 (genCtr [.d (.l shSt), .d (.l shSay)] hrdG) := by
 refine call_gen (Γ := Θ0) (fn := Tryd.f19) Θ0_ok rfl (fun g hg => by cases hg) rfl (by kernel_rfl) (by kernel_rfl) _ hrdG fun av p rvs fin hs hp hf => ?_
 unfold hrdG at hs
 split at hs
 ·rename_i d e
  simp only [Option.some.injEq, Prod.mk.injEq] at hs
  obtain ⟨rfl, rfl, rfl⟩ := hs
  obtain ⟨hfd, hfe, _⟩ := hf
  have hle : ((roX e).length : Int) < 9223372036854775808 := hfe.2
  refine ⟨[.ro 490 (.l shSt) d, .ro 490 (.l shSay) e], [], L19, inv19 d e, ⟨rfl, rfl, trivial⟩, Nat.le_of_ble_eq_true (by kernel_rfl), ?_, ?_, ?_⟩
  ·intro kk t ht g hg
   have hg : g ∈ [490] := hg
   simp only [L19, List.mem_cons, List.not_mem_nil, or_false, Prod.mk.injEq] at ht hg
   obtain ⟨rfl, rfl⟩ := ht
   subst hg
   exact ⟨by omega, rfl⟩
  ·rintro vk t ps mm ht ⟨rfl, hlen, j, hj, rfl, hall, rfl⟩
   simp only [L19, List.mem_cons, List.not_mem_nil, or_false, Prod.mk.injEq, true_and] at ht
   subst ht
   show lc19 d e (j : Int) _ _
   rw [lc19_eq]
   rw [Int.toNat_natCast]
   refine ⟨fun hlt => ?_, fun hge => ?_⟩
   ·have hlt := of_decide_eq_true hlt
    have hjl : j < (roX e).length := by omega
    refine ⟨need_of (by omega), ?_⟩
    intro x1 e1
    refine ⟨need_of (by omega), ?_⟩
    intro x2 e2 _
    have hno : ∀ b : Bool, eqH (roN d j) (roN e j) = false → b = false → eqRVs [.v (.b true b)] [.v (.b false (heardB d e))] ∧ eqFin [] [] := fun b h hb => by
     rw [heardB_no hjl h, hb]
     exact ⟨⟨rfl, trivial⟩, trivial⟩
    refine ⟨fun c => ?_, fun c => ⟨need_of (by omega), need_of (by omega), ?_⟩⟩
    ·refine hno false ?_ rfl
     unfold eqH
     rw [e1, e2] at c
     have : (roB (roN (roN d j) 0) == (roZ (roN (roN e j) 0) == 2)) = false := by simpa using c
     rw [this]; rfl
    ·have c1 : (roB (roN (roN d j) 0) == (roZ (roN (roN e j) 0) == 2)) = true := by
      rw [e1, e2] at c
      simpa using c
     intro x3 e3 _
     have step : ∀ b : Bool, b = sameB (roS (roN (roN d j) 1)) (List.map roL (roX (roN (roN d j) 2))) (roS (roN (roN e j) 2)) (if roZ (roN (roN e j) 0) = 2 then [] else (roX (roN (roN e j) 3)).map roL) → eqH (roN d j) (roN e j) = b := fun b hb => by
      unfold eqH
      rw [c1, ← hb, Bool.true_and]
     refine ⟨fun c2 => ?_, fun c2 => ?_⟩
     ·have c2 : roZ (roN (roN e j) 0) = 2 := by rw [← e3]; simpa using c2
      refine ⟨need_of (by omega), need_of (by omega), need_of (by omega), ?_⟩
      intro x4 e4
      have hs := step x4 (by rw [e4, if_pos c2]; rfl)
      refine ⟨fun c3 => hno false (by rw [hs]; simpa using c3) rfl, fun c3 => ?_⟩
      intro x5 e5 _
      rw [wrap_i64 (by omega)] at e5
      refine ⟨rfl, (roX e).length - (j + 1), by omega, rfl, hlen, j + 1, by omega, by rw [e5]; rfl, fun i hi => ?_, rfl⟩
      rcases Nat.lt_succ_iff_lt_or_eq.1 hi with h | rfl
      ·exact hall i h
      ·rw [hs]; simpa using c3
     ·have c2 : ¬ roZ (roN (roN e j) 0) = 2 := by rw [← e3]; simpa using c2
      refine ⟨need_of (by omega), need_of (by omega), need_of (by omega), ?_⟩
      intro x4 e4
      have hs := step x4 (by rw [e4, if_neg c2])
      refine ⟨fun c3 => hno false (by rw [hs]; simpa using c3) rfl, fun c3 => ?_⟩
      intro x5 e5 _
      rw [wrap_i64 (by omega)] at e5
      refine ⟨rfl, (roX e).length - (j + 1), by omega, rfl, hlen, j + 1, by omega, by rw [e5]; rfl, fun i hi => ?_, rfl⟩
      rcases Nat.lt_succ_iff_lt_or_eq.1 hi with h | rfl
      ·exact hall i h
      ·rw [hs]; simpa using c3
   ·have hge := of_decide_eq_false hge
    obtain rfl : j = (roX e).length := by omega
    have : heardB d e = true := decide_eq_true ⟨hlen, hall⟩
    rw [this]
    exact ⟨⟨rfl, trivial⟩, trivial⟩
  ·show vc19 d e _ _
   rw [vc19_eq]
   refine ⟨fun c => ?_, fun c => ?_⟩
   ·have c : ¬ (roX d).length = (roX e).length := fun h => by rw [h] at c; simp at c
    have : heardB d e = false := decide_eq_false fun hh => c hh.1
    rw [this]
    exact ⟨⟨rfl, trivial⟩, trivial⟩
   ·have c : (roX d).length = (roX e).length := by
     have : ((roX d).length : Int) = (roX e).length := by simpa using c
     omega
    exact ⟨rfl, _, rfl, c, 0, Nat.zero_le _, rfl, fun i hi => absurd hi (Nat.not_lt_zero i), rfl⟩
 ·cases hs
end Go.Gx

/- The contract of a function that spoils a list of rows of bytes of a store: what its blocks hold is of the same kind as before. -/
namespace Go.Gx
open Go.RowKit
set_option linter.unusedVariables false

def spoilHCtr : Ctr := fun stamp args =>
 match args with
 | [.ro F (.l (.ints .u8)) d] => .get F fun b => (match b with
  | some (.pool .z zs) => .ret ⟨[], .tup [], [(F, .pool .h (List.replicate zs.length []))], false⟩
  | some (.pool .h zs) => .ret ⟨[], .tup [], [(F, .pool .h (List.replicate zs.length []))], false⟩
  | _ => .fail)
 | _ => .fail

def vivH (ms : List (List Int)) : Heap := [(600, .pool .v ms)]
def vivA (n : Int) : List SV := [.vc 600 ⟨false, n⟩]
def kvVK (x : SV) (h : Heap) (K : SV → List (List Int) → Prop) : Prop :=
 match assoc h 600 with
 | some (.pool .v ms) => K x ms
 | _ => False
def kvV (n : Nat) (x : SV) (h : Heap) : Prop := kvVK x h fun x ms => ms.length = n ∧ eqV x (.tup [])

def hdN (w : World) (b o x : Nat) : Nat := match w.cell? ⟨b, o + x, none⟩ with
 | some (.slice _ n _) => n
 | _ => 0
def hdB (w : World) (b o x : Nat) : Nat × Nat := match w.cell? ⟨b, o + x, none⟩ with
 | some (.slice (some a) _ _) => (a.block, a.off)
 | _ => (0, 0)

theorem hdr_now {wF w : World} {Out : Nat → Prop} {xs : List RO} {b o : Nat} {cs : List Value} (hk : ∀ b x, Out b → KindEq (wF.cell? ⟨b, x, none⟩) (w.cell? ⟨b, x, none⟩)) (hO : Out b)
  (hc : ChainR (RoD wF Out (.ints .u8)) xs cs) (hr : wF.rangeAt b o cs) {x : Nat} (hx : x < xs.length) :
  ((hdN w b o x : Nat) : Int) < 9223372036854775808 ∧ ∃ a cap, w.cell? ⟨b, o + x, none⟩ = some (.slice a (hdN w b o x) cap) ∧ (0 < hdN w b o x → a = some ⟨(hdB w b o x).1, (hdB w b o x).2, none⟩) ∧
   ∀ y, y < hdN w b o x → Out (hdB w b o x).1 ∧ ∃ z, w.cell? ⟨(hdB w b o x).1, (hdB w b o x).2 + y, none⟩ = some (.int .u8 z) ∧ InR .u8 z := by
 have hn : ∀ d v, RoD wF Out (.ints .u8) d v → v.cells.toList.length = 1 := fun d v hd => RoD_cells _ _ _ hd
 obtain ⟨v, pre, post, q1, q2, q3⟩ := chain_at_ hn xs cs x hx hc
 simp only [RoD] at q3
 obtain ⟨a, cap, rfl, h1, h2, h3, h4⟩ := q3
 have hcell : wF.cell? ⟨b, o + x, none⟩ = some (.slice a (roL xs[x]).length cap) := by
  refine hr x _ ?_
  rw [q1, List.append_assoc, List.getElem?_append_right (by omega)]
  have : x - pre.length = 0 := by omega
  rw [this]; rfl
 have hK := hk b (o + x) hO
 rw [hcell] at hK
 rcases hK with e | ⟨k, z, z', e, _⟩ | ⟨s, n, c, _, e⟩
 ·have eN : hdN w b o x = (roL xs[x]).length := by unfold hdN; rw [e]
  rw [eN]
  refine ⟨h2, a, cap, e, ?_⟩
  rcases h4 with ⟨b', o', rfl, hO', hr'⟩ | ⟨h4, _⟩
  ·have eB : hdB w b o x = (b', o') := by unfold hdB; rw [e]
   rw [eB]
   refine ⟨fun _ => rfl, fun y hy => ⟨hO', ?_⟩⟩
   have hy' : wF.cell? ⟨b', o' + y, none⟩ = some (.int .u8 (roL xs[x])[y]) := hr' y _ (by rw [List.getElem?_map, List.getElem?_eq_getElem hy]; rfl)
   have hK := hk b' (o' + y) hO'
   rw [hy'] at hK
   rcases hK with e | ⟨k, z, z', e, e', hz⟩ | ⟨s, n, c, e, _⟩
   ·exact ⟨_, e, h3.at hy⟩
   ·simp only [Option.some.injEq, Value.int.injEq] at e
    obtain ⟨rfl, rfl⟩ := e
    exact ⟨z', e', hz⟩
   ·cases e
  ·exact ⟨fun c => absurd c (by omega), fun y hy => absurd hy (by omega)⟩
 ·cases e
 ·have eN : hdN w b o x = 0 := by unfold hdN; rw [e]
  rw [eN]
  exact ⟨by decide, none, 0, e, fun c => absurd c (by omega), fun y hy => absurd hy (by omega)⟩

section
variable {P : Program} {Γ : Tab}

theorem call_spoilH (hΓ : TabOk P Γ) (hgl : Γ.gl = []) (hgh : Γ.gh = []) {f : FuncId} {fn : Func} (hf : P.funcs[f]? = some fn) (hn : (fn.name == "runtime.NumGoroutine") = false) (hb : fn.body.isNone = false)
  (h : ∀ (ms : List (List Int)) (n : Nat), n = (ms.getD 0 []).length → (n : Int) < 9223372036854775808 → ∃ L inv, 1 ≤ fn.ntmps ∧ VcX (kvV ms.length) Γ fn L (vivH ms) (vivA (n : Int)) inv) : CallOk P [] f spoilHCtr := by
 intro stamp args H rs rs' d vs w0 M ρ w hG hc hp hD hm
 unfold spoilHCtr at hc
 split at hc
 ·rename_i F d0
  simp only [RP.run] at hc
  have hz : ∃ kd zs, H F = some (.pool kd zs) ∧ (kd = .z ∨ kd = .h) ∧ d = ⟨[], .tup [], [(F, .pool .h (List.replicate zs.length []))], false⟩ := by
   split at hc
   ·rename_i zs hF; exact ⟨.z, zs, hF, .inl rfl, run_ret hc⟩
   ·rename_i zs hF; exact ⟨.h, zs, hF, .inr rfl, run_ret hc⟩
   ·simp [RP.run] at hc
  obtain ⟨kd, zs, hF, hkd, rfl⟩ := hz
  have hP := hm.pools.pool F kd zs hF
  have hkb : kd.box = false := by rcases hkd with rfl | rfl <;> rfl
  have hHav : HavD w (ρ F) := by
   rcases hkd with rfl | rfl
   ·obtain ⟨wF, e1, e2⟩ := hP.fzD rfl
    exact ⟨wF, e1, fun b x hb => .inl (World.cell?_of_block (a := ⟨b, x, none⟩) (e2 b hb))⟩
   ·exact hP.havD rfl
  obtain ⟨wF, e1, e2⟩ := hHav
  simp only [Ds] at hD
  obtain ⟨u, c, hu, rfl, rfl⟩ := hD
  simp only [D] at hu
  obtain ⟨hdF, hrel, _, _⟩ := hu
  rw [e1] at hrel
  simp only [RoD] at hrel
  obtain ⟨a, cap, cs, rfl, h1, h2, h3, h4⟩ := hrel
  have hbo : ∃ b o, 0 < (roX d0).length → a = some ⟨b, o, none⟩ ∧ Zp (ρ F) b ∧ wF.rangeAt b o cs := by
   rcases h4 with ⟨b, o, h4⟩ | ⟨h4, _⟩
   ·exact ⟨b, o, fun _ => h4⟩
   ·exact ⟨0, 0, fun c => absurd c (by omega)⟩
  obtain ⟨b, o, hbo⟩ := hbo
  generalize hnl : (roX d0).length = n at *
  have hms : ∃ ms : List (List Int), ms.length = zs.length ∧ ms.getD 0 [] = (List.range n).map fun x => ((hdN w b o x : Nat) : Int) := by
   rcases Nat.eq_zero_or_pos n with h0 | h0
   ·refine ⟨List.replicate zs.length [], by simp, ?_⟩
    rw [h0]
    cases zs <;> rfl
   ·obtain ⟨i, hi, _⟩ := (hbo h0).2.1
    rw [hP.cnt] at hi
    refine ⟨((List.range n).map fun x => ((hdN w b o x : Nat) : Int)) :: List.replicate (zs.length - 1) [], ?_, rfl⟩
    rw [List.length_cons, List.length_replicate]; omega
  obtain ⟨ms, hml, hm0⟩ := hms
  have hm0l : n = (ms.getD 0 []).length := by rw [hm0]; simp
  let ρ1 : Nat → Pl := fun _ => { ρ F with blk := b, off := o, hb := fun x => (hdB w b o x).1, ho := fun x => (hdB w b o x).2, wv := some w }
  have hat : ∀ j sb, assoc (vivH ms) j = some sb → j = 600 ∧ sb = .pool .v ms := fun j sb hj => by
   simp only [vivH, assoc] at hj
   split at hj
   ·rename_i e; exact ⟨(Nat.eq_of_beq_eq_true e).symm, by simpa using hj.symm⟩
   ·cases hj
  have e600 : assoc (vivH ms) 600 = some (.pool .v ms) := rfl
  have hPv : PoolD w (Zp (ρ F)) w (ρ1 600) .v ms := by
   refine ⟨hP.cnt.trans hml.symm, fun i m hi => ?_, fun i c hi ho => ?_, fun i c hi ho => ?_, fun i c hi ho => ?_, fun i j c hi hj ho ho' => ?_, fun i _ _ e => (by cases e), (fun e => by cases e), (fun e => by cases e), fun _ => ⟨⟨w, rfl, fun _ _ _ => .inl rfl⟩, fun x n' hx => ?_⟩⟩
   ·have hil : i < zs.length := by rw [← hml]; exact (List.getElem?_eq_some_iff.1 hi).1
    obtain ⟨vs, _, _, _, q4⟩ := hP.rowD i _ (List.getElem?_eq_getElem hil)
    exact ⟨[], ⟨trivial, rfl⟩, Nat.zero_le _, rangeAt_nil' _ _ _, q4⟩
   ·obtain ⟨q, rfl⟩ := ho.plain rfl
    exact hP.lt i (by omega) q
   ·obtain ⟨q, rfl⟩ := ho.plain rfl
    exact .inr ⟨i, by rw [hP.cnt]; omega, q, rfl⟩
   ·obtain ⟨q, rfl⟩ := ho.plain rfl
    exact hP.clean i (by omega) q
   ·obtain ⟨q, rfl⟩ := ho.plain rfl
    obtain ⟨q', e⟩ := ho'.plain rfl
    exact hP.sep i j (by omega) (by omega) q q' e
   ·rw [hm0] at hx
    rw [List.getElem?_map] at hx
    have hxn : x < n := by
     rcases Nat.lt_or_ge x n with c | c
     ·exact c
     ·rw [List.getElem?_eq_none (by simpa using c)] at hx; cases hx
    rw [List.getElem?_range hxn] at hx
    simp only [Option.map_some, Option.some.injEq] at hx
    subst hx
    obtain ⟨_, hO, hr⟩ := hbo (by omega)
    obtain ⟨g1, a', cap', g2, g3, g4⟩ := hdr_now e2 hO h3 hr (by omega : x < (roX d0).length)
    refine ⟨by omega, by simp only [InR]; omega, hO, a', cap', by simpa using g2, fun hpos => g3 (by omega), fun y hy => ?_⟩
    exact g4 y (by simpa using hy)
  have g1 : Mem w (Zp (ρ F)) ρ1 (assoc (vivH ms)) w := by
   refine ⟨⟨fun j sb hj => ?_, fun j j' ro ro' l l' hj _ _ _ _ _ => absurd (hat j _ hj).2 (by simp), fun j ro l hj _ => absurd (hat j _ hj).2 (by simp)⟩, FrameW.refl _ _, fun j l hj _ => absurd (hat j _ hj).2 (by simp), fun j hj => absurd (hat j _ hj).2 (by simp), fun j l hj _ => absurd (hat j _ hj).2 (by simp),
    ⟨fun j kd' ms0 hj => ?_, fun j kd' ms0 j' ro l i c hj hj' _ _ _ => absurd (hat j' _ hj').2 (by simp), fun j kd' ms0 j' kd'' ms1 i i' c hj hj' hjj _ _ _ _ => absurd ((hat j _ hj).1.trans (hat j' _ hj').1.symm) hjj, fun j kd' q r ms0 hj => absurd (hat j _ hj).2 (by simp)⟩⟩
   ·obtain ⟨_, rfl⟩ := hat j sb hj; trivial
   ·obtain ⟨rfl, e⟩ := hat j _ hj
    simp only [SB.pool.injEq] at e
    obtain ⟨rfl, rfl⟩ := e
    exact hPv
  have hgo : GlOk Γ w (Zp (ρ F)) ρ1 (assoc (vivH ms)) := ⟨fun g hg => (by rw [hgl] at hg; cases hg), (by rw [hgh]; intro g b hgb; cases hgb)⟩
  have hargs : Ds (dmOf (assoc (vivH ms))) ρ1 (vivA (n : Int)) [.slice a n cap] := by
   simp only [Ds, vivA]
   refine ⟨_, [], ?_, rfl, rfl⟩
   simp only [D]
   exact ⟨dm_of e600, by omega, by simp only [InR]; omega, a, cap, by simp, fun hpos => (hbo (by omega)).1⟩
  obtain ⟨L, inv, q2, q3⟩ := h ms n hm0l h2
  refine .inr ⟨f, _, GoFn.run ⟨fn, hf, hn, hb⟩ _ _, (vcX_calls hΓ hf q3 q2 hgo g1 hargs).mono fun e w' he => ?_⟩
  obtain ⟨x, v, h', ρ', rfl, r1, r2, r3, r4⟩ := he
  unfold kvV kvVK at r1
  split at r1
  ·rename_i ms2 h600
   obtain ⟨hl2, r1⟩ := r1
   have hle := (r4 600 (dm_of e600)).2
   have hP' := r3.pools.pool 600 _ ms2 h600
   have hpn : ∀ i, i < zs.length → i < (ρ1 600).pn := fun i hi => by show i < (ρ F).pn; rw [hP.cnt]; exact hi
   have hpb : ∀ i, i < zs.length → (ρ' 600).pb i = (ρ F).pb i := fun i hi => hle.pb i (hpn i hi)
   have hpo : ∀ i, i < zs.length → (ρ' 600).po i = (ρ F).po i := fun i hi => hle.po i (hpn i hi)
   have hpc : ∀ i, i < zs.length → (ρ' 600).pc i = (ρ F).pc i := fun i hi => hle.pc i (hpn i hi)
   have hgone := hm.gone F (by rw [hF]; rfl)
   have hback : ∀ j sb, updH H F .gone j = some sb → sb ≠ .gone → j ≠ F ∧ H j = some sb := fun j sb hj hs => by
    by_cases ej : j = F
    ·subst ej; rw [updH_same] at hj; simp only [Option.some.injEq] at hj; exact absurd hj.symm hs
    ·rw [updH_ne ej] at hj; exact ⟨ej, hj⟩
   have hmid : Mem w0 M ρ (updH H F .gone) w' := by
    refine Mem.import hgone r3 (im := fun _ => none) (fun j _ => ⟨rfl, fun _ => rfl⟩) (fun j c hj => by cases hj) (fun j hj => by cases hj) (fun j j' c h1 => by cases h1) (fun j hj => ⟨hj, .refl _⟩) (fun b' hb' => ?_) (fun j ro l _ hj c1 hb' => ?_) (fun j kd0 ms0 i c9 _ hj hi c1 hb' => ?_)
    ·obtain ⟨i, hi, hc, rfl⟩ := hb'
     exact hP.own i (by rw [← hP.cnt]; exact hi) hc
    ·obtain ⟨e1, e2⟩ := hback j _ hj (by simp)
     obtain ⟨i, hi, hc, e⟩ := hb'
     exact hm.pools.apart F kd zs j ro l i hF e2 c1 (by rw [← hP.cnt]; exact hi) hc e
    ·obtain ⟨e1, e2⟩ := hback j _ hj (by simp)
     obtain ⟨i', hi', hc, e⟩ := hb'
     exact hm.pools.twoD j kd0 ms0 F kd zs i i' _ e2 hF e1 hi (by rw [← hP.cnt]; exact hi') c1 (by rw [e]; exact .pb hc)
   have hlr : (List.replicate zs.length ([] : List Int)).length = zs.length := by simp
   have hPn : PoolD w0 M w' (ρ F) .h (List.replicate zs.length []) := by
    refine ⟨by rw [hlr]; exact hP.cnt, fun i m hi => ?_, fun i c hi ho => ?_, fun i c hi ho => ?_, fun i c hi ho => ?_, fun i j c hi hj ho ho' => ?_, fun i _ _ e => (by cases e), (fun e => by cases e), fun _ => ?_, (fun e => by cases e)⟩
    ·have hil : i < zs.length := by have := (List.getElem?_eq_some_iff.1 hi).1; omega
     have hme : m = [] := by
      have := List.mem_of_getElem? hi
      exact (List.mem_replicate.1 this).2
     obtain ⟨vs, _, _, _, q4⟩ := hP'.rowD i _ (List.getElem?_eq_getElem (by omega : i < ms2.length))
     rw [hpb i hil, hpo i hil, hpc i hil] at q4
     exact ⟨[], ⟨hme, rfl⟩, Nat.zero_le _, rangeAt_nil' _ _ _, q4⟩
    ·obtain ⟨q, rfl⟩ := ho.plain rfl
     exact Nat.lt_of_lt_of_le (hP.lt i (by omega) q) r3.frame.size
    ·obtain ⟨q, rfl⟩ := ho.plain rfl
     exact hP.own i (by omega) q
    ·obtain ⟨q, rfl⟩ := ho.plain rfl
     have := hP'.clean i (by omega) (by rw [hpc i (by omega)]; exact q)
     rw [hpb i (by omega)] at this
     exact this
    ·obtain ⟨q, rfl⟩ := ho.plain rfl
     obtain ⟨q', e⟩ := ho'.plain rfl
     exact hP.sep i j (by omega) (by omega) q q' e
    ·obtain ⟨wV, v1, v2⟩ := (hP'.vivD rfl).kin
     have ewv : (ρ' 600).wv = some w := hle.wv
     rw [ewv] at v1
     simp only [Option.some.injEq] at v1
     subst v1
     refine ⟨wF, e1, fun b' x' hb' => (e2 b' x' hb').trans (v2 b' x' ?_)⟩
     obtain ⟨i, hi, hc, rfl⟩ := hb'
     have hil : i < zs.length := by rw [← hP.cnt]; exact hi
     exact ⟨i, by rw [hP'.cnt]; omega, by rw [hpc i hil]; exact hc, (hpb i hil).symm⟩
   have fin := hmid.pool_put (key := F) (updH_same _ _ _) (k := .h) rfl hPn (fun k' ro l i c hk' hc hi ho => by
     obtain ⟨n1, n2⟩ := hback k' _ hk' (by simp)
     obtain ⟨q, rfl⟩ := ho.plain rfl
     exact hm.pools.apart F kd zs k' ro l i hF n2 hc (by omega) q) (fun k' kd' ms' i j c hk' hi hj ho ho' => by
     obtain ⟨n1, n2⟩ := hback k' _ hk' (by simp)
     obtain ⟨q, rfl⟩ := ho.plain rfl
     have ho2 : OwnB w (ρ k') kd' j ((ρ F).pb i) := ho'.of_block fun h0 => r3.frame.block _ ((hm.pools.pool k' kd' ms' n2).lt j hj h0) fun ⟨i', hi', hc', e⟩ =>
      hm.pools.two k' kd' ms' F kd zs j i' n2 hF n1 hj (by rw [← hP.cnt]; exact hi') h0 hc' e
     exact hm.pools.twoD k' kd' ms' F kd zs j i _ n2 hF n1 hj (by omega) ho2 (.pb q))
   rw [updH_over] at fin
   exact ⟨v, rfl, ρ, .refl _ _, eqV_D x (.tup []) v r1 r2, fin⟩
  ·exact r1.elim
 ·simp [RP.run] at hc

end
end Go.Gx

/- What was heard is spoilt. -/
namespace Go.Gx
open Go.Proofs Go.Sp
set_option linter.unusedVariables false
set_option maxRecDepth 100000

def L14v : Loops := [(1, ⟨[.vc 600 ⟨false, 0⟩, .any, .i .i64 ⟨false, 0⟩] ++ reps .any 33, vivH [], 2000⟩), (4, ⟨[.vc 600 ⟨false, 0⟩, .any, .i .i64 ⟨false, 0⟩, .i .i64 ⟨false, 0⟩] ++ reps .any 32, vivH [], 2000⟩)]
def vcSv (n : Int) (ms : List (List Int)) (K : SV → List (List Int) → Prop) (Q : Nat → List Pv → Prop) : Prop := fnVcX Γe Tryd.f14 L14v (vivA n) (vivH ms) (fun x h => kvVK x h K) Q
def lcSvA (n i : Int) (ms : List (List Int)) (K : SV → List (List Int) → Prop) (Q : Nat → List Pv → Prop) : Prop := loopVcX Γe Tryd.f14 L14v 1 [.z n, .z i, .ll ms] (fun x h => kvVK x h K) Q
def lcSvB (n i j : Int) (ms : List (List Int)) (K : SV → List (List Int) → Prop) (Q : Nat → List Pv → Prop) : Prop := loopVcX Γe Tryd.f14 L14v 4 [.z n, .z i, .z j, .ll ms] (fun x h => kvVK x h K) Q
theorem vcSv_eq : ∀ (n : Int) (ms : List (List Int)) (K : SV → List (List Int) → Prop) (Q : Nat → List Pv → Prop), vcSv n ms K Q = (Same Tryd.f14 1 (itemsOf Tryd.f14 1) ∧ Q 1 [Pv.z n, Pv.z 0, Pv.ll ms]) := by
 intros
 kernel_rfl

theorem lcSvA_eq : ∀ (n i : Int) (ms : List (List Int)) (K : SV → List (List Int) → Prop) (Q : Nat → List Pv → Prop), lcSvA n i ms K Q = ((decide (i < n) = true → Same Tryd.f14 4 (itemsOf Tryd.f14 4) ∧ Q 4 [Pv.z n, Pv.z i, Pv.z 0, Pv.ll ms]) ∧ (decide (i < n) = false → K (SV.tup []) ms)) := by
 intros
 kernel_rfl

theorem lcSvB_eq : ∀ (n i j : Int) (ms : List (List Int)) (K : SV → List (List Int) → Prop) (Q : Nat → List Pv → Prop), lcSvB n i j ms K Q = (Need (0 ≤ i ∧ i < n) ∧ Need (i < (((ms.getD 0 []).length : Nat) : Int)) ∧ ForN ((ms.getD 0 []).getD i.toNat 0) fun x1 => (decide (j < x1) = true → Need (0 ≤ i ∧ i < n) ∧ Need (i < (((ms.getD 0 []).length : Nat) : Int)) ∧ ForN ((ms.getD 0 []).getD i.toNat 0) fun x2 => Need (0 ≤ i ∧ i < n) ∧ Need (i < (((ms.getD 0 []).length : Nat) : Int)) ∧ ForN ((ms.getD 0 []).getD i.toNat 0) fun x3 => Need (0 ≤ j ∧ j < x3) ∧ Need (i.toNat < (ms.getD 0 []).length) ∧ Need (j < (ms.getD 0 []).getD i.toNat 0) ∧ Need (0 ≤ j ∧ j < x2) ∧ Need (i.toNat < (ms.getD 0 []).length) ∧ Need (j < (ms.getD 0 []).getD i.toNat 0) ∧ ForI .i64 (IntKind.i64.wrap (j + 1)) fun x4 => Same Tryd.f14 4 (itemsOf Tryd.f14 4) ∧ Q 4 [Pv.z n, Pv.z i, Pv.z x4, Pv.ll ms]) ∧ (decide (j < x1) = false → Need (0 ≤ i ∧ i < n) ∧ Need (i < (((ms.getD 0 []).length : Nat) : Int)) ∧ ∀ (x5 : List (List Int)), x5 = ms.set (0 : Nat) ((ms.getD 0 []).set i.toNat (0 : Int)) → ForI .i64 (IntKind.i64.wrap (i + 1)) fun x6 => Same Tryd.f14 1 (itemsOf Tryd.f14 1) ∧ Q 1 [Pv.z n, Pv.z x6, Pv.ll x5])) := by
 intros
 kernel_rfl

def svM (ms : List (List Int)) (i : Nat) : Nat := (((ms.getD 0 []).drop i).map fun z => z.toNat + 2).sum
theorem svM_step {ms : List (List Int)} {i : Nat} (h : i < (ms.getD 0 []).length) : svM ms i = ((ms.getD 0 []).getD i 0).toNat + 2 + svM ms (i + 1) := by
 unfold svM
 rw [List.drop_eq_getElem_cons h, List.map_cons, List.sum_cons]
 rw [List.getD_eq_getElem?_getD (l := ms.getD 0 []) (i := i), List.getElem?_eq_getElem h]
 rfl
theorem sv_get {ms : List (List Int)} {i : Nat} (h : i < (ms.getD 0 []).length) (l : List Int) : (ms.set 0 l).getD 0 [] = l := by
 cases ms with
 | nil => simp at h
 | cons a r => rfl
theorem svM_set {ms : List (List Int)} {i : Nat} (h : i < (ms.getD 0 []).length) : svM (ms.set 0 ((ms.getD 0 []).set i 0)) (i + 1) = svM ms (i + 1) := by
 unfold svM
 rw [sv_get h, List.drop_set_of_lt (by omega)]
def invSv (N c : Nat) (key : Nat) (ps : List Pv) (mm : Nat) : Prop := ∃ (ms : List (List Int)) (i : Nat), ms.length = c ∧ (ms.getD 0 []).length = N ∧ i ≤ N ∧
  ((key = 1 ∧ ps = [.z (N : Int), .z (i : Int), .ll ms] ∧ mm = svM ms i) ∨
   (key = 4 ∧ i < N ∧ ∃ j : Nat, ps = [.z (N : Int), .z (i : Int), .z (j : Int), .ll ms] ∧ mm = svM ms (i + 1) + 1 + (((ms.getD 0 []).getD i 0).toNat - j)))
theorem spoil_viv : CallOk Tryd.prog [] 14 spoilHCtr := by
 refine call_spoilH (Γ := Γe) (fn := Tryd.f14) Γe_ok rfl rfl rfl (by kernel_rfl) (by kernel_rfl) fun ms0 N hN hN2 => ?_
 refine ⟨L14v, invSv N ms0.length, Nat.le_of_ble_eq_true (by kernel_rfl), ?_, ?_, ?_⟩
 ·intro k t ht g hg
  have hg : g ∈ [600] := hg
  simp only [L14v, List.mem_cons, List.not_mem_nil, or_false, Prod.mk.injEq] at ht hg
  subst hg
  rcases ht with ⟨rfl, rfl⟩ | ⟨rfl, rfl⟩ <;> exact ⟨by omega, rfl⟩
 ·rintro vk t ps mm ht ⟨ms, i, hml, hl, hi, ⟨rfl, rfl, rfl⟩ | ⟨rfl, hiN, j, rfl, rfl⟩⟩
  all_goals simp only [L14v, List.mem_cons, List.not_mem_nil, or_false, Prod.mk.injEq, Nat.reduceEqDiff, false_and, true_and, false_or, or_false] at ht
  all_goals subst ht
  ·show lcSvA (N : Int) (i : Int) ms (fun x ms => ms.length = ms0.length ∧ eqV x (.tup [])) _
   rw [lcSvA_eq]
   refine ⟨fun h => ?_, fun _ => ⟨hml, trivial⟩⟩
   have h := of_decide_eq_true h
   have hs := svM_step (ms := ms) (i := i) (by omega)
   exact ⟨rfl, _, by omega, ms, i, hml, hl, hi, .inr ⟨rfl, by omega, 0, rfl, rfl⟩⟩
  ·show lcSvB (N : Int) (i : Int) (j : Int) ms (fun x ms => ms.length = ms0.length ∧ eqV x (.tup [])) _
   rw [lcSvB_eq]
   have hil : i < (ms.getD 0 []).length := by omega
   rw [Int.toNat_natCast]
   refine ⟨need_of (by omega), need_of (by omega), fun x1 e1 _ h1r => ⟨fun h => ?_, fun h => ?_⟩⟩
   ·have h := of_decide_eq_true h
    simp only [InR] at h1r
    refine ⟨need_of (by omega), need_of (by omega), fun x2 e2 _ _ => ⟨need_of (by omega), need_of (by omega), fun x3 e3 _ _ => ⟨need_of (by omega), need_of (by omega), need_of (by omega), need_of (by omega), need_of (by omega), need_of (by omega), fun x4 e4 _ => ?_⟩⟩⟩
    rw [wrap_i64 (by omega)] at e4
    refine ⟨rfl, svM ms (i + 1) + 1 + (((ms.getD 0 []).getD i 0).toNat - (j + 1)), by omega, ms, i, hml, hl, hi, .inr ⟨rfl, hiN, j + 1, ?_, rfl⟩⟩
    rw [e4]; rfl
   ·refine ⟨need_of (by omega), need_of (by omega), fun x5 e5 x6 e6 _ => ?_⟩
    rw [wrap_i64 (by omega)] at e6
    refine ⟨rfl, svM ms (i + 1), by omega, x5, i + 1, by rw [e5, List.length_set]; exact hml, by rw [e5, sv_get hil, List.length_set]; exact hl, by omega, .inl ⟨rfl, ?_, by rw [e5, svM_set hil]⟩⟩
    rw [e6]; rfl
 ·show vcSv (N : Int) ms0 (fun x ms => ms.length = ms0.length ∧ eqV x (.tup [])) _
  rw [vcSv_eq]
  exact ⟨rfl, _, ms0, 0, rfl, hN.symm, Nat.zero_le _, .inl ⟨rfl, rfl, rfl⟩⟩

def spoil2 : Ctr := fun stamp args => match args with
 | [.ro F sh d] => spoilHCtr stamp [.ro F sh d]
 | args => spoilCtr .u8 spoilG stamp args
theorem spoil2_ok : CallOk Tryd.prog [] 14 spoil2 := by
 intro stamp args H rs rs' d vs w0 M ρ w hG hc hp hD hm
 unfold spoil2 at hc
 split at hc
 ·exact spoil_viv stamp _ H rs rs' d vs w0 M ρ w hG hc hp hD hm
 ·exact spoil_nil stamp _ H rs rs' d vs w0 M ρ w hG hc hp hD hm
end Go.Gx

/- What is given a Script, drawn from it, over the one table. -/
namespace Go.Gx
open Go.Proofs Go.Sp
set_option linter.unusedVariables false
set_option maxRecDepth 100000

theorem subS : ∀ x ∈ ([] : Heap), x ∈ Sc.gh := fun x h => by cases h
theorem lowS : ∀ g ∈ keysOf Sc.gh, g < 490 := fun g hg => by
 have hg : g ∈ [1] := hg
 simp only [List.mem_cons, List.not_mem_nil, or_false] at hg
 omega
def Γd1 : Tab := ⟨tys, [(35, pureCtr Sc.leastS), (36, pureCtr Sc.isZeroS), (33, scrCtr [] scLivesG), (34, copCtr 603)], [1], Sc.gh⟩
def vcDr1 (s : ByteArray) (l : List (List Int)) (off len : Int) (ds : List RO) (b : Bool) (zs : List (List Int)) (K : SV → Scr → List (List Int) → Prop) (Q : Nat → List Pv → Prop) : Prop := fnVcX Γd1 Tryd.f15 [] [.p 600 0, .s s] (Sc.gh ++ (490, .world) :: scriptH ⟨l, off, len, ds, b⟩ zs) (fun x h => kvScr x h K) Q
def vcNum1 (x : Int) (K : List RV → List (Option (List Seg)) → Prop) (Q : Nat → List Pv → Prop) : Prop := fnVcG 0 Γe Tryd.f17 [] [.i .i64 ⟨false, x⟩] ([] ++ (490, .world) :: []) K Q
theorem Γd1_ok : TabOk Tryd.prog Γd1 := (((Sc.Γ0_ok.cons (CallOk.mono subS (copied_ok 603))).cons (CallOk.mono subS scLives_ok)).cons Sc.isZero_ok).cons Sc.least_ok
theorem vcDr1_eq : ∀ (s : ByteArray) (l : List (List Int)) (off len : Int) (ds : List RO) (b : Bool) (zs : List (List Int)) (K : SV → Scr → List (List Int) → Prop) (Q : Nat → List Pv → Prop), vcDr1 s l off len ds b zs K Q = (Need (((ds.length : Nat) : Int) = ((ds.length : Nat) : Int)) ∧ ∀ (x1 : List (List Int)), x1 = l → AllA .u64 (4 : Nat) x1 → ∀ (x2 : List (List Int)), x2 = zs ++ List.replicate 0 [] → ∀ (x3 : Bool), x3 = b → ((!x3) = true → Need (((ds.length : Nat) : Int) = ((ds.length : Nat) : Int)) ∧ K (SV.tup [SV.arr .u64 4 true [(0 : Int), (0 : Int), (0 : Int), (0 : Int)], SV.i .i64 ⟨true, (1 : Int)⟩]) ⟨x1, off, len, ds, b⟩ x2) ∧ ((!x3) = false → Need ((((ds.length + (1 : Nat)) : Nat) : Int) * 48 ≤ (70368744177664 : Int)) ∧ Need (((ds.length : Nat) : Int) = ((ds.length : Nat) : Int)) ∧ ForN (((ds.length + (1 : Nat)) : Nat) : Int) fun x4 => ((len == 0) = true → Need (x4 = (((ds ++ [RO.r [RO.b true, RO.s s, RO.r []]]).length : Nat) : Int)) ∧ K (SV.tup [SV.arr .u64 4 true [(0 : Int), (0 : Int), (0 : Int), (0 : Int)], SV.i .i64 ⟨true, (5 : Int)⟩]) ⟨x1, off, len, ds ++ [RO.r [RO.b true, RO.s s, RO.r []]], b⟩ x2) ∧ ((len == 0) = false → Need ((0 : Int) ≤ 0 ∧ 0 < len) ∧ Need (0 ≤ off ∧ off < ((x1.length : Nat) : Int)) ∧ ForI .u64 ((x1.getD off.toNat []).getD 0 0) fun x5 => ForI .u64 ((x1.getD off.toNat []).getD 1 0) fun x6 => ForI .u64 ((x1.getD off.toNat []).getD 2 0) fun x7 => ForI .u64 ((x1.getD off.toNat []).getD 3 0) fun x8 => ForI .u64 (Sc.w0 (Sc.val4 [x5, x6, x7, x8] % (7237005577332262213973186563042994240857116359379907606001950938285454250989 : Int))) fun x9 => ForI .u64 (Sc.w1 (Sc.val4 [x5, x6, x7, x8] % (7237005577332262213973186563042994240857116359379907606001950938285454250989 : Int))) fun x10 => ForI .u64 (Sc.w2 (Sc.val4 [x5, x6, x7, x8] % (7237005577332262213973186563042994240857116359379907606001950938285454250989 : Int))) fun x11 => ForI .u64 (Sc.w3 (Sc.val4 [x5, x6, x7, x8] % (7237005577332262213973186563042994240857116359379907606001950938285454250989 : Int))) fun x12 => Need ((0 : Int) ≤ 1 ∧ 1 ≤ len ∧ len ≤ len) ∧ ∀ (x13 : Bool), x13 = decide (Sc.val4 [x9, x10, x11, x12] % (7237005577332262213973186563042994240857116359379907606001950938285454250989 : Int) = (0 : Int)) → (x13 = true → Need (x4 = (((ds ++ [RO.r [RO.b true, RO.s s, RO.r []]]).length : Nat) : Int)) ∧ K (SV.tup [SV.arr .u64 4 true [(0 : Int), (0 : Int), (0 : Int), (0 : Int)], SV.i .i64 ⟨true, (4 : Int)⟩]) ⟨x1, (addI ⟨false, off⟩ ⟨true, (1 : Int)⟩).z, (subI ⟨false, len⟩ ⟨true, (1 : Int)⟩).z, ds ++ [RO.r [RO.b true, RO.s s, RO.r []]], b⟩ x2) ∧ (x13 = false → Need (x4 = (((ds ++ [RO.r [RO.b true, RO.s s, RO.r []]]).length : Nat) : Int)) ∧ K (SV.tup [SV.arr .u64 4 true [x9, x10, x11, x12], SV.i .i64 ⟨true, (0 : Int)⟩]) ⟨x1, (addI ⟨false, off⟩ ⟨true, (1 : Int)⟩).z, (subI ⟨false, len⟩ ⟨true, (1 : Int)⟩).z, ds ++ [RO.r [RO.b true, RO.s s, RO.r []]], b⟩ x2)))) := by
 intros
 kernel_rfl

theorem vcNum1_eq : ∀ (x : Int) (K : List RV → List (Option (List Seg)) → Prop) (Q : Nat → List Pv → Prop), vcNum1 x K Q = K [RV.v (SV.i .i64 ⟨false, x⟩)] [] := by
 intros
 kernel_rfl

theorem words_zero1 : Sc.words4 0 = [0, 0, 0, 0] := by decide +kernel
def scDrawG1 : Scr → List AV → Option (List Prop × Scr × SV × Nat)
 | S, [.v (.s s)] => some ([S.b = true, (((S.ds.length + 1 : Nat) : Int)) * 48 ≤ 70368744177664, S.off + S.len ≤ (S.l.length : Int)], ⟨S.l, offD S.off S.len, lenD S.len, S.ds ++ [heardD s], S.b⟩, .tup [.arr .u64 4 false (ansD S.l S.off S.len), .i .i64 ⟨false, errD S.l S.off S.len⟩], 0)
 | _, _ => none
theorem scDraw1_ok : CallOk Tryd.prog Sc.gh 15 (scrCtr [.v] scDrawG1) := by
 refine call_scr (Γ := Γd1) (fn := Tryd.f15) Γd1_ok rfl lowS rfl (by kernel_rfl) (by kernel_rfl) _ rfl scDrawG1 fun S avs p S' r g zs hs hp hf h0 h1 h2 h3 h4 => ?_
 unfold scDrawG1 at hs
 split at hs
 ·rename_i s
  simp only [Option.some.injEq, Prod.mk.injEq] at hs
  obtain ⟨rfl, rfl, rfl, rfl⟩ := hs
  obtain ⟨hb, hl, ho, _⟩ := hp
  refine ⟨[.s s], [], _, ⟨by simp only [eqV], trivial⟩, Nat.le_of_ble_eq_true (by kernel_rfl), vcX_noloops ?_⟩
  show vcDr1 s S.l S.off S.len S.ds S.b zs _ _
  rw [vcDr1_eq]
  refine ⟨need_of rfl, ?_⟩
  rintro x1 rfl hA x2 rfl x3 rfl
  refine ⟨fun e => (by rw [hb] at e; cases e), fun _ => ⟨need_of hl, need_of rfl, ?_⟩⟩
  rintro x4 rfl _ _
  refine ⟨fun e => ⟨need_of (by simp), ?_⟩, fun e => ⟨need_of (by have e : S.len ≠ 0 := (by simpa using e); omega), need_of (by have e : S.len ≠ 0 := (by simpa using e); omega), ?_⟩⟩
  ·have e : S.len = 0 := by simpa using e
   refine ⟨?_, ?_, by simp⟩
   ·unfold offD lenD; rw [if_pos e, if_pos e]; rfl
   ·unfold ansD errD; rw [if_pos e, if_pos e]; simp [eqV, eqVs, keq]
  ·have e : S.len ≠ 0 := by simpa using e
   have hi : S.off.toNat < S.l.length := by omega
   have hel := hA _ (List.getElem_mem hi)
   have hg : S.l.getD S.off.toNat [] = S.l[S.off.toNat] := by simp [List.getD, hi]
   rintro x5 e5 _ x6 e6 _ x7 e7 _ x8 e8 _
   have hx : [x5, x6, x7, x8] = S.l.getD S.off.toNat [] := by
    rw [e5, e6, e7, e8, hg]
    match S.l[S.off.toNat], hel.1 with
    | [a, b, c, d], _ => rfl
   rw [hx]
   rintro x9 e9 _ x10 e10 _ x11 e11 _ x12 e12 _
   have hy : [x9, x10, x11, x12] = Sc.words4 (Sc.val4 (S.l.getD S.off.toNat []) % Sc.ell) := by rw [e9, e10, e11, e12]; rfl
   rw [hy]
   have hv : Sc.val4 (Sc.words4 (Sc.val4 (S.l.getD S.off.toNat []) % Sc.ell)) % Sc.ell = Sc.val4 (S.l.getD S.off.toNat []) % Sc.ell := by
    rw [show Sc.val4 (Sc.words4 (Sc.val4 (S.l.getD S.off.toNat []) % Sc.ell)) = Sc.val4 (S.l.getD S.off.toNat []) % Sc.ell from Sc.val_ell rfl rfl rfl rfl, Int.emod_emod_of_dvd _ (Int.dvd_refl _)]
   refine ⟨need_of (by omega), ?_⟩
   rintro x13 e13
   refine ⟨fun c => ⟨need_of (by simp), ?_⟩, fun c => ⟨need_of (by simp), ?_⟩⟩
   ·rw [e13] at c
    have c : Sc.val4 (Sc.words4 (Sc.val4 (S.l.getD S.off.toNat []) % Sc.ell)) % Sc.ell = 0 := of_decide_eq_true c
    rw [hv] at c
    refine ⟨?_, ?_, by simp⟩
    ·unfold offD lenD; rw [if_neg e, if_neg e]; rfl
    ·unfold ansD errD; rw [if_neg e, if_neg e, if_pos c, c, words_zero1]; simp [eqV, eqVs, keq]
   ·rw [e13] at c
    have c : ¬ Sc.val4 (Sc.words4 (Sc.val4 (S.l.getD S.off.toNat []) % Sc.ell)) % Sc.ell = 0 := of_decide_eq_false c
    rw [hv] at c
    refine ⟨?_, ?_, by simp⟩
    ·unfold offD lenD; rw [if_neg e, if_neg e]; rfl
    ·unfold ansD errD; rw [if_neg e, if_neg e, if_neg c]; simp [eqV, eqVs, keq]
 ·cases hs

def nuG1 : List AV → Option (List Prop × List RV × List (Option (List Seg)))
 | [.v (.i .i64 x)] => some ([], [.v (.i .i64 ⟨false, x.z⟩)], [])
 | _ => none
theorem nuG1_ok : CallOk Tryd.prog [] 17 (genCtr [.v] nuG1) := by
 refine call_gen (Γ := Γe) (fn := Tryd.f17) Γe_ok rfl (fun g hg => by cases hg) rfl (by kernel_rfl) (by kernel_rfl) _ nuG1 fun av p rvs fin hs hp hf => ?_
 unfold nuG1 at hs
 split at hs
 ·rename_i x
  simp only [Option.some.injEq, Prod.mk.injEq] at hs
  obtain ⟨rfl, rfl, rfl⟩ := hs
  refine ⟨[.i .i64 ⟨false, x.z⟩], [], [], _, ⟨rfl, trivial⟩, Nat.le_of_ble_eq_true (by kernel_rfl), vcG_noloops ?_⟩
  show vcNum1 x.z _ _
  rw [vcNum1_eq]
  exact ⟨⟨rfl, trivial⟩, trivial⟩
 ·cases hs
end Go.Gx
