/- Part 6 of the proof: the evaluator of the code, its soundness, and what it shows of the functions. -/
import Derived.Test.YtihihilhfijloaaDoorM5
import Derived.Test.YtihihilhfijloaaDoorM4

/- The contract of a function that is handed a pointer to a box of a pool: that it holds. -/
namespace Go.Gx
open Go.RowKit
set_option linter.unusedVariables false

def BoxAt (H : Nat → Option SB) (key : Nat) (a : Option Nat) (m : List Int) : Prop :=
 ∃ x, H key = some (.segs false [.one x]) ∧ ((x = .nsl ∧ m = [] ∧ a = none) ∨ ∃ kr n, x = .sl kr 0 1 ⟨true, 0⟩ n ∧ n.z = (m.length : Int) ∧ H kr = some (.segs false [.rowI .u8 m]) ∧ a = some kr)

theorem boxAt_sound {h : Heap} {key : Nat} {K : Option Nat → List Int → Prop} (hk : boxAt h key K) : ∃ a m, K a m ∧ BoxAt (assoc h) key a m := by
 unfold boxAt at hk
 split at hk
 ·rename_i x hx
  split at hk
  ·exact ⟨none, [], hk, .nsl, hx, .inl ⟨rfl, rfl, rfl⟩⟩
  ·rename_i kr n
   split at hk
   ·rename_i l hl
    exact ⟨some kr, l, hk.2, _, hx, .inr ⟨kr, n, rfl, hk.1, hl, rfl⟩⟩
   ·exact hk.elim
  ·exact hk.elim
 ·exact hk.elim

def BoxRes (H : Nat → Option SB) (x : SV) (a : Option Nat) (m : List Int) (o : Option (List Int)) (r : Option (Nat × Nat)) : Prop :=
 BoxAt H 600 a m ∧ ((x = .tup [] ∧ o = none ∧ r = none) ∨ ∃ k b m2, x = .p k 0 ∧ 601 < k ∧ o = some m2 ∧ r = some (k, b) ∧ BoxAt H k (some b) m2 ∧ a ≠ some b)

theorem kvBox_sound {h : Heap} {x : SV} {K : List Int → Option (List Int) → Prop} (hk : kvBox x h K) : ∃ a m o r, K m o ∧ BoxRes (assoc h) x a m o r := by
 unfold kvBox at hk
 split at hk
 ·obtain ⟨a, m, h1, h2⟩ := boxAt_sound hk
  exact ⟨a, m, none, none, h1, h2, .inl ⟨rfl, rfl, rfl⟩⟩
 ·rename_i k
  split at hk
  ·rename_i hlt
   have hlt : 601 < k := by simp [Nat.blt] at hlt; omega
   obtain ⟨a, m, h1, h2⟩ := boxAt_sound hk
   obtain ⟨b, m2, h3, h4⟩ := boxAt_sound h1
   split at h3
   ·rename_i b
    split at h3
    ·rename_i hn
     refine ⟨a, m, some m2, some (k, b), h3, h2, .inr ⟨k, b, m2, rfl, hlt, rfl, rfl, h4, fun e => ?_⟩⟩
     subst e
     simp [noKey] at hn
    ·exact h3.elim
   ·exact h3.elim
  ·exact hk.elim
 ·exact hk.elim

section
variable {P : Program} {Γ : Tab}

set_option maxRecDepth 100000 in
theorem call_box (hΓ : TabOk P Γ) (hgl : Γ.gl = []) (hgh : Γ.gh = []) {f : FuncId} {fn : Func} (hf : P.funcs[f]? = some fn) (hn : (fn.name == "runtime.NumGoroutine") = false) (hb : fn.body.isNone = false) (ms : List Md)
  (spec : List Int → List AV → Option (List Prop × List Int × Option (List Int)))
  (h : ∀ m avs p m' o, spec m avs = some (p, m', o) → AllP p → FactA avs → AllR .u8 m → (m.length : Int) < 9223372036854775808 →
   ∃ args' L inv, okA 700 avs args' [] ∧ args'.length + 1 ≤ fn.ntmps ∧ VcX (fun x h' => kvBox x h' fun m1 o1 => m1 = m' ∧ o1 = o) Γ fn L (boxH m) (.p 600 0 :: args') inv) :
  CallOk P [] f (boxCtr ms spec) := by
 intro stamp args H rs rs' d vs w0 M ρ w hG hc hp hD hm
 unfold boxCtr at hc
 split at hc
 ·rename_i key r rest
  simp only [RP.run] at hc
  split at hc
  ·rename_i v ls hkey
   split at hc
   ·rename_i hpl
    simp only [Ds] at hD
    obtain ⟨v0, vs', hv0, rfl, hrest⟩ := hD
    simp only [D] at hv0
    obtain ⟨hkd, hrp, _, rfl⟩ := hv0
    have hP := hm.pools.pool key _ ls hkey
    have hrl : r < ls.length := by rw [← hP.cnt]; exact hrp
    let M' : Nat → Prop := fun b => OwnB w (ρ key) (.b .u8 v) r b
    have hB : BanOk w0 M ρ H w [key] M' := ⟨fun k ro l _ hk hc hb => hm.pools.apartD key _ ls k ro l r _ hkey hk hc hrl hb rfl, fun b hb hnM hb' => by
     rcases hP.ownD r b hrl hb' with h | h
     ·omega
     ·exact hnM h, fun k kd ms' i c hkd hban hk hi hc hb => by
     have hne : k ≠ key := fun e => by
      rw [e, hkey] at hk
      simp only [Option.some.injEq, SB.pool.injEq] at hk
      have := hban (by rw [← hk.1]; rfl)
      rw [e] at this
      simp [memN] at this
     exact hm.pools.twoD k _ ms' key _ ls i r c hk hkey hne hi hrl hc hb⟩
    obtain ⟨p, avs, rs1, hrun, hAs⟩ := getA_sound P hm hB ms rest vs' _ d _ rs' hrest hc
    rw [plain_keys ms rest hpl] at hAs
    clear hc
    split at hrun
    ·rename_i p' m' o hspec
     simp only [RP.run] at hrun
     split at hrun
     ·rename_i ht1
      simp only [RP.run] at hrun
      split at hrun
      ·rename_i ht2
       simp only [RP.run] at hrun
       split at hrun
       ·rename_i hst
        simp only [RP.run] at hrun
        split at hrun
        ·rename_i hs5
         have e := run_ret hrun
         have n12 : stamp + 700000 ≠ stamp + 700001 := by omega
         have n13 : stamp + 700000 ≠ stamp := by omega
         have n14 : stamp + 700000 ≠ stamp + 500000 := by omega
         have n23 : stamp + 700001 ≠ stamp := by omega
         have n24 : stamp + 700001 ≠ stamp + 500000 := by omega
         have n34 : stamp ≠ stamp + 500000 := by omega
         have hdws := congrArg Delta.ws e
         have hdv := congrArg Delta.v e
         have hdp := congrArg Delta.pre e
         simp only at hdws hdv hdp
         rw [hdp] at hp
         obtain ⟨hml, hp⟩ := hp
         obtain ⟨hpa, hpb⟩ := AllP.append (l := p) (r := p') hp
         clear e hdp hrun
         generalize stamp + 700000 = t1 at *
         generalize stamp + 700001 = t2 at *
         generalize stamp + 500000 = s5 at *
         have hA := hAs hpa
         have nk1 : key ≠ t1 := fun e => by rw [← e, hkey] at ht1; cases ht1
         have nk2 : key ≠ t2 := fun e => by rw [← e, hkey] at ht2; cases ht2
         have nk3 : key ≠ stamp := fun e => by rw [← e, hkey] at hst; cases hst
         have nk4 : key ≠ s5 := fun e => by rw [← e, hkey] at hs5; cases hs5
         obtain ⟨cA, c0, cth, a0, cap, ccell, cle, ccase⟩ := hP.cell hrl
         generalize hmm : ls.getD r [] = m at *
         have hp2 : ∃ p2 : Pl, ((a0 = some ⟨p2.blk, p2.off, none⟩ ∧ cap = p2.cap ∧ w.rangeAt p2.blk p2.off (m.map (Value.int .u8)) ∧ w.there p2.blk p2.off p2.cap) ∨ (m = [] ∧ cap = 0 ∧ p2.cap = 0)) := by
          rcases ccase with ⟨b, o', rfl, q1, q2⟩ | ⟨q1, q2⟩
          ·exact ⟨{ blk := b, off := o', cap := cap }, .inl ⟨rfl, rfl, q1, q2⟩⟩
          ·exact ⟨{ blk := 0, off := 0, cap := 0 }, .inr ⟨q1, q2, rfl⟩⟩
         obtain ⟨p2, hp2⟩ := hp2
         have hown2 : 0 < p2.cap → M' p2.blk ∧ p2.blk ≠ (ρ key).pb r := fun h0 => by
          rcases hp2 with ⟨rfl, rfl, _⟩ | ⟨_, _, h9⟩
          ·have hbx : boxB w ((ρ key).pb r) ((ρ key).po r) p2.blk := ⟨_, _, _, ccell, h0⟩
           exact ⟨⟨c0, .inr ⟨rfl, hbx⟩⟩, fun e => hP.inn r hrl c0 rfl (by rw [e] at hbx; exact hbx)⟩
          ·omega
         let ρ1 : Nat → Pl := fun j => if j = 600 then { blk := (ρ key).pb r, off := (ρ key).po r, cap := (ρ key).pc r } else if j = 601 then p2 else { blk := 0, off := 0, cap := 0, rel := RoD w (OutB w M') }
         have r600 : ρ1 600 = { blk := (ρ key).pb r, off := (ρ key).po r, cap := (ρ key).pc r } := rfl
         have r601 : ρ1 601 = p2 := rfl
         have hat : ∀ j b, assoc (boxH m) j = some b → (j = 490 ∧ b = .world) ∨ (j = 600 ∧ b = .segs false [.one (.sl 601 0 1 ⟨true, .ofNat 0⟩ ⟨false, (m.length : Int)⟩)]) ∨ (j = 601 ∧ b = .segs false [.rowI .u8 m]) := fun j b hb => by
          simp only [boxH, assoc] at hb
          split at hb
          ·rename_i e; exact .inl ⟨(Nat.eq_of_beq_eq_true e).symm, by simpa using hb.symm⟩
          ·split at hb
           ·rename_i e; exact .inr (.inl ⟨(Nat.eq_of_beq_eq_true e).symm, by simpa using hb.symm⟩)
           ·split at hb
            ·rename_i e; exact .inr (.inr ⟨(Nat.eq_of_beq_eq_true e).symm, by simpa using hb.symm⟩)
            ·cases hb
         have d490 : dmOf (assoc (boxH m)) 490 := rfl
         have d600 : dmOf (assoc (boxH m)) 600 := rfl
         have d601 : dmOf (assoc (boxH m)) 601 := rfl
         have hu : D (dmOf (assoc (boxH m))) ρ1 (.sl 601 0 1 ⟨true, .ofNat 0⟩ ⟨false, (m.length : Int)⟩) (.slice a0 m.length cap) := by
          simp only [D]
          refine ⟨d601, Int.le_refl _, by omega, by simp only [InR]; omega, a0, cap, by simp, by simpa using cle, ?_⟩
          rw [r601]
          rcases hp2 with ⟨rfl, rfl, _⟩ | ⟨q1, q2, _⟩
          ·exact .inl ⟨by simp [at_], by simp⟩
          ·exact .inr ⟨by rw [q1]; rfl, q2⟩
         have g1 : Mem w M' ρ1 (assoc (boxH m)) w := by
          have own : ∀ j ro l, assoc (boxH m) j = some (.segs ro l) → 0 < (ρ1 j).cap → M' (ρ1 j).blk := fun j ro l h1 c1 => by
           rcases hat j _ h1 with ⟨_, e⟩ | ⟨rfl, _⟩ | ⟨rfl, _⟩
           ·cases e
           ·rw [r600]; exact .pb c0
           ·rw [r601] at c1 ⊢; exact (hown2 c1).1
          refine ⟨⟨fun j b hb => ?_, fun j j' ro ro' l l' h1 h2 hjj hro c1 c2 => ?_, fun j ro l h1 c1 => hP.ltD r _ hrl (own j ro l h1 c1)⟩, FrameW.refl _ _, fun j l h1 c1 => .inr (own j false l h1 c1), fun j h1 => ?_, fun j l h1 c1 => hP.cleanD r _ hrl (own j false l h1 c1),
           .none fun j kd ls' hj => by rcases hat j _ hj with ⟨_, e⟩ | ⟨_, e⟩ | ⟨_, e⟩ <;> cases e⟩
          ·rcases hat j b hb with ⟨rfl, rfl⟩ | ⟨rfl, rfl⟩ | ⟨rfl, rfl⟩
           ·trivial
           ·refine ⟨[.slice a0 m.length cap], ⟨_, [], ⟨rfl, _, hu, rfl⟩, rfl, rfl⟩, by rw [r600]; exact c0, ?_, fun _ => by rw [r600]; exact cth⟩
            rw [r600]
            intro i u hi
            have : i = 0 := by have := (List.getElem?_eq_some_iff.1 hi).1; simp at this; omega
            subst this
            simp at hi; subst hi
            exact ccell
           ·rw [BlkD]
            rcases hp2 with ⟨rfl, rfl, q1, q2⟩ | ⟨q1, q2, q3⟩
            ·exact ⟨m.map (Value.int .u8), ⟨_, [], ⟨cA, rfl⟩, by simp, rfl⟩, by rw [r601]; simpa using cle, by rw [r601]; exact q1, fun _ => by rw [r601]; exact q2⟩
            ·rw [q1]
             exact ⟨[], ⟨[], [], ⟨fun z hz => (by cases hz), rfl⟩, rfl, rfl⟩, by simp, rangeAt_nil _ _ _, fun _ => by rw [r601, q3]; exact there_zero _ _ _⟩
          ·rcases hat j _ h1 with ⟨_, e⟩ | ⟨rfl, _⟩ | ⟨rfl, _⟩
           ·cases e
           ·rcases hat j' _ h2 with ⟨_, e⟩ | ⟨rfl, _⟩ | ⟨rfl, _⟩
            ·cases e
            ·exact absurd rfl hjj
            ·rw [r601] at c2 ⊢
             rw [r600]
             exact (hown2 c2).2.symm
           ·rcases hat j' _ h2 with ⟨_, e⟩ | ⟨rfl, _⟩ | ⟨rfl, _⟩
            ·cases e
            ·rw [r601] at c1 ⊢
             rw [r600]
             exact (hown2 c1).2
            ·exact absurd rfl hjj
          ·rcases hat j _ h1 with ⟨rfl, _⟩ | ⟨_, e⟩ | ⟨_, e⟩
           ·rfl
           ·cases e
           ·cases e
         have hgo : GlOk Γ w M' ρ1 (assoc (boxH m)) := ⟨fun g hg => (by rw [hgl] at hg; cases hg), (by rw [hgh]; intro g b hgb; cases hgb)⟩
         obtain ⟨args', L, inv, u1, u2, u3⟩ := h m avs p' m' o hspec hpb (AsD.fact hm avs vs' [] hA) cA hml
         have hargs : Ds (dmOf (assoc (boxH m))) ρ1 (.p 600 0 :: args') (.pointer (some ⟨(ρ key).pb r, (ρ key).po r + (Int.ofNat 0).toNat, none⟩) :: vs') :=
          ⟨_, vs', ⟨d600, by rw [r600]; rfl⟩, rfl, okA_args (ρ' := ρ1) d490 rfl avs vs' [] 700 args' [] hA u1 (fun i hi => absurd hi (by simp))⟩
         refine .inr ⟨f, _, GoFn.run ⟨fn, hf, hn, hb⟩ _ _, (vcX_calls hΓ hf u3 u2 hgo g1 hargs).mono fun e w' he => ?_⟩
         obtain ⟨x, v1, h', ρ', rfl, k1, k2, k3, k4⟩ := he
         obtain ⟨a, m1, o1, res, ⟨rfl, rfl⟩, ⟨x1, z1, z2⟩, z3⟩ := kvBox_sound k1
         have le6 := (k4 600 d600).2
         rw [r600] at le6
         refine ⟨v1, rfl, ?_⟩
         -- the caller's keys
         let im : Nat → Option (Option Nat) := fun j => if j = t1 then some (some 600) else if j = t2 then some a else if j = stamp then some (res.map (·.1)) else if j = s5 then some (res.map (·.2)) else none
         let ρn : Nat → Pl := fun j => if j = t1 then ρ' 600 else if j = t2 then optPl ρ' a else if j = stamp then optPl ρ' (res.map (·.1)) else if j = s5 then optPl ρ' (res.map (·.2)) else ρ j
         let y1 : SV := boxSV t2 a (m1.length : Int)
         let H3 : Nat → Option SB := fun j => if j = t1 then some (.segs false [.one y1]) else if j = t2 then some (rowSB (a.map fun _ => m1)) else
          if j = stamp then some (boxSB s5 o1) else
          if j = s5 then some (rowSB o1) else updH H key .gone j
         have i1 : im t1 = some (some 600) := by simp [im]
         have i2 : im t2 = some a := by simp [im, Ne.symm n12]
         have i3 : im stamp = some (res.map (·.1)) := by simp [im, Ne.symm n13, Ne.symm n23]
         have i4 : im s5 = some (res.map (·.2)) := by simp [im, Ne.symm n14, Ne.symm n24, Ne.symm n34]
         have i5 : ∀ j, j ≠ t1 → j ≠ t2 → j ≠ stamp → j ≠ s5 → im j = none := fun j a b c d => by simp [im, a, b, c, d]
         have q1 : ρn t1 = ρ' 600 := by simp [ρn]
         have q2 : ρn t2 = optPl ρ' a := by simp [ρn, Ne.symm n12]
         have q3 : ρn stamp = optPl ρ' (res.map (·.1)) := by simp [ρn, Ne.symm n13, Ne.symm n23]
         have q4 : ρn s5 = optPl ρ' (res.map (·.2)) := by simp [ρn, Ne.symm n14, Ne.symm n24, Ne.symm n34]
         have q5 : ∀ j, j ≠ t1 → j ≠ t2 → j ≠ stamp → j ≠ s5 → ρn j = ρ j := fun j a b c d => by simp [ρn, a, b, c, d]
         have e1 : H3 t1 = some (.segs false [.one y1]) := by simp [H3]
         have e2 : H3 t2 = some (rowSB (a.map fun _ => m1)) := by simp [H3, Ne.symm n12]
         have e3 : H3 stamp = some (boxSB s5 o1) := by simp [H3, Ne.symm n13, Ne.symm n23]
         have e4 : H3 s5 = some (rowSB o1) := by simp [H3, Ne.symm n14, Ne.symm n24, Ne.symm n34]
         have e5 : ∀ j, j ≠ t1 → j ≠ t2 → j ≠ stamp → j ≠ s5 → H3 j = updH H key .gone j := fun j a b c d => by simp [H3, a, b, c, d]
         have five : ∀ j, j = t1 ∨ j = t2 ∨ j = stamp ∨ j = s5 ∨ (j ≠ t1 ∧ j ≠ t2 ∧ j ≠ stamp ∧ j ≠ s5) := fun j => by
          by_cases a1 : j = t1
          ·exact .inl a1
          ·by_cases a2 : j = t2
           ·exact .inr (.inl a2)
           ·by_cases a3 : j = stamp
            ·exact .inr (.inr (.inl a3))
            ·by_cases a4 : j = s5
             ·exact .inr (.inr (.inr (.inl a4)))
             ·exact .inr (.inr (.inr (.inr ⟨a1, a2, a3, a4⟩)))
         have old : ∀ j, dmOf H j → j ≠ t1 ∧ j ≠ t2 ∧ j ≠ stamp ∧ j ≠ s5 := fun j hj => by
          unfold dmOf at hj
          refine ⟨fun e => ?_, fun e => ?_, fun e => ?_, fun e => ?_⟩ <;> subst e
          ·rw [ht1] at hj; cases hj
          ·rw [ht2] at hj; cases hj
          ·rw [hst] at hj; cases hj
          ·rw [hs5] at hj; cases hj
         have hdold : ∀ j, dmOf H j → dmOf H3 j := fun j hj => by
          obtain ⟨a1, a2, a3, a4⟩ := old j hj
          unfold dmOf
          rw [e5 j a1 a2 a3 a4]
          exact dm_updH H key .gone j hj
         have dt2 : dmOf H3 t2 := by unfold dmOf; rw [e2]; rfl
         have ds5 : dmOf H3 s5 := by unfold dmOf; rw [e4]; rfl
         have dst : dmOf H3 stamp := by unfold dmOf; rw [e3]; rfl
         have mv : ∀ (kr kn : Nat) (n : SI) (len : Int) (u : Value), n.z = len → dmOf H3 kn → ρn kn = ρ' kr → D (dmOf (assoc h')) ρ' (.sl kr 0 1 ⟨true, 0⟩ n) u → D (dmOf H3) ρn (.sl kn 0 1 ⟨true, 0⟩ ⟨false, len⟩) u := fun kr kn n len u hl hd hr hv => by
          simp only [D] at hv ⊢
          rw [hr, ← hl]
          exact ⟨hd, hv.2⟩
         have hM' : ∀ b, M' b → w0.heap.size ≤ b ∨ M b := fun b hb => hP.ownD r b hrl hb
         have hold : ∀ b, w.heap.size ≤ b ∨ M' b → ∀ i, i < ls.length → i ≠ r → OwnB w (ρ key) (.b .u8 v) i b → False := fun b hb i hi hne ho => by
          rcases hb with hb | hb
          ·have := hP.ltD i b hi ho; omega
          ·exact hne (hP.sepD i r b hi hrl ho hb)
         have hm0 := hm.gone key (by rw [hkey]; rfl)
         have hngone : ∀ j b, b ≠ .gone → updH H key .gone j = some b → j ≠ key ∧ H j = some b := fun j b hb hj => by
          have n1 : j ≠ key := fun e => by subst e; rw [updH_same] at hj; simp only [Option.some.injEq] at hj; exact hb hj.symm
          rw [updH_ne n1] at hj
          exact ⟨n1, hj⟩
         have hres : ∀ c, res = some c → ∃ m2 n, o1 = some m2 ∧ assoc h' c.1 = some (.segs false [.one (.sl c.2 0 1 ⟨true, 0⟩ n)]) ∧ n.z = (m2.length : Int) ∧ assoc h' c.2 = some (.segs false [.rowI .u8 m2]) ∧ 601 < c.1 ∧ a ≠ some c.2 ∧ x = .p c.1 0 := fun c hc => by
          rcases z3 with ⟨_, _, e⟩ | ⟨k, b, m2, s1, s2, s3, s4, ⟨x2, s5', s6⟩, s7⟩
          ·rw [hc] at e; cases e
          ·rw [hc] at s4
           simp only [Option.some.injEq] at s4
           subst s4
           rcases s6 with ⟨_, _, e⟩ | ⟨kr, n, rfl, s8, s9, e⟩
           ·cases e
           ·simp only [Option.some.injEq] at e
            subst e
            exact ⟨m2, n, s3, s5', s8, s9, s2, s7, s1⟩
         have hnone : res = none → o1 = none ∧ x = .tup [] := fun hc => by
          rcases z3 with ⟨e0, e, _⟩ | ⟨k, b, m2, s1, s2, s3, s4, _⟩
          ·exact ⟨e, e0⟩
          ·rw [hc] at s4; cases s4
         have ha : ∀ c, a = some c → ∃ n, x1 = .sl c 0 1 ⟨true, 0⟩ n ∧ n.z = (m1.length : Int) ∧ assoc h' c = some (.segs false [.rowI .u8 m1]) := fun c hc => by
          rcases z2 with ⟨_, _, e⟩ | ⟨kr, n, s1, s2, s3, e⟩
          ·rw [hc] at e; cases e
          ·rw [hc] at e
           simp only [Option.some.injEq] at e
           subst e
           exact ⟨n, s1, s2, s3⟩
         have ha0 : a = none → x1 = .nsl ∧ m1 = [] := fun hc => by
          rcases z2 with ⟨e0, e, _⟩ | ⟨kr, n, s1, s2, s3, e⟩
          ·exact ⟨e0, e⟩
          ·rw [hc] at e; cases e
         have hmem3 : Mem w0 M ρn H3 w' := by
          refine Mem.import hm0 k3 (im := im) (fun j hj => ?_) (fun j c hj => ?_) (fun j hj => ?_) (fun j j' c h1 h2 => ?_) (fun j hj => ?_) hM' (fun j ro l hj hjk c1 hb => ?_) (fun j kd ls' i c hj hjk hi c1 hb => ?_) (fun j kd ls' hj hjk => ?_)
          ·rcases five j with rfl | rfl | rfl | rfl | ⟨a1, a2, a3, a4⟩
           ·rw [i1] at hj; cases hj
           ·rw [i2] at hj; cases hj
           ·rw [i3] at hj; cases hj
           ·rw [i4] at hj; cases hj
           ·exact ⟨e5 j a1 a2 a3 a4, fun _ => q5 j a1 a2 a3 a4⟩
          ·rcases five j with rfl | rfl | rfl | rfl | ⟨a1, a2, a3, a4⟩
           ·rw [i1] at hj
            simp only [Option.some.injEq] at hj
            subst hj
            refine ⟨q1, .inr (.inr ⟨_, _, e1, z1, fun cs hcs => ?_⟩)⟩
            obtain ⟨c1, c2, ⟨_, u, hu, rfl⟩, rfl, t3⟩ := hcs
            refine ⟨[u], c2, ⟨?_, u, ?_, rfl⟩, rfl, t3⟩
            ·simp only [y1]; cases a <;> rfl
            ·cases hac : a with
             | none =>
              obtain ⟨e, _⟩ := ha0 hac
              rw [e] at hu
              simp only [y1, hac]
              exact hu
             | some kr =>
              obtain ⟨n, s1, s2, s3⟩ := ha kr hac
              rw [s1] at hu
              simp only [y1, hac]
              exact mv kr t2 n _ u s2 dt2 (by rw [q2, hac]; rfl) hu
           ·rw [i2] at hj
            simp only [Option.some.injEq] at hj
            obtain ⟨n, s1, s2, s3⟩ := ha c hj
            refine ⟨by rw [q2, hj]; rfl, .inr (.inr ⟨[.rowI .u8 m1], _, by rw [e2, hj]; rfl, s3, fun cs hcs => ?_⟩)⟩
            obtain ⟨c1, c2, t1, t2, t3⟩ := hcs
            exact ⟨c1, c2, t1, t2, t3⟩
           ·rw [i3] at hj
            simp only [Option.some.injEq] at hj
            obtain ⟨c', hc', rfl⟩ := Option.map_eq_some_iff.1 hj
            obtain ⟨m2, n, s1, s2, s3, s4, s6, s7, s8⟩ := hres c' hc'
            refine ⟨by rw [q3, hc']; rfl, .inr (.inr ⟨_, _, by rw [e3, s1]; rfl, s2, fun cs hcs => ?_⟩)⟩
            obtain ⟨c1, c2, ⟨_, u, hu, rfl⟩, rfl, t3⟩ := hcs
            exact ⟨[u], c2, ⟨rfl, u, mv c'.2 s5 n _ u s3 ds5 (by rw [q4, hc']; rfl) hu, rfl⟩, rfl, t3⟩
           ·rw [i4] at hj
            simp only [Option.some.injEq] at hj
            obtain ⟨c', hc', rfl⟩ := Option.map_eq_some_iff.1 hj
            obtain ⟨m2, n, s1, s2, s3, s4, s6, s7, s8⟩ := hres c' hc'
            refine ⟨by rw [q4, hc']; rfl, .inr (.inr ⟨[.rowI .u8 m2], _, by rw [e4, s1]; rfl, s4, fun cs hcs => ?_⟩)⟩
            obtain ⟨c1, c2, t1, t2, t3⟩ := hcs
            exact ⟨c1, c2, t1, t2, t3⟩
           ·rw [i5 j a1 a2 a3 a4] at hj; cases hj
          ·rcases five j with rfl | rfl | rfl | rfl | ⟨a1, a2, a3, a4⟩
           ·rw [i1] at hj; cases hj
           ·rw [i2] at hj
            simp only [Option.some.injEq] at hj
            exact ⟨by rw [q2, hj]; rfl, .inl (by rw [e2, hj]; rfl)⟩
           ·rw [i3] at hj
            simp only [Option.some.injEq, Option.map_eq_none_iff] at hj
            exact ⟨by rw [q3, hj]; rfl, .inl (by rw [e3, (hnone hj).1]; rfl)⟩
           ·rw [i4] at hj
            simp only [Option.some.injEq, Option.map_eq_none_iff] at hj
            exact ⟨by rw [q4, hj]; rfl, .inl (by rw [e4, (hnone hj).1]; rfl)⟩
           ·rw [i5 j a1 a2 a3 a4] at hj; cases hj
          ·have inj : ∀ j c, im j = some (some c) → (j = t1 ∧ c = 600) ∨ (j = t2 ∧ a = some c) ∨ (j = stamp ∧ ∃ c', res = some c' ∧ c'.1 = c) ∨ (j = s5 ∧ ∃ c', res = some c' ∧ c'.2 = c) := fun j c hj => by
            rcases five j with rfl | rfl | rfl | rfl | ⟨a1, a2, a3, a4⟩
            ·rw [i1] at hj; simp only [Option.some.injEq] at hj; exact .inl ⟨rfl, hj.symm⟩
            ·rw [i2] at hj; simp only [Option.some.injEq] at hj; exact .inr (.inl ⟨rfl, hj⟩)
            ·rw [i3] at hj; simp only [Option.some.injEq] at hj; exact .inr (.inr (.inl ⟨rfl, Option.map_eq_some_iff.1 hj⟩))
            ·rw [i4] at hj; simp only [Option.some.injEq] at hj; exact .inr (.inr (.inr ⟨rfl, Option.map_eq_some_iff.1 hj⟩))
            ·rw [i5 j a1 a2 a3 a4] at hj; cases hj
           have b12 : a = some 600 → False := fun e => by obtain ⟨n, _, _, s⟩ := ha 600 e; rw [z1] at s; simp at s
           have b13 : ∀ c', res = some c' → c'.1 ≠ 600 := fun c' hc' => by obtain ⟨_, _, _, _, _, _, s, _⟩ := hres c' hc'; omega
           have b14 : ∀ c', res = some c' → c'.2 ≠ 600 := fun c' hc' e => by obtain ⟨_, _, _, _, _, s, _⟩ := hres c' hc'; rw [e, z1] at s; simp at s
           have b23 : ∀ c', res = some c' → a ≠ some c'.1 := fun c' hc' e => by
            obtain ⟨_, _, _, s, _⟩ := hres c' hc'
            obtain ⟨n, _, _, s'⟩ := ha _ e
            rw [s] at s'; simp at s'
           have b24 : ∀ c', res = some c' → a ≠ some c'.2 := fun c' hc' => by obtain ⟨_, _, _, _, _, _, _, s, _⟩ := hres c' hc'; exact s
           have b34 : ∀ c', res = some c' → c'.1 ≠ c'.2 := fun c' hc' e => by
            obtain ⟨_, _, _, s, _, s', _⟩ := hres c' hc'
            rw [e, s'] at s; simp at s
           rcases inj j c h1 with ⟨rfl, e⟩ | ⟨rfl, e⟩ | ⟨rfl, c', hc', e⟩ | ⟨rfl, c', hc', e⟩ <;> rcases inj j' c h2 with ⟨rfl, e'⟩ | ⟨rfl, e'⟩ | ⟨rfl, c'', hc'', e'⟩ | ⟨rfl, c'', hc'', e'⟩
           ·rfl
           ·exact (b12 (by rw [e', e])).elim
           ·exact absurd (e'.trans e) (b13 c'' hc'')
           ·exact absurd (e'.trans e) (b14 c'' hc'')
           ·exact (b12 (by rw [e, e'])).elim
           ·rfl
           ·exact absurd (by rw [e, e']) (b23 c'' hc'')
           ·exact absurd (by rw [e, e']) (b24 c'' hc'')
           ·exact absurd (e.trans e') (b13 c' hc')
           ·exact absurd (by rw [e', e]) (b23 c' hc')
           ·rfl
           ·rw [hc'] at hc''; cases hc''; exact absurd (e.trans e'.symm) (b34 c' hc')
           ·exact absurd (e.trans e') (b14 c' hc')
           ·exact absurd (by rw [e', e]) (b24 c' hc')
           ·rw [hc'] at hc''; cases hc''; exact absurd (e'.trans e.symm) (b34 c' hc')
           ·rfl
          ·have hj' : dmOf H j := dm_updH_of (by rw [hkey]; rfl) j hj
           obtain ⟨a1, a2, a3, a4⟩ := old j hj'
           exact ⟨hdold j hj', .of_eq (q5 j a1 a2 a3 a4)⟩
          ·obtain ⟨n1, hjk⟩ := hngone j _ (by simp) hjk
           exact hm.pools.apartD key _ ls j ro l r _ hkey hjk c1 hrl hb rfl
          ·obtain ⟨n1, hjk⟩ := hngone j _ (by simp) hjk
           exact hm.pools.twoD j _ ls' key _ ls i r c hjk hkey n1 hi hrl c1 hb
          ·rcases five j with rfl | rfl | rfl | rfl | ⟨a1, a2, a3, a4⟩
           ·rw [e1] at hjk; cases hjk
           ·rw [e2] at hjk; cases a <;> cases hjk
           ·rw [e3] at hjk; cases o1 <;> cases hjk
           ·rw [e4] at hjk; cases o1 <;> cases hjk
           ·exact absurd (i5 j a1 a2 a3 a4) hj
         have hkk : H3 key = some .gone := by rw [e5 key nk1 nk2 nk3 nk4, updH_same]
         have hρkk : ρn key = ρ key := q5 key nk1 nk2 nk3 nk4
         have lend : ∀ kr, ((y1 = .nsl ∧ m1 = [] ∧ kr = t1) ∨ (∃ len, y1 = .sl kr 0 1 ⟨true, 0⟩ len ∧ len.z = (m1.length : Int) ∧ H3 kr = some (.segs false [.rowI .u8 m1]))) → Mem w0 M ρn (updH (updH (updH H3 kr .gone) t1 .gone) key (.pool (.b .u8 none) (ls.set r m1))) w' := fun kr hkr => by
          refine hmem3.box_back hkk hρkk hP hrl e1 (by rw [q1]; exact le6.blk) (by rw [q1]; exact le6.off) (by rw [q1]; exact le6.cap) hkr k3.frame.size (fun i c hi hne ho => k3.frame.block c (hP.ltD i c hi ho) fun hb => hold c (.inr hb) i hi hne ho) (fun k' ro l i c hk' hc' hi hne ho => ?_) (fun k' kd ls' i j c hk' hi hne hj ho ho' => ?_)
          ·intro e
           rcases five k' with rfl | rfl | rfl | rfl | ⟨a1, a2, a3, a4⟩
           ·rw [q1] at hc' e
            rw [← e] at ho
            exact hold _ (k3.own 600 _ z1 hc') i hi hne ho
           ·cases hac : a with
            | none => rw [e2, hac] at hk'; cases hk'
            | some kr =>
             obtain ⟨n, _, _, s⟩ := ha kr hac
             rw [q2, hac] at hc' e
             rw [← e] at ho
             exact hold _ (k3.own kr _ s hc') i hi hne ho
           ·cases hrc : res with
            | none => rw [e3, (hnone hrc).1] at hk'; cases hk'
            | some c' =>
             obtain ⟨m2, n, s1, s2, _⟩ := hres c' hrc
             rw [q3, hrc] at hc' e
             rw [← e] at ho
             exact hold _ (k3.own c'.1 _ s2 hc') i hi hne ho
           ·cases hrc : res with
            | none => rw [e4, (hnone hrc).1] at hk'; cases hk'
            | some c' =>
             obtain ⟨m2, n, s1, s2, s3, s4, _⟩ := hres c' hrc
             rw [q4, hrc] at hc' e
             rw [← e] at ho
             exact hold _ (k3.own c'.2 _ s4 hc') i hi hne ho
           ·rw [e5 k' a1 a2 a3 a4] at hk'
            obtain ⟨n1, hk'⟩ := hngone k' _ (by simp) hk'
            rw [q5 k' a1 a2 a3 a4] at hc' e
            exact hm.pools.apartD key _ ls k' ro l i c hkey hk' hc' hi ho e
          ·rcases five k' with rfl | rfl | rfl | rfl | ⟨a1, a2, a3, a4⟩
           ·rw [e1] at hk'; cases hk'
           ·rw [e2] at hk'; cases a <;> cases hk'
           ·rw [e3] at hk'; cases o1 <;> cases hk'
           ·rw [e4] at hk'; cases o1 <;> cases hk'
           ·rw [e5 k' a1 a2 a3 a4] at hk'
            obtain ⟨n1, hk'⟩ := hngone k' _ (by simp) hk'
            rw [q5 k' a1 a2 a3 a4] at ho'
            refine hm.pools.twoD key _ ls k' kd ls' i j c hkey hk' (Ne.symm n1) hi hj ho (ho'.of_block fun h0 => k3.frame.block _ ((hm.pools.pool k' kd ls' hk').lt j hj h0) fun hb => ?_)
            exact hm.pools.twoD key _ ls k' kd ls' r j _ hkey hk' (Ne.symm n1) hrl hj hb (.pb h0)
         have hfin : Mem w0 M ρn (updsH H d.ws) w' := by
          have hfun : ∀ kr, (kr = t1 ∧ a = none ∨ kr = t2) → updsH H d.ws = updH (updH (updH H3 kr .gone) t1 .gone) key (.pool (.b .u8 none) (ls.set r m1)) := fun kr hkr => by
           rw [hdws]
           show updH (updH (updH (updH (updH H t1 .gone) t2 .gone) key (.pool (.b .u8 none) (ls.set r m1))) stamp (boxSB s5 o1)) s5 (rowSB o1) = _
           funext j
           by_cases jk : j = key
           ·subst jk
            rw [updH_ne nk4, updH_ne nk3, updH_same, updH_same]
           ·rw [updH_ne (b := .pool _ _) (key := key) (H := updH (updH H3 kr .gone) t1 .gone) jk]
            rcases five j with rfl | rfl | rfl | rfl | ⟨a1, a2, a3, a4⟩
            ·rw [updH_ne n14, updH_ne n13, updH_ne jk, updH_ne n12, updH_same, updH_same]
            ·rw [updH_ne n24, updH_ne n23, updH_ne jk, updH_same, updH_ne (Ne.symm n12)]
             rcases hkr with ⟨rfl, hac⟩ | rfl
             ·rw [updH_ne (Ne.symm n12), e2, hac]; rfl
             ·rw [updH_same]
            ·have nkr : j ≠ kr := by
              rcases hkr with ⟨rfl, _⟩ | rfl
              ·exact Ne.symm n13
              ·exact Ne.symm n23
             rw [updH_ne n34, updH_same, updH_ne (Ne.symm n13), updH_ne nkr, e3]
            ·have nkr : j ≠ kr := by
              rcases hkr with ⟨rfl, _⟩ | rfl
              ·exact Ne.symm n14
              ·exact Ne.symm n24
             rw [updH_same, updH_ne (Ne.symm n14), updH_ne nkr, e4]
            ·have nkr : j ≠ kr := by
              rcases hkr with ⟨rfl, _⟩ | rfl
              ·exact a1
              ·exact a2
             rw [updH_ne a4, updH_ne a3, updH_ne jk, updH_ne a2, updH_ne a1, updH_ne a1, updH_ne nkr, e5 j a1 a2 a3 a4, updH_ne jk]
          cases hac : a with
          | none =>
           obtain ⟨e, e'⟩ := ha0 hac
           rw [hfun t1 (.inl ⟨rfl, hac⟩)]
           exact lend t1 (.inl ⟨by simp only [y1, hac]; rfl, e', rfl⟩)
          | some kr =>
           rw [hfun t2 (.inr rfl)]
           exact lend t2 (.inr ⟨⟨false, (m1.length : Int)⟩, by simp only [y1, hac]; rfl, rfl, by rw [e2, hac]; rfl⟩)
         refine ⟨ρn, fun j hj => ?_, ?_, hfin⟩
         ·obtain ⟨a1, a2, a3, a4⟩ := old j hj
          exact .of_eq (q5 j a1 a2 a3 a4)
         ·rw [hdv, hdws]
          cases hrc : res with
          | none =>
           obtain ⟨s1, s2⟩ := hnone hrc
           rw [s2] at k2
           rw [s1]
           exact k2
          | some c' =>
           obtain ⟨m2, n, s1, s2, s3, s4, s6, s7, s8⟩ := hres c' hrc
           rw [s8] at k2
           rw [s1]
           simp only [D] at k2 ⊢
           refine ⟨dm_updH _ _ _ _ (dm_new _ _ _), ?_⟩
           rw [q3, hrc]; exact k2.2
        ·simp [RP.run] at hrun
       ·simp [RP.run] at hrun
      ·simp [RP.run] at hrun
     ·simp [RP.run] at hrun
    ·simp [RP.run] at hrun
   ·simp [RP.run] at hc
  ·simp [RP.run] at hc
 ·simp [RP.run] at hc

end
end Go.Gx

/- Write, Size, Sum, Clone and Reset of a state of a list. -/
namespace Go.Gx
open Go.Proofs Go.Sp
set_option linter.unusedVariables false
set_option maxRecDepth 100000

def tsS : List Ty := [.arr 8 (.int .u64), .arr 128 (.int .u8), .int .i64, .bool]
def vc24g (ws bl : List Int) (n : Int) (m : Bool) (K : List RV → List (Option (List Seg)) → Prop) (Q : Nat → List Pv → Prop) : Prop := fnVcG 1 Γ4 Tryd.f24 [] [.p 600 0] (H6 (R23 ws bl n m)) K Q
def vc27g (ws bl : List Int) (n : Int) (m : Bool) (K : List RV → List (Option (List Seg)) → Prop) (Q : Nat → List Pv → Prop) : Prop := fnVcG 1 Γ4 Tryd.f27 [] [.p 600 0] (H6 (R23 ws bl n m)) K Q
def vc28g (ws bl : List Int) (n : Int) (m : Bool) (K : List RV → List (Option (List Seg)) → Prop) (Q : Nat → List Pv → Prop) : Prop := fnVcG 1 Γ5 Tryd.f28 [] [.p 600 0] (H6 (R23 ws bl n m)) K Q
theorem vc24g_eq : ∀ (ws bl : List Int) (n : Int) (m : Bool) (K : List RV → List (Option (List Seg)) → Prop) (Q : Nat → List Pv → Prop), vc24g ws bl n m K Q = ForA .u64 8 ws fun x1 => ForA .u8 128 bl fun x2 => ForI .i64 n fun x3 => ∀ (x4 : Bool), x4 = !m → (x4 = true → K [RV.v (SV.i .i64 { st := true, z := (0 : Int) })] [some [Seg.arr .u64 8 false x1, Seg.arr .u8 128 false x2, Seg.one (SV.i .i64 { st := false, z := x3 }), Seg.one (SV.b false m)]]) ∧ (x4 = false → K [RV.v (SV.i .i64 { st := false, z := x3 })] [some [Seg.arr .u64 8 false x1, Seg.arr .u8 128 false x2, Seg.one (SV.i .i64 { st := false, z := x3 }), Seg.one (SV.b false m)]]) := by
 intros
 kernel_rfl

theorem vc28g_eq : ∀ (ws bl : List Int) (n : Int) (m : Bool) (K : List RV → List (Option (List Seg)) → Prop) (Q : Nat → List Pv → Prop), vc28g ws bl n m K Q = ForA .u64 8 ws fun x1 => ForA .u8 128 bl fun x2 => ForI .i64 n fun x3 => ∀ (x4 : Bool), x4 = !m → ((!x4) = true → ForI .u64 (7640891576956012808 : Int) fun x5 => ForI .u64 (13503953896175478587 : Int) fun x6 => ForI .u64 (4354685564936845355 : Int) fun x7 => ForI .u64 (11912009170470909681 : Int) fun x8 => ForI .u64 (5840696475078001361 : Int) fun x9 => ForI .u64 (11170449401992604703 : Int) fun x10 => ForI .u64 (2270897969802886507 : Int) fun x11 => ForI .u64 (6620516959819538809 : Int) fun x12 => ForA .u8 128 (List.replicate 128 (0 : Int)) fun x13 => K [] [some [Seg.arr .u64 8 true [x5, x6, x7, x8, x9, x10, x11, x12], Seg.arr .u8 128 false x13, Seg.one (SV.i .i64 { st := true, z := (0 : Int) }), Seg.one (SV.b true true)]]) ∧ ((!x4) = false → K [] [some [Seg.arr .u64 8 false x1, Seg.arr .u8 128 false x2, Seg.one (SV.i .i64 { st := false, z := x3 }), Seg.one (SV.b false m)]]) := by
 intros
 kernel_rfl

theorem vc27g_eq : ∀ (ws bl : List Int) (n : Int) (m : Bool) (K : List RV → List (Option (List Seg)) → Prop) (Q : Nat → List Pv → Prop), vc27g ws bl n m K Q = ForA .u64 8 ws fun x1 => ForA .u8 128 bl fun x2 => ForI .i64 n fun x3 => ∀ (x4 : Bool), x4 = !m → (x4 = true → K [RV.v (SV.arr .u8 64 false (List.replicate 64 (0 : Int)))] [some [Seg.arr .u64 8 false x1, Seg.arr .u8 128 false x2, Seg.one (SV.i .i64 { st := false, z := x3 }), Seg.one (SV.b false m)]]) ∧ (x4 = false → ForI .i64 (x3.tmod (128 : Int)) fun x5 => Need (0 ≤ x5 ∧ x5 ≤ 128 ∧ (128 : Int) ≤ 128) ∧ Need (x5 + (128 - x5) ≤ (128 : Int)) ∧ ForA .u64 8 x1 fun x6 => ForA .u8 128 (splice x2 x5.toNat (List.replicate (128 - x5).toNat (0 : Int))) fun x7 => ForI .i64 x3 fun x8 => Need (0 ≤ x5 ∧ x5 < 128) ∧ Need (0 ≤ x5 ∧ x5 < 128) ∧ ForA .u64 8 x6 fun x9 => ForA .u8 128 (x7.set x5.toNat (128 : Int)) fun x10 => ForI .i64 x8 fun x11 => (decide (x5 ≥ 112) = true → ForA .u64 8 (compr x9 x10) fun x12 => ForA .u8 128 x10 fun x13 => ForI .i64 x11 fun x14 => Need ((128 : Int) ≤ 128) ∧ ForA .u64 8 x12 fun x15 => ForA .u8 128 (splice x13 (0 : Nat) (List.replicate 128 (0 : Int))) fun x16 => ForI .i64 x14 fun x17 => ForI .u64 (IntKind.u64.wrap x17) fun x18 => ForI .u64 (x18 * 8 / (18446744073709551616 : Int)) fun x19 => ForI .u64 (x18 * 8 % (18446744073709551616 : Int)) fun x20 => ForI .u64 (shrI .u64 x19 0) fun x21 => ForI .u8 (IntKind.u8.wrap x21) fun x22 => ForI .u64 (shrI .u64 x20 0) fun x23 => ForI .u8 (IntKind.u8.wrap x23) fun x24 => ForI .u64 (shrI .u64 x19 8) fun x25 => ForI .u8 (IntKind.u8.wrap x25) fun x26 => ForI .u64 (shrI .u64 x20 8) fun x27 => ForI .u8 (IntKind.u8.wrap x27) fun x28 => ForI .u64 (shrI .u64 x19 16) fun x29 => ForI .u8 (IntKind.u8.wrap x29) fun x30 => ForI .u64 (shrI .u64 x20 16) fun x31 => ForI .u8 (IntKind.u8.wrap x31) fun x32 => ForI .u64 (shrI .u64 x19 24) fun x33 => ForI .u8 (IntKind.u8.wrap x33) fun x34 => ForI .u64 (shrI .u64 x20 24) fun x35 => ForI .u8 (IntKind.u8.wrap x35) fun x36 => ForI .u64 (shrI .u64 x19 32) fun x37 => ForI .u8 (IntKind.u8.wrap x37) fun x38 => ForI .u64 (shrI .u64 x20 32) fun x39 => ForI .u8 (IntKind.u8.wrap x39) fun x40 => ForI .u64 (shrI .u64 x19 40) fun x41 => ForI .u8 (IntKind.u8.wrap x41) fun x42 => ForI .u64 (shrI .u64 x20 40) fun x43 => ForI .u8 (IntKind.u8.wrap x43) fun x44 => ForI .u64 (shrI .u64 x19 48) fun x45 => ForI .u8 (IntKind.u8.wrap x45) fun x46 => ForI .u64 (shrI .u64 x20 48) fun x47 => ForI .u8 (IntKind.u8.wrap x47) fun x48 => ForI .u64 (shrI .u64 x19 56) fun x49 => ForI .u8 (IntKind.u8.wrap x49) fun x50 => ForI .u64 (shrI .u64 x20 56) fun x51 => ForI .u8 (IntKind.u8.wrap x51) fun x52 => ForA .u64 8 (compr x15 ((((((((((((((((x16.set (119 : Nat) x22).set (127 : Nat) x24).set (118 : Nat) x26).set (126 : Nat) x28).set (117 : Nat) x30).set (125 : Nat) x32).set (116 : Nat) x34).set (124 : Nat) x36).set (115 : Nat) x38).set (123 : Nat) x40).set (114 : Nat) x42).set (122 : Nat) x44).set (113 : Nat) x46).set (121 : Nat) x48).set (112 : Nat) x50).set (120 : Nat) x52)) fun x53 => ForA .u8 128 ((((((((((((((((x16.set (119 : Nat) x22).set (127 : Nat) x24).set (118 : Nat) x26).set (126 : Nat) x28).set (117 : Nat) x30).set (125 : Nat) x32).set (116 : Nat) x34).set (124 : Nat) x36).set (115 : Nat) x38).set (123 : Nat) x40).set (114 : Nat) x42).set (122 : Nat) x44).set (113 : Nat) x46).set (121 : Nat) x48).set (112 : Nat) x50).set (120 : Nat) x52) fun x54 => ForI .i64 x17 fun x55 => ForI .u64 (shrI .u64 (x53.getD (nat_lit 0) (0 : Int)) (56 : Int)) fun x56 => ForI .u8 (IntKind.u8.wrap x56) fun x57 => ForI .u64 (shrI .u64 (x53.getD (nat_lit 0) (0 : Int)) (48 : Int)) fun x58 => ForI .u8 (IntKind.u8.wrap x58) fun x59 => ForI .u64 (shrI .u64 (x53.getD (nat_lit 0) (0 : Int)) (40 : Int)) fun x60 => ForI .u8 (IntKind.u8.wrap x60) fun x61 => ForI .u64 (shrI .u64 (x53.getD (nat_lit 0) (0 : Int)) (32 : Int)) fun x62 => ForI .u8 (IntKind.u8.wrap x62) fun x63 => ForI .u64 (shrI .u64 (x53.getD (nat_lit 0) (0 : Int)) (24 : Int)) fun x64 => ForI .u8 (IntKind.u8.wrap x64) fun x65 => ForI .u64 (shrI .u64 (x53.getD (nat_lit 0) (0 : Int)) (16 : Int)) fun x66 => ForI .u8 (IntKind.u8.wrap x66) fun x67 => ForI .u64 (shrI .u64 (x53.getD (nat_lit 0) (0 : Int)) (8 : Int)) fun x68 => ForI .u8 (IntKind.u8.wrap x68) fun x69 => ForI .u64 (shrI .u64 (x53.getD (nat_lit 0) (0 : Int)) (0 : Int)) fun x70 => ForI .u8 (IntKind.u8.wrap x70) fun x71 => ForI .u64 (shrI .u64 (x53.getD 1 0) (56 : Int)) fun x72 => ForI .u8 (IntKind.u8.wrap x72) fun x73 => ForI .u64 (shrI .u64 (x53.getD 1 0) (48 : Int)) fun x74 => ForI .u8 (IntKind.u8.wrap x74) fun x75 => ForI .u64 (shrI .u64 (x53.getD 1 0) (40 : Int)) fun x76 => ForI .u8 (IntKind.u8.wrap x76) fun x77 => ForI .u64 (shrI .u64 (x53.getD 1 0) (32 : Int)) fun x78 => ForI .u8 (IntKind.u8.wrap x78) fun x79 => ForI .u64 (shrI .u64 (x53.getD 1 0) (24 : Int)) fun x80 => ForI .u8 (IntKind.u8.wrap x80) fun x81 => ForI .u64 (shrI .u64 (x53.getD 1 0) (16 : Int)) fun x82 => ForI .u8 (IntKind.u8.wrap x82) fun x83 => ForI .u64 (shrI .u64 (x53.getD 1 0) (8 : Int)) fun x84 => ForI .u8 (IntKind.u8.wrap x84) fun x85 => ForI .u64 (shrI .u64 (x53.getD 1 0) (0 : Int)) fun x86 => ForI .u8 (IntKind.u8.wrap x86) fun x87 => ForI .u64 (shrI .u64 (x53.getD 2 0) (56 : Int)) fun x88 => ForI .u8 (IntKind.u8.wrap x88) fun x89 => ForI .u64 (shrI .u64 (x53.getD 2 0) (48 : Int)) fun x90 => ForI .u8 (IntKind.u8.wrap x90) fun x91 => ForI .u64 (shrI .u64 (x53.getD 2 0) (40 : Int)) fun x92 => ForI .u8 (IntKind.u8.wrap x92) fun x93 => ForI .u64 (shrI .u64 (x53.getD 2 0) (32 : Int)) fun x94 => ForI .u8 (IntKind.u8.wrap x94) fun x95 => ForI .u64 (shrI .u64 (x53.getD 2 0) (24 : Int)) fun x96 => ForI .u8 (IntKind.u8.wrap x96) fun x97 => ForI .u64 (shrI .u64 (x53.getD 2 0) (16 : Int)) fun x98 => ForI .u8 (IntKind.u8.wrap x98) fun x99 => ForI .u64 (shrI .u64 (x53.getD 2 0) (8 : Int)) fun x100 => ForI .u8 (IntKind.u8.wrap x100) fun x101 => ForI .u64 (shrI .u64 (x53.getD 2 0) (0 : Int)) fun x102 => ForI .u8 (IntKind.u8.wrap x102) fun x103 => ForI .u64 (shrI .u64 (x53.getD 3 0) (56 : Int)) fun x104 => ForI .u8 (IntKind.u8.wrap x104) fun x105 => ForI .u64 (shrI .u64 (x53.getD 3 0) (48 : Int)) fun x106 => ForI .u8 (IntKind.u8.wrap x106) fun x107 => ForI .u64 (shrI .u64 (x53.getD 3 0) (40 : Int)) fun x108 => ForI .u8 (IntKind.u8.wrap x108) fun x109 => ForI .u64 (shrI .u64 (x53.getD 3 0) (32 : Int)) fun x110 => ForI .u8 (IntKind.u8.wrap x110) fun x111 => ForI .u64 (shrI .u64 (x53.getD 3 0) (24 : Int)) fun x112 => ForI .u8 (IntKind.u8.wrap x112) fun x113 => ForI .u64 (shrI .u64 (x53.getD 3 0) (16 : Int)) fun x114 => ForI .u8 (IntKind.u8.wrap x114) fun x115 => ForI .u64 (shrI .u64 (x53.getD 3 0) (8 : Int)) fun x116 => ForI .u8 (IntKind.u8.wrap x116) fun x117 => ForI .u64 (shrI .u64 (x53.getD 3 0) (0 : Int)) fun x118 => ForI .u8 (IntKind.u8.wrap x118) fun x119 => ForI .u64 (shrI .u64 (x53.getD 4 0) (56 : Int)) fun x120 => ForI .u8 (IntKind.u8.wrap x120) fun x121 => ForI .u64 (shrI .u64 (x53.getD 4 0) (48 : Int)) fun x122 => ForI .u8 (IntKind.u8.wrap x122) fun x123 => ForI .u64 (shrI .u64 (x53.getD 4 0) (40 : Int)) fun x124 => ForI .u8 (IntKind.u8.wrap x124) fun x125 => ForI .u64 (shrI .u64 (x53.getD 4 0) (32 : Int)) fun x126 => ForI .u8 (IntKind.u8.wrap x126) fun x127 => ForI .u64 (shrI .u64 (x53.getD 4 0) (24 : Int)) fun x128 => ForI .u8 (IntKind.u8.wrap x128) fun x129 => ForI .u64 (shrI .u64 (x53.getD 4 0) (16 : Int)) fun x130 => ForI .u8 (IntKind.u8.wrap x130) fun x131 => ForI .u64 (shrI .u64 (x53.getD 4 0) (8 : Int)) fun x132 => ForI .u8 (IntKind.u8.wrap x132) fun x133 => ForI .u64 (shrI .u64 (x53.getD 4 0) (0 : Int)) fun x134 => ForI .u8 (IntKind.u8.wrap x134) fun x135 => ForI .u64 (shrI .u64 (x53.getD 5 0) (56 : Int)) fun x136 => ForI .u8 (IntKind.u8.wrap x136) fun x137 => ForI .u64 (shrI .u64 (x53.getD 5 0) (48 : Int)) fun x138 => ForI .u8 (IntKind.u8.wrap x138) fun x139 => ForI .u64 (shrI .u64 (x53.getD 5 0) (40 : Int)) fun x140 => ForI .u8 (IntKind.u8.wrap x140) fun x141 => ForI .u64 (shrI .u64 (x53.getD 5 0) (32 : Int)) fun x142 => ForI .u8 (IntKind.u8.wrap x142) fun x143 => ForI .u64 (shrI .u64 (x53.getD 5 0) (24 : Int)) fun x144 => ForI .u8 (IntKind.u8.wrap x144) fun x145 => ForI .u64 (shrI .u64 (x53.getD 5 0) (16 : Int)) fun x146 => ForI .u8 (IntKind.u8.wrap x146) fun x147 => ForI .u64 (shrI .u64 (x53.getD 5 0) (8 : Int)) fun x148 => ForI .u8 (IntKind.u8.wrap x148) fun x149 => ForI .u64 (shrI .u64 (x53.getD 5 0) (0 : Int)) fun x150 => ForI .u8 (IntKind.u8.wrap x150) fun x151 => ForI .u64 (shrI .u64 (x53.getD 6 0) (56 : Int)) fun x152 => ForI .u8 (IntKind.u8.wrap x152) fun x153 => ForI .u64 (shrI .u64 (x53.getD 6 0) (48 : Int)) fun x154 => ForI .u8 (IntKind.u8.wrap x154) fun x155 => ForI .u64 (shrI .u64 (x53.getD 6 0) (40 : Int)) fun x156 => ForI .u8 (IntKind.u8.wrap x156) fun x157 => ForI .u64 (shrI .u64 (x53.getD 6 0) (32 : Int)) fun x158 => ForI .u8 (IntKind.u8.wrap x158) fun x159 => ForI .u64 (shrI .u64 (x53.getD 6 0) (24 : Int)) fun x160 => ForI .u8 (IntKind.u8.wrap x160) fun x161 => ForI .u64 (shrI .u64 (x53.getD 6 0) (16 : Int)) fun x162 => ForI .u8 (IntKind.u8.wrap x162) fun x163 => ForI .u64 (shrI .u64 (x53.getD 6 0) (8 : Int)) fun x164 => ForI .u8 (IntKind.u8.wrap x164) fun x165 => ForI .u64 (shrI .u64 (x53.getD 6 0) (0 : Int)) fun x166 => ForI .u8 (IntKind.u8.wrap x166) fun x167 => ForI .u64 (shrI .u64 (x53.getD 7 0) (56 : Int)) fun x168 => ForI .u8 (IntKind.u8.wrap x168) fun x169 => ForI .u64 (shrI .u64 (x53.getD 7 0) (48 : Int)) fun x170 => ForI .u8 (IntKind.u8.wrap x170) fun x171 => ForI .u64 (shrI .u64 (x53.getD 7 0) (40 : Int)) fun x172 => ForI .u8 (IntKind.u8.wrap x172) fun x173 => ForI .u64 (shrI .u64 (x53.getD 7 0) (32 : Int)) fun x174 => ForI .u8 (IntKind.u8.wrap x174) fun x175 => ForI .u64 (shrI .u64 (x53.getD 7 0) (24 : Int)) fun x176 => ForI .u8 (IntKind.u8.wrap x176) fun x177 => ForI .u64 (shrI .u64 (x53.getD 7 0) (16 : Int)) fun x178 => ForI .u8 (IntKind.u8.wrap x178) fun x179 => ForI .u64 (shrI .u64 (x53.getD 7 0) (8 : Int)) fun x180 => ForI .u8 (IntKind.u8.wrap x180) fun x181 => ForI .u64 (shrI .u64 (x53.getD 7 0) (0 : Int)) fun x182 => ForI .u8 (IntKind.u8.wrap x182) fun x183 => K [RV.v (SV.arr .u8 64 false (((((((((((((((((((((((((((((((((((((((((((((((((((((((((((((((((List.replicate 64 (0 : Int)).set (0 : Nat) x57).set (1 : Nat) x59).set (2 : Nat) x61).set (3 : Nat) x63).set (4 : Nat) x65).set (5 : Nat) x67).set (6 : Nat) x69).set (7 : Nat) x71).set (8 : Nat) x73).set (9 : Nat) x75).set (10 : Nat) x77).set (11 : Nat) x79).set (12 : Nat) x81).set (13 : Nat) x83).set (14 : Nat) x85).set (15 : Nat) x87).set (16 : Nat) x89).set (17 : Nat) x91).set (18 : Nat) x93).set (19 : Nat) x95).set (20 : Nat) x97).set (21 : Nat) x99).set (22 : Nat) x101).set (23 : Nat) x103).set (24 : Nat) x105).set (25 : Nat) x107).set (26 : Nat) x109).set (27 : Nat) x111).set (28 : Nat) x113).set (29 : Nat) x115).set (30 : Nat) x117).set (31 : Nat) x119).set (32 : Nat) x121).set (33 : Nat) x123).set (34 : Nat) x125).set (35 : Nat) x127).set (36 : Nat) x129).set (37 : Nat) x131).set (38 : Nat) x133).set (39 : Nat) x135).set (40 : Nat) x137).set (41 : Nat) x139).set (42 : Nat) x141).set (43 : Nat) x143).set (44 : Nat) x145).set (45 : Nat) x147).set (46 : Nat) x149).set (47 : Nat) x151).set (48 : Nat) x153).set (49 : Nat) x155).set (50 : Nat) x157).set (51 : Nat) x159).set (52 : Nat) x161).set (53 : Nat) x163).set (54 : Nat) x165).set (55 : Nat) x167).set (56 : Nat) x169).set (57 : Nat) x171).set (58 : Nat) x173).set (59 : Nat) x175).set (60 : Nat) x177).set (61 : Nat) x179).set (62 : Nat) x181).set (63 : Nat) x183))] [some [Seg.arr .u64 8 false x1, Seg.arr .u8 128 false x2, Seg.one (SV.i .i64 { st := false, z := x3 }), Seg.one (SV.b false m)]]) ∧ (decide (x5 ≥ 112) = false → ForI .u64 (IntKind.u64.wrap x11) fun x184 => ForI .u64 (x184 * 8 / (18446744073709551616 : Int)) fun x185 => ForI .u64 (x184 * 8 % (18446744073709551616 : Int)) fun x186 => ForI .u64 (shrI .u64 x185 0) fun x187 => ForI .u8 (IntKind.u8.wrap x187) fun x188 => ForI .u64 (shrI .u64 x186 0) fun x189 => ForI .u8 (IntKind.u8.wrap x189) fun x190 => ForI .u64 (shrI .u64 x185 8) fun x191 => ForI .u8 (IntKind.u8.wrap x191) fun x192 => ForI .u64 (shrI .u64 x186 8) fun x193 => ForI .u8 (IntKind.u8.wrap x193) fun x194 => ForI .u64 (shrI .u64 x185 16) fun x195 => ForI .u8 (IntKind.u8.wrap x195) fun x196 => ForI .u64 (shrI .u64 x186 16) fun x197 => ForI .u8 (IntKind.u8.wrap x197) fun x198 => ForI .u64 (shrI .u64 x185 24) fun x199 => ForI .u8 (IntKind.u8.wrap x199) fun x200 => ForI .u64 (shrI .u64 x186 24) fun x201 => ForI .u8 (IntKind.u8.wrap x201) fun x202 => ForI .u64 (shrI .u64 x185 32) fun x203 => ForI .u8 (IntKind.u8.wrap x203) fun x204 => ForI .u64 (shrI .u64 x186 32) fun x205 => ForI .u8 (IntKind.u8.wrap x205) fun x206 => ForI .u64 (shrI .u64 x185 40) fun x207 => ForI .u8 (IntKind.u8.wrap x207) fun x208 => ForI .u64 (shrI .u64 x186 40) fun x209 => ForI .u8 (IntKind.u8.wrap x209) fun x210 => ForI .u64 (shrI .u64 x185 48) fun x211 => ForI .u8 (IntKind.u8.wrap x211) fun x212 => ForI .u64 (shrI .u64 x186 48) fun x213 => ForI .u8 (IntKind.u8.wrap x213) fun x214 => ForI .u64 (shrI .u64 x185 56) fun x215 => ForI .u8 (IntKind.u8.wrap x215) fun x216 => ForI .u64 (shrI .u64 x186 56) fun x217 => ForI .u8 (IntKind.u8.wrap x217) fun x218 => ForA .u64 8 (compr x9 ((((((((((((((((x10.set (119 : Nat) x188).set (127 : Nat) x190).set (118 : Nat) x192).set (126 : Nat) x194).set (117 : Nat) x196).set (125 : Nat) x198).set (116 : Nat) x200).set (124 : Nat) x202).set (115 : Nat) x204).set (123 : Nat) x206).set (114 : Nat) x208).set (122 : Nat) x210).set (113 : Nat) x212).set (121 : Nat) x214).set (112 : Nat) x216).set (120 : Nat) x218)) fun x219 => ForA .u8 128 ((((((((((((((((x10.set (119 : Nat) x188).set (127 : Nat) x190).set (118 : Nat) x192).set (126 : Nat) x194).set (117 : Nat) x196).set (125 : Nat) x198).set (116 : Nat) x200).set (124 : Nat) x202).set (115 : Nat) x204).set (123 : Nat) x206).set (114 : Nat) x208).set (122 : Nat) x210).set (113 : Nat) x212).set (121 : Nat) x214).set (112 : Nat) x216).set (120 : Nat) x218) fun x220 => ForI .i64 x11 fun x221 => ForI .u64 (shrI .u64 (x219.getD (nat_lit 0) (0 : Int)) (56 : Int)) fun x222 => ForI .u8 (IntKind.u8.wrap x222) fun x223 => ForI .u64 (shrI .u64 (x219.getD (nat_lit 0) (0 : Int)) (48 : Int)) fun x224 => ForI .u8 (IntKind.u8.wrap x224) fun x225 => ForI .u64 (shrI .u64 (x219.getD (nat_lit 0) (0 : Int)) (40 : Int)) fun x226 => ForI .u8 (IntKind.u8.wrap x226) fun x227 => ForI .u64 (shrI .u64 (x219.getD (nat_lit 0) (0 : Int)) (32 : Int)) fun x228 => ForI .u8 (IntKind.u8.wrap x228) fun x229 => ForI .u64 (shrI .u64 (x219.getD (nat_lit 0) (0 : Int)) (24 : Int)) fun x230 => ForI .u8 (IntKind.u8.wrap x230) fun x231 => ForI .u64 (shrI .u64 (x219.getD (nat_lit 0) (0 : Int)) (16 : Int)) fun x232 => ForI .u8 (IntKind.u8.wrap x232) fun x233 => ForI .u64 (shrI .u64 (x219.getD (nat_lit 0) (0 : Int)) (8 : Int)) fun x234 => ForI .u8 (IntKind.u8.wrap x234) fun x235 => ForI .u64 (shrI .u64 (x219.getD (nat_lit 0) (0 : Int)) (0 : Int)) fun x236 => ForI .u8 (IntKind.u8.wrap x236) fun x237 => ForI .u64 (shrI .u64 (x219.getD 1 0) (56 : Int)) fun x238 => ForI .u8 (IntKind.u8.wrap x238) fun x239 => ForI .u64 (shrI .u64 (x219.getD 1 0) (48 : Int)) fun x240 => ForI .u8 (IntKind.u8.wrap x240) fun x241 => ForI .u64 (shrI .u64 (x219.getD 1 0) (40 : Int)) fun x242 => ForI .u8 (IntKind.u8.wrap x242) fun x243 => ForI .u64 (shrI .u64 (x219.getD 1 0) (32 : Int)) fun x244 => ForI .u8 (IntKind.u8.wrap x244) fun x245 => ForI .u64 (shrI .u64 (x219.getD 1 0) (24 : Int)) fun x246 => ForI .u8 (IntKind.u8.wrap x246) fun x247 => ForI .u64 (shrI .u64 (x219.getD 1 0) (16 : Int)) fun x248 => ForI .u8 (IntKind.u8.wrap x248) fun x249 => ForI .u64 (shrI .u64 (x219.getD 1 0) (8 : Int)) fun x250 => ForI .u8 (IntKind.u8.wrap x250) fun x251 => ForI .u64 (shrI .u64 (x219.getD 1 0) (0 : Int)) fun x252 => ForI .u8 (IntKind.u8.wrap x252) fun x253 => ForI .u64 (shrI .u64 (x219.getD 2 0) (56 : Int)) fun x254 => ForI .u8 (IntKind.u8.wrap x254) fun x255 => ForI .u64 (shrI .u64 (x219.getD 2 0) (48 : Int)) fun x256 => ForI .u8 (IntKind.u8.wrap x256) fun x257 => ForI .u64 (shrI .u64 (x219.getD 2 0) (40 : Int)) fun x258 => ForI .u8 (IntKind.u8.wrap x258) fun x259 => ForI .u64 (shrI .u64 (x219.getD 2 0) (32 : Int)) fun x260 => ForI .u8 (IntKind.u8.wrap x260) fun x261 => ForI .u64 (shrI .u64 (x219.getD 2 0) (24 : Int)) fun x262 => ForI .u8 (IntKind.u8.wrap x262) fun x263 => ForI .u64 (shrI .u64 (x219.getD 2 0) (16 : Int)) fun x264 => ForI .u8 (IntKind.u8.wrap x264) fun x265 => ForI .u64 (shrI .u64 (x219.getD 2 0) (8 : Int)) fun x266 => ForI .u8 (IntKind.u8.wrap x266) fun x267 => ForI .u64 (shrI .u64 (x219.getD 2 0) (0 : Int)) fun x268 => ForI .u8 (IntKind.u8.wrap x268) fun x269 => ForI .u64 (shrI .u64 (x219.getD 3 0) (56 : Int)) fun x270 => ForI .u8 (IntKind.u8.wrap x270) fun x271 => ForI .u64 (shrI .u64 (x219.getD 3 0) (48 : Int)) fun x272 => ForI .u8 (IntKind.u8.wrap x272) fun x273 => ForI .u64 (shrI .u64 (x219.getD 3 0) (40 : Int)) fun x274 => ForI .u8 (IntKind.u8.wrap x274) fun x275 => ForI .u64 (shrI .u64 (x219.getD 3 0) (32 : Int)) fun x276 => ForI .u8 (IntKind.u8.wrap x276) fun x277 => ForI .u64 (shrI .u64 (x219.getD 3 0) (24 : Int)) fun x278 => ForI .u8 (IntKind.u8.wrap x278) fun x279 => ForI .u64 (shrI .u64 (x219.getD 3 0) (16 : Int)) fun x280 => ForI .u8 (IntKind.u8.wrap x280) fun x281 => ForI .u64 (shrI .u64 (x219.getD 3 0) (8 : Int)) fun x282 => ForI .u8 (IntKind.u8.wrap x282) fun x283 => ForI .u64 (shrI .u64 (x219.getD 3 0) (0 : Int)) fun x284 => ForI .u8 (IntKind.u8.wrap x284) fun x285 => ForI .u64 (shrI .u64 (x219.getD 4 0) (56 : Int)) fun x286 => ForI .u8 (IntKind.u8.wrap x286) fun x287 => ForI .u64 (shrI .u64 (x219.getD 4 0) (48 : Int)) fun x288 => ForI .u8 (IntKind.u8.wrap x288) fun x289 => ForI .u64 (shrI .u64 (x219.getD 4 0) (40 : Int)) fun x290 => ForI .u8 (IntKind.u8.wrap x290) fun x291 => ForI .u64 (shrI .u64 (x219.getD 4 0) (32 : Int)) fun x292 => ForI .u8 (IntKind.u8.wrap x292) fun x293 => ForI .u64 (shrI .u64 (x219.getD 4 0) (24 : Int)) fun x294 => ForI .u8 (IntKind.u8.wrap x294) fun x295 => ForI .u64 (shrI .u64 (x219.getD 4 0) (16 : Int)) fun x296 => ForI .u8 (IntKind.u8.wrap x296) fun x297 => ForI .u64 (shrI .u64 (x219.getD 4 0) (8 : Int)) fun x298 => ForI .u8 (IntKind.u8.wrap x298) fun x299 => ForI .u64 (shrI .u64 (x219.getD 4 0) (0 : Int)) fun x300 => ForI .u8 (IntKind.u8.wrap x300) fun x301 => ForI .u64 (shrI .u64 (x219.getD 5 0) (56 : Int)) fun x302 => ForI .u8 (IntKind.u8.wrap x302) fun x303 => ForI .u64 (shrI .u64 (x219.getD 5 0) (48 : Int)) fun x304 => ForI .u8 (IntKind.u8.wrap x304) fun x305 => ForI .u64 (shrI .u64 (x219.getD 5 0) (40 : Int)) fun x306 => ForI .u8 (IntKind.u8.wrap x306) fun x307 => ForI .u64 (shrI .u64 (x219.getD 5 0) (32 : Int)) fun x308 => ForI .u8 (IntKind.u8.wrap x308) fun x309 => ForI .u64 (shrI .u64 (x219.getD 5 0) (24 : Int)) fun x310 => ForI .u8 (IntKind.u8.wrap x310) fun x311 => ForI .u64 (shrI .u64 (x219.getD 5 0) (16 : Int)) fun x312 => ForI .u8 (IntKind.u8.wrap x312) fun x313 => ForI .u64 (shrI .u64 (x219.getD 5 0) (8 : Int)) fun x314 => ForI .u8 (IntKind.u8.wrap x314) fun x315 => ForI .u64 (shrI .u64 (x219.getD 5 0) (0 : Int)) fun x316 => ForI .u8 (IntKind.u8.wrap x316) fun x317 => ForI .u64 (shrI .u64 (x219.getD 6 0) (56 : Int)) fun x318 => ForI .u8 (IntKind.u8.wrap x318) fun x319 => ForI .u64 (shrI .u64 (x219.getD 6 0) (48 : Int)) fun x320 => ForI .u8 (IntKind.u8.wrap x320) fun x321 => ForI .u64 (shrI .u64 (x219.getD 6 0) (40 : Int)) fun x322 => ForI .u8 (IntKind.u8.wrap x322) fun x323 => ForI .u64 (shrI .u64 (x219.getD 6 0) (32 : Int)) fun x324 => ForI .u8 (IntKind.u8.wrap x324) fun x325 => ForI .u64 (shrI .u64 (x219.getD 6 0) (24 : Int)) fun x326 => ForI .u8 (IntKind.u8.wrap x326) fun x327 => ForI .u64 (shrI .u64 (x219.getD 6 0) (16 : Int)) fun x328 => ForI .u8 (IntKind.u8.wrap x328) fun x329 => ForI .u64 (shrI .u64 (x219.getD 6 0) (8 : Int)) fun x330 => ForI .u8 (IntKind.u8.wrap x330) fun x331 => ForI .u64 (shrI .u64 (x219.getD 6 0) (0 : Int)) fun x332 => ForI .u8 (IntKind.u8.wrap x332) fun x333 => ForI .u64 (shrI .u64 (x219.getD 7 0) (56 : Int)) fun x334 => ForI .u8 (IntKind.u8.wrap x334) fun x335 => ForI .u64 (shrI .u64 (x219.getD 7 0) (48 : Int)) fun x336 => ForI .u8 (IntKind.u8.wrap x336) fun x337 => ForI .u64 (shrI .u64 (x219.getD 7 0) (40 : Int)) fun x338 => ForI .u8 (IntKind.u8.wrap x338) fun x339 => ForI .u64 (shrI .u64 (x219.getD 7 0) (32 : Int)) fun x340 => ForI .u8 (IntKind.u8.wrap x340) fun x341 => ForI .u64 (shrI .u64 (x219.getD 7 0) (24 : Int)) fun x342 => ForI .u8 (IntKind.u8.wrap x342) fun x343 => ForI .u64 (shrI .u64 (x219.getD 7 0) (16 : Int)) fun x344 => ForI .u8 (IntKind.u8.wrap x344) fun x345 => ForI .u64 (shrI .u64 (x219.getD 7 0) (8 : Int)) fun x346 => ForI .u8 (IntKind.u8.wrap x346) fun x347 => ForI .u64 (shrI .u64 (x219.getD 7 0) (0 : Int)) fun x348 => ForI .u8 (IntKind.u8.wrap x348) fun x349 => K [RV.v (SV.arr .u8 64 false (((((((((((((((((((((((((((((((((((((((((((((((((((((((((((((((((List.replicate 64 (0 : Int)).set (0 : Nat) x223).set (1 : Nat) x225).set (2 : Nat) x227).set (3 : Nat) x229).set (4 : Nat) x231).set (5 : Nat) x233).set (6 : Nat) x235).set (7 : Nat) x237).set (8 : Nat) x239).set (9 : Nat) x241).set (10 : Nat) x243).set (11 : Nat) x245).set (12 : Nat) x247).set (13 : Nat) x249).set (14 : Nat) x251).set (15 : Nat) x253).set (16 : Nat) x255).set (17 : Nat) x257).set (18 : Nat) x259).set (19 : Nat) x261).set (20 : Nat) x263).set (21 : Nat) x265).set (22 : Nat) x267).set (23 : Nat) x269).set (24 : Nat) x271).set (25 : Nat) x273).set (26 : Nat) x275).set (27 : Nat) x277).set (28 : Nat) x279).set (29 : Nat) x281).set (30 : Nat) x283).set (31 : Nat) x285).set (32 : Nat) x287).set (33 : Nat) x289).set (34 : Nat) x291).set (35 : Nat) x293).set (36 : Nat) x295).set (37 : Nat) x297).set (38 : Nat) x299).set (39 : Nat) x301).set (40 : Nat) x303).set (41 : Nat) x305).set (42 : Nat) x307).set (43 : Nat) x309).set (44 : Nat) x311).set (45 : Nat) x313).set (46 : Nat) x315).set (47 : Nat) x317).set (48 : Nat) x319).set (49 : Nat) x321).set (50 : Nat) x323).set (51 : Nat) x325).set (52 : Nat) x327).set (53 : Nat) x329).set (54 : Nat) x331).set (55 : Nat) x333).set (56 : Nat) x335).set (57 : Nat) x337).set (58 : Nat) x339).set (59 : Nat) x341).set (60 : Nat) x343).set (61 : Nat) x345).set (62 : Nat) x347).set (63 : Nat) x349))] [some [Seg.arr .u64 8 false x1, Seg.arr .u8 128 false x2, Seg.one (SV.i .i64 { st := false, z := x3 }), Seg.one (SV.b false m)]])) := by
 intros
 kernel_rfl
set_option maxHeartbeats 2000000 in
theorem writeR_ok : CallOk Tryd.prog gh 23 (recCtr tsS [.d (.ints .u8)] writeG) := by
 refine call_rec (fn := Tryd.f23) Γ5_ok rfl glow rfl (by kernel_rfl) (by kernel_rfl) tsS _ writeG fun av p rvs fin hs hp hf => ?_
 unfold writeG at hs
 split at hs
 ·rename_i e1 ws e2 bl n e3 m d
  simp only [Option.some.injEq, Prod.mk.injEq] at hs
  obtain ⟨rfl, rfl, rfl⟩ := hs
  obtain ⟨⟨⟨hws, _⟩, ⟨hbl, hblr⟩, hn, _, _⟩, ⟨hdr, hdl⟩, _⟩ := hf
  obtain ⟨nT, n⟩ := n
  dsimp only at *
  have hp : m = true → 0 ≤ n ∧ n ≤ 1152921504606846976 := hp.1
  generalize hb : roL d = b at *
  refine ⟨[.p 600 0, .ro 490 (.ints .u8) d], [(600, .segs false (R23 ws bl n m))], L23g, fun key ps mm => m = true ∧ n + (b.length : Int) ≤ 1152921504606846976 ∧ inv23g b ⟨ws, bl, n⟩ m key ps mm, ⟨rfl, rfl, ⟨_, rfl, eqR' ws bl n m⟩, rfl, trivial⟩, Nat.le_of_ble_eq_true (by kernel_rfl), ?_, ?_, ?_⟩
  ·intro k t ht g hg
   have hg : g ∈ [0, 2, 490, 600] := hg
   simp only [List.mem_cons, List.not_mem_nil, or_false] at hg
   simp only [L23g, List.mem_cons, List.not_mem_nil, or_false, Prod.mk.injEq] at ht
   obtain ⟨rfl, rfl⟩ := ht
   rcases hg with rfl | rfl | rfl | rfl <;> exact ⟨by omega, rfl⟩
  ·rintro vk t ps mm ht ⟨rfl, hle, rfl, j, d', hj, hd', rfl, rfl⟩
   simp only [L23g, List.mem_cons, List.not_mem_nil, or_false, Prod.mk.injEq] at ht
   obtain ⟨_, rfl⟩ := ht
   show lc23g d' K80 (feed (b.take j) ⟨ws, bl, n⟩).ws (feed (b.take j) ⟨ws, bl, n⟩).bl (feed (b.take j) ⟨ws, bl, n⟩).n true _ _
   rw [lc23g_eq]
   rw [hd']
   obtain ⟨hn0, hn1⟩ := hp rfl
   have hfn := feed_n (b.take j) ⟨ws, bl, n⟩
   rw [List.length_take, Nat.min_eq_left hj] at hfn
   have hfb := feed_bl (b.take j) ⟨ws, bl, n⟩
   dsimp only at hfn hfb
   have hdl' : ((b.drop j).length : Int) = (b.length : Int) - j := by rw [List.length_drop]; omega
   rw [hdl']
   generalize hS : feed (b.take j) ⟨ws, bl, n⟩ = S at hfn hfb ⊢
   refine ⟨fun hlt => ?_, fun hge => ?_⟩
   ·have hlt := of_decide_eq_true hlt
    intro x1 e1 _
    have hx1 : x1 = S.n % 128 := by rw [e1, Int.tmod_eq_emod_of_nonneg (by omega)]
    refine ⟨need_of (by omega), need_of (by omega), fun x2 e2 l2 r2 x3 e3 l3 r3 x4 e4 r4 x5 e5 r5 => ?_⟩
    refine ⟨need_of (by omega), fun x6 e6 r6 x7 e7 r7 => ?_⟩
    rw [wrap_i64 (by omega)] at e6 e7
    obtain ⟨c, rfl⟩ : ∃ c : Nat, x5 = (c : Int) := ⟨x5.toNat, by omega⟩
    have htk : List.take ((128 : Int) - x1).toNat (List.drop j b) = (b.drop j).take c := by
     rcases Nat.lt_or_ge ((128 : Int) - x1).toNat (b.length - j) with h | h
     ·rw [show ((128 : Int) - x1).toNat = c by omega]
     ·rw [List.take_of_length_le (by rw [List.length_drop]; omega), List.take_of_length_le (by rw [List.length_drop]; omega)]
    rw [htk] at e3
    have hcl : ((b.drop j).take c).length = c := by rw [List.length_take, List.length_drop]; omega
    have hnext : feed (b.take (j + c)) ⟨ws, bl, n⟩ = feed ((b.drop j).take c) S := by
     rw [List.take_add, feed_append, hS]
    have hch := feed_chunk ((b.drop j).take c) S (by omega) (by rw [hfb]; exact hbl) (by rw [hcl]; omega) (fun h => by rw [h] at hcl; simp at hcl; omega)
    rw [hcl] at hch
    have hx1n : x1.toNat = (S.n % 128).toNat := by rw [hx1]
    have hd2 : roL (.l (List.take ((b.length : Int) - j - c).toNat (List.drop ((c : Nat) : Int).toNat (List.drop j b)))) = b.drop (j + c) := by
     show List.take _ _ = _
     rw [Int.toNat_natCast, List.drop_drop, List.take_of_length_le (by rw [List.length_drop]; omega)]
    refine ⟨fun h7 => ?_, fun h7 => ?_⟩
    ·have h7 := of_decide_eq_true h7
     intro x8 e8 _ _ x9 e9 _ _ x10 e10 _
     refine ⟨rfl, b.length - (j + c), by omega, rfl, hle, rfl, j + c, _, by omega, hd2, ?_, rfl⟩
     rw [hnext, hch, if_pos (by omega)]
     dsimp only
     rw [e10, e6, e9, e8, e2, e3, e4, hx1n]
    ·have h7 := of_decide_eq_false h7
     refine ⟨rfl, b.length - (j + c), by omega, rfl, hle, rfl, j + c, _, by omega, hd2, ?_, rfl⟩
     rw [hnext, hch, if_neg (by omega)]
     dsimp only
     rw [e6, e2, e3, e4, hx1n]
   ·have hge := of_decide_eq_false hge
    obtain rfl : j = b.length := by omega
    rw [List.take_of_length_le (Nat.le_refl _)] at hS
    have hw : wr true ⟨ws, bl, n⟩ b = S := by unfold wr; rw [if_pos ⟨rfl, by dsimp only; omega⟩, hS]
    unfold wrR
    rw [hw]
    exact ⟨trivial, eqR _ _ _ _, trivial⟩
  ·show vc23g ws bl n m d _ _
   rw [vc23g_eq]
   rw [hb]
   intro x1 e1 _ _ x2 e2 _ _ x3 e3 _ x4 e4
   subst e1 e2 e3
   refine ⟨fun h4 => ?_, fun h4 => ?_⟩
   ·obtain rfl : m = false := by rw [e4] at h4; simpa using h4
    have hw : wr false ⟨x1, x2, x3⟩ b = ⟨x1, x2, x3⟩ := by unfold wr; rw [if_neg (fun h => by cases h.1)]
    unfold wrR
    rw [hw]
    exact ⟨trivial, eqR _ _ _ _, trivial⟩
   ·obtain rfl : m = true := by rw [e4] at h4; simpa using h4
    obtain ⟨hn0, hn1⟩ := hp rfl
    intro x5 e5 _
    rw [wrap_i64 (by omega)] at e5
    refine ⟨fun h => ?_, fun h => ?_⟩
    ·have h := of_decide_eq_true h
     have hw : wr true ⟨x1, x2, x3⟩ b = ⟨x1, x2, x3⟩ := by unfold wr; rw [if_neg (fun h' => by have := h'.2; dsimp only at this; omega)]
     unfold wrR
     rw [hw]
     exact ⟨trivial, eqR _ _ _ _, trivial⟩
    ·have h := of_decide_eq_false h
     exact ⟨rfl, b.length - 0, rfl, by omega, rfl, 0, d, by omega, by rw [hb]; rfl, rfl, rfl⟩
 ·rename_i d
  simp only [Option.some.injEq, Prod.mk.injEq] at hs
  obtain ⟨rfl, rfl, rfl⟩ := hs
  refine ⟨[.np, .ro 490 (.ints .u8) d], [], [], _, ⟨trivial, rfl, trivial⟩, Nat.le_of_ble_eq_true (by kernel_rfl), vcG_noloops ?_⟩
  show vc23n d _ _
  rw [vc23n_eq]
  exact ⟨trivial, trivial⟩
 ·cases hs
theorem cloneR_ok : CallOk Tryd.prog gh 26 (recCtr tsS [] cloneG) := by
 refine call_rec (fn := Tryd.f26) Γ5_ok rfl glow rfl (by kernel_rfl) (by kernel_rfl) tsS _ cloneG fun av p rvs fin hs hp hf => ?_
 unfold cloneG at hs
 split at hs
 ·rename_i e1 ws e2 bl n e3 m
  simp only [Option.some.injEq, Prod.mk.injEq] at hs
  obtain ⟨rfl, rfl, rfl⟩ := hs
  obtain ⟨nT, n⟩ := n
  obtain rfl : m = true := hp.1
  dsimp only at *
  refine ⟨[.p 600 0], [(600, .segs false (R23 ws bl n true))], [], _, ⟨rfl, rfl, ⟨_, rfl, eqR' ws bl n true⟩, trivial⟩, Nat.le_of_ble_eq_true (by kernel_rfl), vcG_noloops ?_⟩
  show vc26g ws bl n true _ _
  rw [vc26g_eq]
  rintro x1 rfl _ _ x2 rfl _ _ x3 rfl _ x4 rfl
  exact ⟨fun h => (by cases h), fun _ => ⟨⟨eqR _ _ _ _, trivial⟩, eqR _ _ _ _, trivial⟩⟩
 ·cases hs
def rsizeG : List AV → Option (List Prop × List RV × List (Option (List Seg)))
 | [.m [.arr .u64 8 _ ws, .arr .u8 128 _ bl, .one (.i .i64 n), .one (.b _ m)]] => some ([], [.v (.i .i64 ⟨false, sizeL n.z m⟩)], [some (R23 ws bl n.z m)])
 | _ => none
theorem rsizeR_ok : CallOk Tryd.prog gh 24 (recCtr tsS [] rsizeG) := by
 refine call_rec (fn := Tryd.f24) Γ4_ok rfl glow rfl (by kernel_rfl) (by kernel_rfl) tsS [] rsizeG fun av p rvs fin hs hp hf => ?_
 unfold rsizeG at hs
 split at hs
 ·rename_i e1 ws e2 bl n e3 m
  simp only [Option.some.injEq, Prod.mk.injEq] at hs
  obtain ⟨rfl, rfl, rfl⟩ := hs
  obtain ⟨nT, n⟩ := n
  dsimp only at *
  refine ⟨[.p 600 0], [(600, .segs false (R23 ws bl n m))], [], _, ⟨rfl, rfl, ⟨_, rfl, eqR' ws bl n m⟩, trivial⟩, Nat.le_of_ble_eq_true (by kernel_rfl), vcG_noloops ?_⟩
  show vc24g ws bl n m _ _
  rw [vc24g_eq]
  rintro x1 rfl _ _ x2 rfl _ _ x3 rfl _ x4 rfl
  refine ⟨fun h => ?_, fun h => ?_⟩
  ·have hm : m = false := by simpa using h
   subst hm
   exact ⟨⟨rfl, trivial⟩, eqR _ _ _ _, trivial⟩
  ·have hm : m = true := by simpa using h
   subst hm
   exact ⟨⟨rfl, trivial⟩, eqR _ _ _ _, trivial⟩
 ·cases hs
def rsum1G : List AV → Option (List Prop × List RV × List (Option (List Seg)))
 | [.m [.arr .u64 8 _ ws, .arr .u8 128 _ bl, .one (.i .i64 n), .one (.b _ m)]] => some ([0 ≤ n.z], [.v (.arr .u8 64 false (sumL ws bl n.z m))], [some (R23 ws bl n.z m)])
 | _ => none
set_option maxHeartbeats 4000000 in
theorem rsum1R_ok : CallOk Tryd.prog gh 27 (recCtr tsS [] rsum1G) := by
 refine call_rec (fn := Tryd.f27) Γ4_ok rfl glow rfl (by kernel_rfl) (by kernel_rfl) tsS [] rsum1G fun av p rvs fin hs hp hf => ?_
 unfold rsum1G at hs
 split at hs
 ·rename_i e1 ws e2 bl n e3 m
  simp only [Option.some.injEq, Prod.mk.injEq] at hs
  obtain ⟨rfl, rfl, rfl⟩ := hs
  obtain ⟨nT, n⟩ := n
  dsimp only at *
  have hn0 : 0 ≤ n := hp.1
  have hm0 : 0 ≤ n.tmod 128 ∧ n.tmod 128 < 128 := by rw [Int.tmod_eq_emod_of_nonneg hn0]; omega
  refine ⟨[.p 600 0], [(600, .segs false (R23 ws bl n m))], [], _, ⟨rfl, rfl, ⟨_, rfl, eqR' ws bl n m⟩, trivial⟩, Nat.le_of_ble_eq_true (by kernel_rfl), vcG_noloops ?_⟩
  show vc27g ws bl n m _ _
  rw [vc27g_eq]
  intro x1 e1 _ _ x2 e2 _ _ x3 e3 _ x4 e4
  subst e1 e2 e3 e4
  refine ⟨fun h => ?_, fun h => ?_⟩
  ·have hm : m = false := by simpa using h
   subst hm
   exact ⟨⟨rfl, trivial⟩, eqR _ _ _ _, trivial⟩
  ·have hm : m = true := by simpa using h
   subst hm
   intro x5 e5 _
   refine ⟨need_of (by omega), need_of (by omega), ?_⟩
   intro x6 e6 _ _ x7 e7 _ _ x8 e8 _
   refine ⟨need_of (by omega), need_of (by omega), ?_⟩
   intro x9 e9 _ _ x10 e10 _ _ x11 e11 _
   have f5 : x5 = x3.tmod 128 := e5
   refine ⟨fun h5 => ?_, fun h5 => ?_⟩
   ·have h5 := of_decide_eq_true h5
    intro x12 e12 _ _ x13 e13 _ _ x14 e14 _
    refine ⟨need_of (by omega), ?_⟩
    intro x15 e15 _ _ x16 e16 _ _ x17 e17 _ x18 e18 _ x19 e19 _ x20 e20 _ x21 e21 _ x22 e22 _ x23 e23 _ x24 e24 _ x25 e25 _ x26 e26 _ x27 e27 _ x28 e28 _ x29 e29 _ x30 e30 _ x31 e31 _ x32 e32 _ x33 e33 _ x34 e34 _ x35 e35 _ x36 e36 _ x37 e37 _ x38 e38 _ x39 e39 _ x40 e40 _ x41 e41 _ x42 e42 _ x43 e43 _ x44 e44 _ x45 e45 _ x46 e46 _ x47 e47 _ x48 e48 _ x49 e49 _ x50 e50 _ x51 e51 _ x52 e52 _ x53 e53 _ _ x54 e54 _ _ x55 e55 _ x56 e56 _ x57 e57 _ x58 e58 _ x59 e59 _ x60 e60 _ x61 e61 _ x62 e62 _ x63 e63 _ x64 e64 _ x65 e65 _ x66 e66 _ x67 e67 _ x68 e68 _ x69 e69 _ x70 e70 _ x71 e71 _ x72 e72 _ x73 e73 _ x74 e74 _ x75 e75 _ x76 e76 _ x77 e77 _ x78 e78 _ x79 e79 _ x80 e80 _ x81 e81 _ x82 e82 _ x83 e83 _ x84 e84 _ x85 e85 _ x86 e86 _ x87 e87 _ x88 e88 _ x89 e89 _ x90 e90 _ x91 e91 _ x92 e92 _ x93 e93 _ x94 e94 _ x95 e95 _ x96 e96 _ x97 e97 _ x98 e98 _ x99 e99 _ x100 e100 _ x101 e101 _ x102 e102 _ x103 e103 _ x104 e104 _ x105 e105 _ x106 e106 _ x107 e107 _ x108 e108 _ x109 e109 _ x110 e110 _ x111 e111 _ x112 e112 _ x113 e113 _ x114 e114 _ x115 e115 _ x116 e116 _ x117 e117 _ x118 e118 _ x119 e119 _ x120 e120 _ x121 e121 _ x122 e122 _ x123 e123 _ x124 e124 _ x125 e125 _ x126 e126 _ x127 e127 _ x128 e128 _ x129 e129 _ x130 e130 _ x131 e131 _ x132 e132 _ x133 e133 _ x134 e134 _ x135 e135 _ x136 e136 _ x137 e137 _ x138 e138 _ x139 e139 _ x140 e140 _ x141 e141 _ x142 e142 _ x143 e143 _ x144 e144 _ x145 e145 _ x146 e146 _ x147 e147 _ x148 e148 _ x149 e149 _ x150 e150 _ x151 e151 _ x152 e152 _ x153 e153 _ x154 e154 _ x155 e155 _ x156 e156 _ x157 e157 _ x158 e158 _ x159 e159 _ x160 e160 _ x161 e161 _ x162 e162 _ x163 e163 _ x164 e164 _ x165 e165 _ x166 e166 _ x167 e167 _ x168 e168 _ x169 e169 _ x170 e170 _ x171 e171 _ x172 e172 _ x173 e173 _ x174 e174 _ x175 e175 _ x176 e176 _ x177 e177 _ x178 e178 _ x179 e179 _ x180 e180 _ x181 e181 _ x182 e182 _ x183 e183 _
    refine ⟨⟨?_, trivial⟩, eqR _ _ _ _, trivial⟩
    show _ = sumL x1 x2 x3 true
    have hs : sumL x1 x2 x3 true = outb (compr (compr x1 (endb x2 x3)) (setlen (splice (endb x2 x3) 0 (List.replicate 128 0)) x3)) := by
     unfold sumL finw; rw [if_pos rfl, if_pos (by omega)]
    have hb : x10 = endb x2 x3 := by rw [e10, e7, e5]; rfl
    have hhi : x19 = hin x3 := by rw [e19, e18, e17, e14, e11, e8]; rfl
    have hlo : x20 = lon x3 := by rw [e20, e18, e17, e14, e11, e8]; rfl
    rw [hhi] at e21 e25 e29 e33 e37 e41 e45 e49
    rw [hlo] at e23 e27 e31 e35 e39 e43 e47 e51
    have hw : x53 = compr (compr x1 (endb x2 x3)) (setlen (splice (endb x2 x3) 0 (List.replicate 128 0)) x3) := by
     rw [e53, e15, e12, e9, e6, hb, len_law e21 e22 e23 e24 e25 e26 e27 e28 e29 e30 e31 e32 e33 e34 e35 e36 e37 e38 e39 e40 e41 e42 e43 e44 e45 e46 e47 e48 e49 e50 e51 e52, e16, e13, hb]
    rw [hs, ← hw]
    exact out_law e56 e57 e58 e59 e60 e61 e62 e63 e64 e65 e66 e67 e68 e69 e70 e71 e72 e73 e74 e75 e76 e77 e78 e79 e80 e81 e82 e83 e84 e85 e86 e87 e88 e89 e90 e91 e92 e93 e94 e95 e96 e97 e98 e99 e100 e101 e102 e103 e104 e105 e106 e107 e108 e109 e110 e111 e112 e113 e114 e115 e116 e117 e118 e119 e120 e121 e122 e123 e124 e125 e126 e127 e128 e129 e130 e131 e132 e133 e134 e135 e136 e137 e138 e139 e140 e141 e142 e143 e144 e145 e146 e147 e148 e149 e150 e151 e152 e153 e154 e155 e156 e157 e158 e159 e160 e161 e162 e163 e164 e165 e166 e167 e168 e169 e170 e171 e172 e173 e174 e175 e176 e177 e178 e179 e180 e181 e182 e183
   ·have h5 := of_decide_eq_false h5
    intro x184 e184 _ x185 e185 _ x186 e186 _ x187 e187 _ x188 e188 _ x189 e189 _ x190 e190 _ x191 e191 _ x192 e192 _ x193 e193 _ x194 e194 _ x195 e195 _ x196 e196 _ x197 e197 _ x198 e198 _ x199 e199 _ x200 e200 _ x201 e201 _ x202 e202 _ x203 e203 _ x204 e204 _ x205 e205 _ x206 e206 _ x207 e207 _ x208 e208 _ x209 e209 _ x210 e210 _ x211 e211 _ x212 e212 _ x213 e213 _ x214 e214 _ x215 e215 _ x216 e216 _ x217 e217 _ x218 e218 _ x219 e219 _ _ x220 e220 _ _ x221 e221 _ x222 e222 _ x223 e223 _ x224 e224 _ x225 e225 _ x226 e226 _ x227 e227 _ x228 e228 _ x229 e229 _ x230 e230 _ x231 e231 _ x232 e232 _ x233 e233 _ x234 e234 _ x235 e235 _ x236 e236 _ x237 e237 _ x238 e238 _ x239 e239 _ x240 e240 _ x241 e241 _ x242 e242 _ x243 e243 _ x244 e244 _ x245 e245 _ x246 e246 _ x247 e247 _ x248 e248 _ x249 e249 _ x250 e250 _ x251 e251 _ x252 e252 _ x253 e253 _ x254 e254 _ x255 e255 _ x256 e256 _ x257 e257 _ x258 e258 _ x259 e259 _ x260 e260 _ x261 e261 _ x262 e262 _ x263 e263 _ x264 e264 _ x265 e265 _ x266 e266 _ x267 e267 _ x268 e268 _ x269 e269 _ x270 e270 _ x271 e271 _ x272 e272 _ x273 e273 _ x274 e274 _ x275 e275 _ x276 e276 _ x277 e277 _ x278 e278 _ x279 e279 _ x280 e280 _ x281 e281 _ x282 e282 _ x283 e283 _ x284 e284 _ x285 e285 _ x286 e286 _ x287 e287 _ x288 e288 _ x289 e289 _ x290 e290 _ x291 e291 _ x292 e292 _ x293 e293 _ x294 e294 _ x295 e295 _ x296 e296 _ x297 e297 _ x298 e298 _ x299 e299 _ x300 e300 _ x301 e301 _ x302 e302 _ x303 e303 _ x304 e304 _ x305 e305 _ x306 e306 _ x307 e307 _ x308 e308 _ x309 e309 _ x310 e310 _ x311 e311 _ x312 e312 _ x313 e313 _ x314 e314 _ x315 e315 _ x316 e316 _ x317 e317 _ x318 e318 _ x319 e319 _ x320 e320 _ x321 e321 _ x322 e322 _ x323 e323 _ x324 e324 _ x325 e325 _ x326 e326 _ x327 e327 _ x328 e328 _ x329 e329 _ x330 e330 _ x331 e331 _ x332 e332 _ x333 e333 _ x334 e334 _ x335 e335 _ x336 e336 _ x337 e337 _ x338 e338 _ x339 e339 _ x340 e340 _ x341 e341 _ x342 e342 _ x343 e343 _ x344 e344 _ x345 e345 _ x346 e346 _ x347 e347 _ x348 e348 _ x349 e349 _
    refine ⟨⟨?_, trivial⟩, eqR _ _ _ _, trivial⟩
    show _ = sumL x1 x2 x3 true
    have hs : sumL x1 x2 x3 true = outb (compr x1 (setlen (endb x2 x3) x3)) := by
     unfold sumL finw; rw [if_pos rfl, if_neg (by omega)]
    have hb : x10 = endb x2 x3 := by rw [e10, e7, e5]; rfl
    have hhi : x185 = hin x3 := by rw [e185, e184, e11, e8]; rfl
    have hlo : x186 = lon x3 := by rw [e186, e184, e11, e8]; rfl
    rw [hhi] at e187 e191 e195 e199 e203 e207 e211 e215
    rw [hlo] at e189 e193 e197 e201 e205 e209 e213 e217
    have hw : x219 = compr x1 (setlen (endb x2 x3) x3) := by
     rw [e219, e9, e6, len_law e187 e188 e189 e190 e191 e192 e193 e194 e195 e196 e197 e198 e199 e200 e201 e202 e203 e204 e205 e206 e207 e208 e209 e210 e211 e212 e213 e214 e215 e216 e217 e218, hb]
    rw [hs, ← hw]
    exact out_law e222 e223 e224 e225 e226 e227 e228 e229 e230 e231 e232 e233 e234 e235 e236 e237 e238 e239 e240 e241 e242 e243 e244 e245 e246 e247 e248 e249 e250 e251 e252 e253 e254 e255 e256 e257 e258 e259 e260 e261 e262 e263 e264 e265 e266 e267 e268 e269 e270 e271 e272 e273 e274 e275 e276 e277 e278 e279 e280 e281 e282 e283 e284 e285 e286 e287 e288 e289 e290 e291 e292 e293 e294 e295 e296 e297 e298 e299 e300 e301 e302 e303 e304 e305 e306 e307 e308 e309 e310 e311 e312 e313 e314 e315 e316 e317 e318 e319 e320 e321 e322 e323 e324 e325 e326 e327 e328 e329 e330 e331 e332 e333 e334 e335 e336 e337 e338 e339 e340 e341 e342 e343 e344 e345 e346 e347 e348 e349
 ·cases hs
def rresetG : List AV → Option (List Prop × List RV × List (Option (List Seg)))
 | [.m [.arr .u64 8 _ ws, .arr .u8 128 _ bl, .one (.i .i64 n), .one (.b _ m)]] => some ([], [], [some (R23 (if m = true then start8 else ws) (if m = true then List.replicate 128 0 else bl) (if m = true then 0 else n.z) m)])
 | _ => none
theorem rresetR_ok : CallOk Tryd.prog gh 28 (recCtr tsS [] rresetG) := by
 refine call_rec (fn := Tryd.f28) Γ5_ok rfl glow rfl (by kernel_rfl) (by kernel_rfl) tsS [] rresetG fun av p rvs fin hs hp hf => ?_
 unfold rresetG at hs
 split at hs
 ·rename_i e1 ws e2 bl n e3 m
  simp only [Option.some.injEq, Prod.mk.injEq] at hs
  obtain ⟨rfl, rfl, rfl⟩ := hs
  obtain ⟨nT, n⟩ := n
  dsimp only at *
  refine ⟨[.p 600 0], [(600, .segs false (R23 ws bl n m))], [], _, ⟨rfl, rfl, ⟨_, rfl, eqR' ws bl n m⟩, trivial⟩, Nat.le_of_ble_eq_true (by kernel_rfl), vcG_noloops ?_⟩
  show vc28g ws bl n m _ _
  rw [vc28g_eq]
  intro x1 e1 _ _ x2 e2 _ _ x3 e3 _ x4 e4
  subst e1 e2 e3
  refine ⟨fun h => ?_, fun h => ?_⟩
  ·obtain rfl : m = true := by rw [e4] at h; simpa using h
   rintro x5 rfl _ x6 rfl _ x7 rfl _ x8 rfl _ x9 rfl _ x10 rfl _ x11 rfl _ x12 rfl _ x13 rfl _ _
   exact ⟨trivial, eqR _ _ _ _, trivial⟩
  ·obtain rfl : m = false := by rw [e4] at h; simpa using h
   exact ⟨trivial, eqR _ _ _ _, trivial⟩
 ·cases hs
end Go.Gx

/- Boxes of a list: the document's Write and Clone. -/
namespace Go.Gx
open Go.Proofs Go.Sp
set_option linter.unusedVariables false
set_option maxRecDepth 100000

def Γb : Tab := ⟨tys, [], [], []⟩
def vc38 (m : List Int) (d : RO) (KV : List Int → Option (List Int) → Prop) (Q : Nat → List Pv → Prop) : Prop := fnVcX Γb Tryd.f38 [] [.p 600 0, .ro 490 (.ints .u8) d] (boxH m) (fun x h => kvBox x h KV) Q
def vc39 (m : List Int) (KV : List Int → Option (List Int) → Prop) (Q : Nat → List Pv → Prop) : Prop := fnVcX Γb Tryd.f39 [] [.p 600 0] (boxH m) (fun x h => kvBox x h KV) Q
theorem vc38_eq : ∀ (m : List Int) (d : RO) (KV : List Int → Option (List Int) → Prop) (Q : Nat → List Pv → Prop), vc38 m d KV Q = ForI .i64 (IntKind.i64.wrap (((m.length : Nat) : Int) + (((roL d).length : Nat) : Int))) fun x1 => (decide (x1 ≤ 1152921504606846976) = true → Need ((((m ++ roL d).length : Nat) : Int) * 1 ≤ (70368744177664 : Int)) ∧ Need (((m.length : Nat) : Int) = ((m.length : Nat) : Int)) ∧ ForL .u8 (m ++ roL d) fun x2 => ForN (((m ++ roL d).length : Nat) : Int) fun x3 => Need (x3 = ((x2.length : Nat) : Int)) ∧ KV x2 none) ∧ (decide (x1 ≤ 1152921504606846976) = false → Need (((m.length : Nat) : Int) = ((m.length : Nat) : Int)) ∧ KV m none) := by
 intros
 kernel_rfl

theorem vc39_eq : ∀ (m : List Int) (KV : List Int → Option (List Int) → Prop) (Q : Nat → List Pv → Prop), vc39 m KV Q = (Need ((((([] : List Int) ++ List.take (((m.length : Nat) : Int)).toNat (List.drop 0 m)).length : Nat) : Int) * 1 ≤ (70368744177664 : Int)) ∧ Need ((0 : Int) + ((m.length : Nat) : Int) ≤ ((m.length : Nat) : Int)) ∧ ForL .u8 ([] ++ List.take (((m.length : Nat) : Int)).toNat (List.drop 0 m)) fun x1 => ForN (((([] : List Int) ++ List.take (((m.length : Nat) : Int)).toNat (List.drop 0 m)).length : Nat) : Int) fun x2 => Need (((m.length : Nat) : Int) = ((m.length : Nat) : Int)) ∧ Need (x2 = ((x1.length : Nat) : Int)) ∧ KV m (some x1)) := by
 intros
 kernel_rfl

theorem Γb_ok : TabOk Tryd.prog Γb := .nil mixed tys_ok
theorem allB {m : List Int} : ([] : List Int) ++ List.take ((m.length : Nat) : Int).toNat (List.drop 0 m) = m := by
 rw [List.nil_append, Int.toNat_natCast, List.drop_zero, List.take_of_length_le (Nat.le_refl _)]

def dwriteG : List Int → List AV → Option (List Prop × List Int × Option (List Int))
 | m, [.d (.ints .u8) d] => some ([(m.length : Int) + ((roL d).length : Int) ≤ 70368744177664], m ++ roL d, none)
 | _, _ => none
theorem dwrite_ok : CallOk Tryd.prog [] 38 (boxCtr [.d (.ints .u8)] dwriteG) := by
 refine call_box (Γ := Γb) (fn := Tryd.f38) Γb_ok rfl rfl rfl (by kernel_rfl) (by kernel_rfl) _ dwriteG fun m av p m' o hs hp hf hm hl => ?_
 unfold dwriteG at hs
 split at hs
 ·rename_i d
  simp only [Option.some.injEq, Prod.mk.injEq] at hs
  obtain ⟨rfl, rfl, rfl⟩ := hs
  have hp : (m.length : Int) + ((roL d).length : Int) ≤ 70368744177664 := hp.1
  refine ⟨[.ro 490 (.ints .u8) d], [], _, ⟨rfl, trivial⟩, Nat.le_of_ble_eq_true (by kernel_rfl), vcX_noloops ?_⟩
  show vc38 m d _ _
  rw [vc38_eq]
  intro x1 e1 _
  rw [wrap_i64 (by omega)] at e1
  refine ⟨fun _ => ⟨need_of (by rw [List.length_append]; push_cast; omega), need_of rfl, ?_⟩, fun h => ?_⟩
  ·intro x2 e2 _ x3 e3 _ _
   exact ⟨need_of (by rw [e3, e2]), e2, rfl⟩
  ·have h := of_decide_eq_false h
   omega
 ·cases hs

def dcloneG : List Int → List AV → Option (List Prop × List Int × Option (List Int))
 | m, [] => some ([(m.length : Int) ≤ 70368744177664], m, some m)
 | _, _ => none
theorem dclone_ok : CallOk Tryd.prog [] 39 (boxCtr [] dcloneG) := by
 refine call_box (Γ := Γb) (fn := Tryd.f39) Γb_ok rfl rfl rfl (by kernel_rfl) (by kernel_rfl) _ dcloneG fun m av p m' o hs hp hf hm hl => ?_
 unfold dcloneG at hs
 split at hs
 ·simp only [Option.some.injEq, Prod.mk.injEq] at hs
  obtain ⟨rfl, rfl, rfl⟩ := hs
  have hp : (m.length : Int) ≤ 70368744177664 := hp.1
  refine ⟨[], [], _, trivial, Nat.le_of_ble_eq_true (by kernel_rfl), vcX_noloops ?_⟩
  show vc39 m _ _
  rw [vc39_eq]
  rw [allB]
  refine ⟨need_of (by omega), need_of (by omega), ?_⟩
  intro x1 e1 _ x2 e2 _ _
  exact ⟨need_of rfl, need_of (by rw [e2, e1]), rfl, by rw [e1]⟩
 ·cases hs
end Go.Gx

/- The hash of parts. -/
namespace Go.Sp
open Go.Gx
def st0 : HS := ⟨start8, List.replicate 128 0, 0⟩
def sha (b : List Int) : List Int := sumL (feed b st0).ws (feed b st0).bl (feed b st0).n true
end Go.Sp
namespace Go.Gx
open Go.Proofs Go.Sp
set_option linter.unusedVariables false
set_option maxRecDepth 100000

theorem feed_st0 (b : List Int) : (feed b st0).n = (b.length : Int) := by
 rw [feed_n]; simp [st0]
end Go.Gx

/- How many bits a number has. -/
namespace Go.Gx
open Go.Proofs Go.Sp
set_option linter.unusedVariables false
set_option maxRecDepth 100000

theorem shr_div {x : Int} (k : Nat) (hk : k ≤ 64) : shrI .u64 x (k : Int) = x / 2 ^ k := by
 unfold shrI
 rw [show (min ((k : Int)).toNat IntKind.u64.bits) = k by simp [IntKind.bits]; omega, Int.fdiv_eq_ediv_of_nonneg]
 exact Int.le_of_lt (Int.pow_pos (by omega))
end Go.Gx

/- The root of a tree. -/
namespace Go.Gx
open Go.Proofs Go.Sp
set_option linter.unusedVariables false
set_option maxRecDepth 100000

theorem roL_l (l : List Int) : roL (.l l) = l := rfl
end Go.Gx

/- The stretched key. -/
namespace Go.Sp
open Go.Gx
def le8 (i : Int) : List Int := [IntKind.u8.wrap (shrI .i64 i 0), IntKind.u8.wrap (shrI .i64 i 8), IntKind.u8.wrap (shrI .i64 i 16), IntKind.u8.wrap (shrI .i64 i 24), IntKind.u8.wrap (shrI .i64 i 32), IntKind.u8.wrap (shrI .i64 i 40), IntKind.u8.wrap (shrI .i64 i 48), IntKind.u8.wrap (shrI .i64 i 56)]
end Go.Sp
namespace Go.Gx
open Go.Proofs Go.Sp
set_option linter.unusedVariables false
set_option maxRecDepth 100000

end Go.Gx

/- The reference's small functions; both packages' tables. -/
namespace Go.Sp
open Go.Gx
def be8 (x : Int) : List Int := [IntKind.u8.wrap (shrI .u64 x 56), IntKind.u8.wrap (shrI .u64 x 48), IntKind.u8.wrap (shrI .u64 x 40), IntKind.u8.wrap (shrI .u64 x 32), IntKind.u8.wrap (shrI .u64 x 24), IntKind.u8.wrap (shrI .u64 x 16), IntKind.u8.wrap (shrI .u64 x 8), IntKind.u8.wrap (shrI .u64 x 0)]
def wordL (b : List Int) (j : Nat) : Int := partw (b.drop j) 0 8
end Go.Sp
namespace Go.Gx
open Go.Proofs Go.Sp
set_option linter.unusedVariables false
set_option maxRecDepth 100000

theorem CallOk.mono {P : Program} {gh gh' : Heap} (h : ∀ x ∈ gh, x ∈ gh') {f : FuncId} {c : Ctr} (hc : CallOk P gh f c) : CallOk P gh' f c :=
 fun stamp args H rs rs' d vs w0 M ρ w hG => hc stamp args H rs rs' d vs w0 M ρ w fun g b hb => hG g b (h _ hb)
def gh4 : Heap := [(0, .segs true [.arr .u64 8 true start8]), (1, .segs true [.arr .u64 8 true start8]), (2, .segs true [.arr .u64 80 false K80]), (3, .segs true [.arr .u64 80 false K80])]
def Δ0 : Tab := ⟨tys, Γ5.ctr, [0, 1, 2, 3], gh4⟩
def vc52 (x n : Int) (K : SV → Prop) (Q : Nat → List Pv → Prop) : Prop := fnVc Δ0 Tryd.f52 [] [.i .u64 ⟨false, x⟩, .i .i64 ⟨false, n⟩] gh4 K Q
def vc51 (d : RO) (n : Int) (K : List RV → List (Option (List Seg)) → Prop) (Q : Nat → List Pv → Prop) : Prop := fnVcG 0 Δ0 Tryd.f51 [] [.ro 490 (.ints .u8) d, .i .i64 ⟨false, n⟩] (gh4 ++ (490, .world) :: []) K Q
def vc46 (x : Int) (K : List RV → List (Option (List Seg)) → Prop) (Q : Nat → List Pv → Prop) : Prop := fnVcG 0 Δ0 Tryd.f46 [] [.i .u64 ⟨false, x⟩, .i .i64 ⟨true, 8⟩] (gh4 ++ (490, .world) :: []) K Q
def vc44 (x : Int) (K : List RV → List (Option (List Seg)) → Prop) (Q : Nat → List Pv → Prop) : Prop := fnVcG 0 Δ0 Tryd.f44 [] [.i .i64 ⟨false, x⟩] (gh4 ++ (490, .world) :: []) K Q
theorem gh_sub : ∀ x ∈ gh, x ∈ gh4 := fun x hx => by
 simp only [gh, List.mem_cons, List.not_mem_nil, or_false] at hx
 rcases hx with rfl | rfl
 ·exact List.mem_cons_self
 ·exact List.mem_cons_of_mem _ (List.mem_cons_of_mem _ List.mem_cons_self)
theorem Δ0_ok : TabOk Tryd.prog Δ0 := ⟨Γ5_ok.mix, Γ5_ok.ty, fun f c h => (Γ5_ok.ctr f c h).mono gh_sub⟩
theorem glow4 : ∀ g ∈ keysOf gh4, g < 490 := fun g hg => by have hg : g ∈ [0, 1, 2, 3] := hg; simp at hg; omega
theorem vc52_eq : ∀ (x n : Int) (K : SV → Prop) (Q : Nat → List Pv → Prop), vc52 x n K Q = (Need (0 ≤ n) ∧ ForI .u64 (shrI .u64 x n) fun x1 => ForI .i64 (IntKind.i64.wrap ((64 : Int) - n)) fun x2 => Need (0 ≤ x2) ∧ ForI .u64 (shlI .u64 x x2) fun x3 => ForI .u64 (orI .u64 x1 x3) fun x4 => K (SV.i .u64 { st := false, z := x4 })) := by
 intros
 kernel_rfl
theorem vc51_eq : ∀ (d : RO) (n : Int) (K : List RV → List (Option (List Seg)) → Prop) (Q : Nat → List Pv → Prop), vc51 d n K Q = ForI .i64 (IntKind.i64.wrap (n + 0)) fun x1 => Need (0 ≤ x1 ∧ x1 < ((roL d).length : Int)) ∧ ForI .u8 ((roL d).getD x1.toNat 0) fun x2 => ForI .u64 (IntKind.u64.wrap x2) fun x3 => ForI .u64 (orI .u64 (0 : Int) x3) fun x4 => ForI .u64 (shlI .u64 x4 8) fun x5 => ForI .i64 (IntKind.i64.wrap (n + 1)) fun x6 => Need (0 ≤ x6 ∧ x6 < ((roL d).length : Int)) ∧ ForI .u8 ((roL d).getD x6.toNat 0) fun x7 => ForI .u64 (IntKind.u64.wrap x7) fun x8 => ForI .u64 (orI .u64 x5 x8) fun x9 => ForI .u64 (shlI .u64 x9 8) fun x10 => ForI .i64 (IntKind.i64.wrap (n + 2)) fun x11 => Need (0 ≤ x11 ∧ x11 < ((roL d).length : Int)) ∧ ForI .u8 ((roL d).getD x11.toNat 0) fun x12 => ForI .u64 (IntKind.u64.wrap x12) fun x13 => ForI .u64 (orI .u64 x10 x13) fun x14 => ForI .u64 (shlI .u64 x14 8) fun x15 => ForI .i64 (IntKind.i64.wrap (n + 3)) fun x16 => Need (0 ≤ x16 ∧ x16 < ((roL d).length : Int)) ∧ ForI .u8 ((roL d).getD x16.toNat 0) fun x17 => ForI .u64 (IntKind.u64.wrap x17) fun x18 => ForI .u64 (orI .u64 x15 x18) fun x19 => ForI .u64 (shlI .u64 x19 8) fun x20 => ForI .i64 (IntKind.i64.wrap (n + 4)) fun x21 => Need (0 ≤ x21 ∧ x21 < ((roL d).length : Int)) ∧ ForI .u8 ((roL d).getD x21.toNat 0) fun x22 => ForI .u64 (IntKind.u64.wrap x22) fun x23 => ForI .u64 (orI .u64 x20 x23) fun x24 => ForI .u64 (shlI .u64 x24 8) fun x25 => ForI .i64 (IntKind.i64.wrap (n + 5)) fun x26 => Need (0 ≤ x26 ∧ x26 < ((roL d).length : Int)) ∧ ForI .u8 ((roL d).getD x26.toNat 0) fun x27 => ForI .u64 (IntKind.u64.wrap x27) fun x28 => ForI .u64 (orI .u64 x25 x28) fun x29 => ForI .u64 (shlI .u64 x29 8) fun x30 => ForI .i64 (IntKind.i64.wrap (n + 6)) fun x31 => Need (0 ≤ x31 ∧ x31 < ((roL d).length : Int)) ∧ ForI .u8 ((roL d).getD x31.toNat 0) fun x32 => ForI .u64 (IntKind.u64.wrap x32) fun x33 => ForI .u64 (orI .u64 x30 x33) fun x34 => ForI .u64 (shlI .u64 x34 8) fun x35 => ForI .i64 (IntKind.i64.wrap (n + 7)) fun x36 => Need (0 ≤ x36 ∧ x36 < ((roL d).length : Int)) ∧ ForI .u8 ((roL d).getD x36.toNat 0) fun x37 => ForI .u64 (IntKind.u64.wrap x37) fun x38 => ForI .u64 (orI .u64 x35 x38) fun x39 => K [RV.v (SV.i .u64 { st := false, z := x39 })] [] := by
 intros
 kernel_rfl
theorem vc46_eq : ∀ (x : Int) (K : List RV → List (Option (List Seg)) → Prop) (Q : Nat → List Pv → Prop), vc46 x K Q = (Need ((0 : Int) ≤ 8 ∧ (8 : Int) ≤ 8 ∧ (8 : Int) ≤ 70368744177664) ∧ ForL .u8 (List.replicate 8 (0 : Int)) fun x1 => ForI .u8 (IntKind.u8.wrap x) fun x2 => Need (7 < x1.length) ∧ ForI .u64 (shrI .u64 x (8 : Int)) fun x3 => ForI .u8 (IntKind.u8.wrap x3) fun x4 => Need ((6 : Nat) < (x1.set (7 : Nat) x2).length) ∧ ForI .u64 (shrI .u64 x3 8) fun x5 => ForI .u8 (IntKind.u8.wrap x5) fun x6 => Need ((5 : Nat) < ((x1.set (7 : Nat) x2).set (6 : Nat) x4).length) ∧ ForI .u64 (shrI .u64 x5 8) fun x7 => ForI .u8 (IntKind.u8.wrap x7) fun x8 => Need ((4 : Nat) < (((x1.set (7 : Nat) x2).set (6 : Nat) x4).set (5 : Nat) x6).length) ∧ ForI .u64 (shrI .u64 x7 8) fun x9 => ForI .u8 (IntKind.u8.wrap x9) fun x10 => Need ((3 : Nat) < ((((x1.set (7 : Nat) x2).set (6 : Nat) x4).set (5 : Nat) x6).set (4 : Nat) x8).length) ∧ ForI .u64 (shrI .u64 x9 8) fun x11 => ForI .u8 (IntKind.u8.wrap x11) fun x12 => Need ((2 : Nat) < (((((x1.set (7 : Nat) x2).set (6 : Nat) x4).set (5 : Nat) x6).set (4 : Nat) x8).set (3 : Nat) x10).length) ∧ ForI .u64 (shrI .u64 x11 8) fun x13 => ForI .u8 (IntKind.u8.wrap x13) fun x14 => Need ((1 : Nat) < ((((((x1.set (7 : Nat) x2).set (6 : Nat) x4).set (5 : Nat) x6).set (4 : Nat) x8).set (3 : Nat) x10).set (2 : Nat) x12).length) ∧ ForI .u64 (shrI .u64 x13 8) fun x15 => ForI .u8 (IntKind.u8.wrap x15) fun x16 => Need ((0 : Nat) < (((((((x1.set (7 : Nat) x2).set (6 : Nat) x4).set (5 : Nat) x6).set (4 : Nat) x8).set (3 : Nat) x10).set (2 : Nat) x12).set (1 : Nat) x14).length) ∧ ForI .u64 (shrI .u64 x15 8) fun x17 => Need ((8 : Int) ≤ ↑((((((((x1.set (7 : Nat) x2).set (6 : Nat) x4).set (5 : Nat) x6).set (4 : Nat) x8).set (3 : Nat) x10).set (2 : Nat) x12).set (1 : Nat) x14).set (0 : Nat) x16).length) ∧ K [RV.row (Con.ints .u8 (List.take 8 (List.drop 0 ((((((((x1.set (7 : Nat) x2).set (6 : Nat) x4).set (5 : Nat) x6).set (4 : Nat) x8).set (3 : Nat) x10).set (2 : Nat) x12).set (1 : Nat) x14).set (0 : Nat) x16))))] []) := by
 intros
 kernel_rfl
theorem vc44_eq : ∀ (x : Int) (K : List RV → List (Option (List Seg)) → Prop) (Q : Nat → List Pv → Prop), vc44 x K Q = (Need ((0 : Int) ≤ 8 ∧ (8 : Int) ≤ 8 ∧ (8 : Int) ≤ 70368744177664) ∧ ForL .u8 (List.replicate 8 (0 : Int)) fun x1 => ForI .u8 (IntKind.u8.wrap x) fun x2 => Need (0 < x1.length) ∧ ForI .i64 (shrI .i64 x (8 : Int)) fun x3 => ForI .u8 (IntKind.u8.wrap x3) fun x4 => Need ((1 : Nat) < (x1.set (0 : Nat) x2).length) ∧ ForI .i64 (shrI .i64 x3 8) fun x5 => ForI .u8 (IntKind.u8.wrap x5) fun x6 => Need ((2 : Nat) < ((x1.set (0 : Nat) x2).set (1 : Nat) x4).length) ∧ ForI .i64 (shrI .i64 x5 8) fun x7 => ForI .u8 (IntKind.u8.wrap x7) fun x8 => Need ((3 : Nat) < (((x1.set (0 : Nat) x2).set (1 : Nat) x4).set (2 : Nat) x6).length) ∧ ForI .i64 (shrI .i64 x7 8) fun x9 => ForI .u8 (IntKind.u8.wrap x9) fun x10 => Need ((4 : Nat) < ((((x1.set (0 : Nat) x2).set (1 : Nat) x4).set (2 : Nat) x6).set (3 : Nat) x8).length) ∧ ForI .i64 (shrI .i64 x9 8) fun x11 => ForI .u8 (IntKind.u8.wrap x11) fun x12 => Need ((5 : Nat) < (((((x1.set (0 : Nat) x2).set (1 : Nat) x4).set (2 : Nat) x6).set (3 : Nat) x8).set (4 : Nat) x10).length) ∧ ForI .i64 (shrI .i64 x11 8) fun x13 => ForI .u8 (IntKind.u8.wrap x13) fun x14 => Need ((6 : Nat) < ((((((x1.set (0 : Nat) x2).set (1 : Nat) x4).set (2 : Nat) x6).set (3 : Nat) x8).set (4 : Nat) x10).set (5 : Nat) x12).length) ∧ ForI .i64 (shrI .i64 x13 8) fun x15 => ForI .u8 (IntKind.u8.wrap x15) fun x16 => Need ((7 : Nat) < (((((((x1.set (0 : Nat) x2).set (1 : Nat) x4).set (2 : Nat) x6).set (3 : Nat) x8).set (4 : Nat) x10).set (5 : Nat) x12).set (6 : Nat) x14).length) ∧ ForI .i64 (shrI .i64 x15 8) fun x17 => Need ((8 : Int) ≤ ↑((((((((x1.set (0 : Nat) x2).set (1 : Nat) x4).set (2 : Nat) x6).set (3 : Nat) x8).set (4 : Nat) x10).set (5 : Nat) x12).set (6 : Nat) x14).set (7 : Nat) x16).length) ∧ K [RV.row (Con.ints .u8 (List.take 8 (List.drop 0 ((((((((x1.set (0 : Nat) x2).set (1 : Nat) x4).set (2 : Nat) x6).set (3 : Nat) x8).set (4 : Nat) x10).set (5 : Nat) x12).set (6 : Nat) x14).set (7 : Nat) x16))))] []) := by
 intros
 kernel_rfl

theorem shr8 (x : Int) (a b : Nat) (h : b = a + 8 ∧ b ≤ 64 := by omega) : shrI .u64 (shrI .u64 x (a : Int)) 8 = shrI .u64 x (b : Int) := by
 have h8 : shrI .u64 (shrI .u64 x (a : Int)) ((8 : Nat) : Int) = (shrI .u64 x (a : Int)) / 2 ^ 8 := shr_div 8 (by omega)
 rw [show (8 : Int) = ((8 : Nat) : Int) from rfl, h8, shr_div a (by omega), shr_div b (by omega), Int.ediv_ediv_of_nonneg (Int.le_of_lt (Int.pow_pos (by omega))), ← Int.pow_add, h.1]
theorem rot_of (x n : Int) (h : 1 ≤ n ∧ n ≤ 63) : orI .u64 (shrI .u64 x n) (shlI .u64 x (64 - n)) = rotL x (-n) := by
 have hn : ∀ j : Fin 64, 1 ≤ j.val → andI .u64 (IntKind.u64.wrap (-(j.val : Int))) 63 = 64 - (j.val : Int) ∧ IntKind.u64.wrap (64 - (64 - (j.val : Int))) = (j.val : Int) := by decide +kernel
 obtain ⟨h1, h2⟩ := hn ⟨n.toNat, by omega⟩ (by show 1 ≤ n.toNat; omega)
 have hv : (((⟨n.toNat, by omega⟩ : Fin 64).val : Nat) : Int) = n := by show ((n.toNat : Nat) : Int) = n; omega
 rw [hv] at h1 h2
 unfold rotL
 rw [h1, h2]
 unfold orI
 rw [BitVec.or_comm]
def rotrS : List SV → Option (List Prop × SV)
 | [.i .u64 x, .i .i64 n] => some ([1 ≤ n.z ∧ n.z ≤ 63], .i .u64 ⟨false, rotL x.z (-n.z)⟩)
 | _ => none
theorem rotr_ok : CallOk Tryd.prog gh4 52 (pureCtr rotrS) := by
 refine call_pure (fn := Tryd.f52) Δ0_ok rfl (by kernel_rfl) (by kernel_rfl) (by kernel_rfl) rotrS fun args P0 Y0 hs hp hf => ?_
 unfold rotrS at hs
 split at hs
 ·rename_i x n
  simp only [Option.some.injEq, Prod.mk.injEq] at hs
  obtain ⟨rfl, rfl⟩ := hs
  have hp : 1 ≤ n.z ∧ n.z ≤ 63 := hp.1
  refine ⟨[.i .u64 ⟨false, x.z⟩, .i .i64 ⟨false, n.z⟩], [], _, ⟨rfl, rfl, trivial⟩, Nat.le_of_ble_eq_true (by kernel_rfl), vc_noloops ?_⟩
  show vc52 x.z n.z _ _
  rw [vc52_eq]
  refine ⟨need_of (by omega), ?_⟩
  intro x1 e1 _ x2 e2 _
  rw [wrap_i64 (by omega)] at e2
  refine ⟨need_of (by omega), fun x3 e3 _ x4 e4 _ => ?_⟩
  show x4 = rotL x.z (-n.z)
  rw [e4, e3, e1, e2, rot_of x.z n.z hp]
 ·cases hs
def wordG : List AV → Option (List Prop × List RV × List (Option (List Seg)))
 | [.d (.ints .u8) d, .v (.i .i64 ⟨_, n⟩)] => some ([0 ≤ n, n + 8 ≤ ((roL d).length : Int)], [.v (.i .u64 ⟨false, wordL (roL d) n.toNat⟩)], [])
 | _ => none
theorem getD_drop (b : List Int) (j k : Nat) : (b.drop j).getD k 0 = b.getD (j + k) 0 := by
 rw [List.getD_eq_getElem?_getD, List.getD_eq_getElem?_getD, List.getElem?_drop]
theorem hs0 : shlI .u64 0 8 = 0 := by decide +kernel
theorem partS (b : List Int) (k : Nat) : partw b 0 (k + 1) = orI .u64 (shlI .u64 (partw b 0 k) 8) (IntKind.u64.wrap (b.getD (8 * 0 + k) 0)) := rfl
set_option maxHeartbeats 2000000 in
theorem wordG_ok : CallOk Tryd.prog gh4 51 (genCtr [.d (.ints .u8), .v] wordG) := by
 refine call_gen (fn := Tryd.f51) Δ0_ok rfl glow4 rfl (by kernel_rfl) (by kernel_rfl) _ wordG fun av p rvs fin hs hp hf => ?_
 unfold wordG at hs
 split at hs
 ·rename_i d st n
  simp only [Option.some.injEq, Prod.mk.injEq] at hs
  obtain ⟨rfl, rfl, rfl⟩ := hs
  have h0 : 0 ≤ n := hp.1
  have h1 : n + 8 ≤ ((roL d).length : Int) := hp.2.1
  obtain ⟨⟨_, hlen⟩, _⟩ := hf
  refine ⟨[.ro 490 (.ints .u8) d, .i .i64 ⟨false, n⟩], [], [], _, ?_, Nat.le_of_ble_eq_true (by kernel_rfl), vcG_noloops ?_⟩
  ·exact ⟨rfl, rfl, trivial⟩
  show vc51 d n _ _
  rw [vc51_eq]
  intro x1 e1 _
  rw [wrap_i64 (by omega)] at e1
  refine ⟨need_of (by omega), ?_⟩
  intro x2 e2 _ x3 e3 _ x4 e4 _
  intro x5 e5 _ x6 e6 _
  rw [wrap_i64 (by omega)] at e6
  refine ⟨need_of (by omega), ?_⟩
  intro x7 e7 _ x8 e8 _ x9 e9 _
  intro x10 e10 _ x11 e11 _
  rw [wrap_i64 (by omega)] at e11
  refine ⟨need_of (by omega), ?_⟩
  intro x12 e12 _ x13 e13 _ x14 e14 _
  intro x15 e15 _ x16 e16 _
  rw [wrap_i64 (by omega)] at e16
  refine ⟨need_of (by omega), ?_⟩
  intro x17 e17 _ x18 e18 _ x19 e19 _
  intro x20 e20 _ x21 e21 _
  rw [wrap_i64 (by omega)] at e21
  refine ⟨need_of (by omega), ?_⟩
  intro x22 e22 _ x23 e23 _ x24 e24 _
  intro x25 e25 _ x26 e26 _
  rw [wrap_i64 (by omega)] at e26
  refine ⟨need_of (by omega), ?_⟩
  intro x27 e27 _ x28 e28 _ x29 e29 _
  intro x30 e30 _ x31 e31 _
  rw [wrap_i64 (by omega)] at e31
  refine ⟨need_of (by omega), ?_⟩
  intro x32 e32 _ x33 e33 _ x34 e34 _
  intro x35 e35 _ x36 e36 _
  rw [wrap_i64 (by omega)] at e36
  refine ⟨need_of (by omega), ?_⟩
  intro x37 e37 _ x38 e38 _ x39 e39 _
  refine ⟨⟨?_, trivial⟩, trivial⟩
  show x39 = wordL (roL d) n.toNat
  have p0 : partw ((roL d).drop n.toNat) 0 0 = 0 := rfl
  have q0 : ((roL d).drop n.toNat).getD (8 * 0 + 0) 0 = x2 := by rw [getD_drop, e2]; congr 1; omega
  have p1 : partw ((roL d).drop n.toNat) 0 1 = x4 := by
   rw [partS, p0, q0, e4, e3, hs0]
  have q1 : ((roL d).drop n.toNat).getD (8 * 0 + 1) 0 = x7 := by rw [getD_drop, e7]; congr 1; omega
  have p2 : partw ((roL d).drop n.toNat) 0 2 = x9 := by
   rw [partS, p1, q1, e9, e8, e5]
  have q2 : ((roL d).drop n.toNat).getD (8 * 0 + 2) 0 = x12 := by rw [getD_drop, e12]; congr 1; omega
  have p3 : partw ((roL d).drop n.toNat) 0 3 = x14 := by
   rw [partS, p2, q2, e14, e13, e10]
  have q3 : ((roL d).drop n.toNat).getD (8 * 0 + 3) 0 = x17 := by rw [getD_drop, e17]; congr 1; omega
  have p4 : partw ((roL d).drop n.toNat) 0 4 = x19 := by
   rw [partS, p3, q3, e19, e18, e15]
  have q4 : ((roL d).drop n.toNat).getD (8 * 0 + 4) 0 = x22 := by rw [getD_drop, e22]; congr 1; omega
  have p5 : partw ((roL d).drop n.toNat) 0 5 = x24 := by
   rw [partS, p4, q4, e24, e23, e20]
  have q5 : ((roL d).drop n.toNat).getD (8 * 0 + 5) 0 = x27 := by rw [getD_drop, e27]; congr 1; omega
  have p6 : partw ((roL d).drop n.toNat) 0 6 = x29 := by
   rw [partS, p5, q5, e29, e28, e25]
  have q6 : ((roL d).drop n.toNat).getD (8 * 0 + 6) 0 = x32 := by rw [getD_drop, e32]; congr 1; omega
  have p7 : partw ((roL d).drop n.toNat) 0 7 = x34 := by
   rw [partS, p6, q6, e34, e33, e30]
  have q7 : ((roL d).drop n.toNat).getD (8 * 0 + 7) 0 = x37 := by rw [getD_drop, e37]; congr 1; omega
  have p8 : partw ((roL d).drop n.toNat) 0 8 = x39 := by
   rw [partS, p7, q7, e39, e38, e35]
  exact p8.symm
 ·cases hs
theorem shr80 (x : Int) : shrI .u64 x 0 = x := by
 have := shr_div (x := x) 0 (by omega)
 rw [show (0 : Int) = ((0 : Nat) : Int) from rfl, this]; simp
theorem shri_div {x : Int} (k : Nat) (hk : k ≤ 64) : shrI .i64 x (k : Int) = x / 2 ^ k := by
 unfold shrI
 rw [show (min ((k : Int)).toNat IntKind.i64.bits) = k by simp [IntKind.bits]; omega, Int.fdiv_eq_ediv_of_nonneg]
 exact Int.le_of_lt (Int.pow_pos (by omega))
theorem shr8i (x : Int) (a b : Nat) (h : b = a + 8 ∧ b ≤ 64 := by omega) : shrI .i64 (shrI .i64 x (a : Int)) 8 = shrI .i64 x (b : Int) := by
 have h8 : shrI .i64 (shrI .i64 x (a : Int)) ((8 : Nat) : Int) = (shrI .i64 x (a : Int)) / 2 ^ 8 := shri_div 8 (by omega)
 rw [show (8 : Int) = ((8 : Nat) : Int) from rfl, h8, shri_div a (by omega), shri_div b (by omega), Int.ediv_ediv_of_nonneg (Int.le_of_lt (Int.pow_pos (by omega))), ← Int.pow_add, h.1]
theorem shr8i0 (x : Int) : shrI .i64 x 0 = x := by
 have := shri_div (x := x) 0 (by omega)
 rw [show (0 : Int) = ((0 : Nat) : Int) from rfl, this]; simp
def numG : List AV → Option (List Prop × List RV × List (Option (List Seg)))
 | [.v (.i .u64 ⟨_, x⟩), .v (.i .i64 ⟨true, .ofNat 8⟩)] => some ([], [.row (.ints .u8 (be8 x))], [])
 | _ => none
theorem numG_ok : CallOk Tryd.prog gh4 46 (genCtr [.v, .v] numG) := by
 refine call_gen (fn := Tryd.f46) Δ0_ok rfl glow4 rfl (by kernel_rfl) (by kernel_rfl) _ numG fun av p rvs fin hs hp hf => ?_
 unfold numG at hs
 split at hs
 ·rename_i st x
  simp only [Option.some.injEq, Prod.mk.injEq] at hs
  obtain ⟨rfl, rfl, rfl⟩ := hs
  refine ⟨[.i .u64 ⟨false, x⟩, .i .i64 ⟨true, 8⟩], [], [], _, ?_, Nat.le_of_ble_eq_true (by kernel_rfl), vcG_noloops ?_⟩
  ·exact ⟨rfl, rfl, trivial⟩
  show vc46 x _ _
  rw [vc46_eq]
  refine ⟨need_of (by omega), ?_⟩
  intro x1 e1 _
  subst e1
  intro x2 e2 _
  refine ⟨need_of (by simp), ?_⟩
  intro x3 e3 _ x4 e4 _
  refine ⟨need_of (by simp), ?_⟩
  intro x5 e5 _ x6 e6 _
  refine ⟨need_of (by simp), ?_⟩
  intro x7 e7 _ x8 e8 _
  refine ⟨need_of (by simp), ?_⟩
  intro x9 e9 _ x10 e10 _
  refine ⟨need_of (by simp), ?_⟩
  intro x11 e11 _ x12 e12 _
  refine ⟨need_of (by simp), ?_⟩
  intro x13 e13 _ x14 e14 _
  refine ⟨need_of (by simp), ?_⟩
  intro x15 e15 _ x16 e16 _
  refine ⟨need_of (by simp), ?_⟩
  intro x17 e17 _
  refine ⟨need_of (by simp), ⟨⟨rfl, ?_⟩, trivial⟩, trivial⟩
  show List.take 8 (List.drop 0 _) = be8 x
  have s0 := shr80 x
  rw [← s0] at e3 e2
  have e3 : x3 = shrI .u64 x (((8 : Nat)) : Int) := by rw [e3]; exact shr8 x 0 8
  have e5 : x5 = shrI .u64 x (((16 : Nat)) : Int) := by rw [e5, e3]; exact shr8 x 8 16
  have e7 : x7 = shrI .u64 x (((24 : Nat)) : Int) := by rw [e7, e5]; exact shr8 x 16 24
  have e9 : x9 = shrI .u64 x (((32 : Nat)) : Int) := by rw [e9, e7]; exact shr8 x 24 32
  have e11 : x11 = shrI .u64 x (((40 : Nat)) : Int) := by rw [e11, e9]; exact shr8 x 32 40
  have e13 : x13 = shrI .u64 x (((48 : Nat)) : Int) := by rw [e13, e11]; exact shr8 x 40 48
  have e15 : x15 = shrI .u64 x (((56 : Nat)) : Int) := by rw [e15, e13]; exact shr8 x 48 56
  rw [e2, e4, e6, e8, e10, e12, e14, e16, e15, e13, e11, e9, e7, e5, e3]
  rfl
 ·cases hs
def lowG : List AV → Option (List Prop × List RV × List (Option (List Seg)))
 | [.v (.i .i64 ⟨_, x⟩)] => some ([], [.row (.ints .u8 (le8 x))], [])
 | _ => none
theorem lowG_ok : CallOk Tryd.prog gh4 44 (genCtr [.v] lowG) := by
 refine call_gen (fn := Tryd.f44) Δ0_ok rfl glow4 rfl (by kernel_rfl) (by kernel_rfl) _ lowG fun av p rvs fin hs hp hf => ?_
 unfold lowG at hs
 split at hs
 ·rename_i st x
  simp only [Option.some.injEq, Prod.mk.injEq] at hs
  obtain ⟨rfl, rfl, rfl⟩ := hs
  refine ⟨[.i .i64 ⟨false, x⟩], [], [], _, ?_, Nat.le_of_ble_eq_true (by kernel_rfl), vcG_noloops ?_⟩
  ·exact ⟨rfl, trivial⟩
  show vc44 x _ _
  rw [vc44_eq]
  refine ⟨need_of (by omega), ?_⟩
  intro x1 e1 _
  subst e1
  intro x2 e2 _
  refine ⟨need_of (by simp), ?_⟩
  intro x3 e3 _ x4 e4 _
  refine ⟨need_of (by simp), ?_⟩
  intro x5 e5 _ x6 e6 _
  refine ⟨need_of (by simp), ?_⟩
  intro x7 e7 _ x8 e8 _
  refine ⟨need_of (by simp), ?_⟩
  intro x9 e9 _ x10 e10 _
  refine ⟨need_of (by simp), ?_⟩
  intro x11 e11 _ x12 e12 _
  refine ⟨need_of (by simp), ?_⟩
  intro x13 e13 _ x14 e14 _
  refine ⟨need_of (by simp), ?_⟩
  intro x15 e15 _ x16 e16 _
  refine ⟨need_of (by simp), ?_⟩
  intro x17 e17 _
  refine ⟨need_of (by simp), ⟨⟨rfl, ?_⟩, trivial⟩, trivial⟩
  show List.take 8 (List.drop 0 _) = le8 x
  have s0 := shr8i0 x
  rw [← s0] at e3 e2
  have e3 : x3 = shrI .i64 x (((8 : Nat)) : Int) := by rw [e3]; exact shr8i x 0 8
  have e5 : x5 = shrI .i64 x (((16 : Nat)) : Int) := by rw [e5, e3]; exact shr8i x 8 16
  have e7 : x7 = shrI .i64 x (((24 : Nat)) : Int) := by rw [e7, e5]; exact shr8i x 16 24
  have e9 : x9 = shrI .i64 x (((32 : Nat)) : Int) := by rw [e9, e7]; exact shr8i x 24 32
  have e11 : x11 = shrI .i64 x (((40 : Nat)) : Int) := by rw [e11, e9]; exact shr8i x 32 40
  have e13 : x13 = shrI .i64 x (((48 : Nat)) : Int) := by rw [e13, e11]; exact shr8i x 40 48
  have e15 : x15 = shrI .i64 x (((56 : Nat)) : Int) := by rw [e15, e13]; exact shr8i x 48 56
  rw [e2, e4, e6, e8, e10, e12, e14, e16, e15, e13, e11, e9, e7, e5, e3]
  rfl
 ·cases hs
def Δ1 : Tab := ⟨tys, (52, pureCtr rotrS) :: (51, genCtr [.d (.ints .u8), .v] wordG) :: (46, genCtr [.v, .v] numG) :: (44, genCtr [.v] lowG) :: Δ0.ctr, [0, 1, 2, 3], gh4⟩
theorem Δ1_ok : TabOk Tryd.prog Δ1 := (((Δ0_ok.cons lowG_ok).cons numG_ok).cons wordG_ok).cons rotr_ok
end Go.Gx

/- The reference's block. -/
namespace Go.Gx
open Go.Proofs Go.Sp
set_option linter.unusedVariables false
set_option maxRecDepth 100000

def A8 : SB := .segs false [.arr .u64 8 false []]
def A80 : SB := .segs false [.arr .u64 80 false []]
def L47 : Loops := [(3, ⟨[.any, .ro 490 (.ints .u8) (.l []), .i .i64 ⟨false, 0⟩, .p 1000 0, .any, .any, .p 1001 0, .p 1002 0, .i .i64 ⟨false, 0⟩] ++ reps .any 167, gh4 ++ [(490, .world), (1000, A8), (1001, A8), (1002, A80)], 2000⟩),
 (14, ⟨[.any, .any, .any, .p 1000 0, .any, .any, .p 1001 0, .p 1002 0] ++ reps .any 5 ++ [.p 1003 0, .i .i64 ⟨false, 0⟩] ++ reps .any 161, gh4 ++ [(490, .world), (1000, A8), (1001, A8), (1002, A80), (1003, A8)], 2000⟩)]
def vc47 (ws : List Int) (d : RO) (o : Int) (K : List RV → List (Option (List Seg)) → Prop) (Q : Nat → List Pv → Prop) : Prop := fnVcG 0 Δ1 Tryd.f47 L47 [.arr .u64 8 false ws, .ro 490 (.ints .u8) d, .i .i64 ⟨false, o⟩] (gh4 ++ (490, .world) :: []) K Q
def lc47a (d : RO) (o i : Int) (g g' ws r w : List Int) (K : List RV → List (Option (List Seg)) → Prop) (Q : Nat → List Pv → Prop) : Prop := loopVcG 0 Δ1 Tryd.f47 L47 3 [.ro d, .z o, .z i, .l g, .l g', .l ws, .l r, .l w] K Q
def lc47b (i : Int) (g g' ws r w s : List Int) (K : List RV → List (Option (List Seg)) → Prop) (Q : Nat → List Pv → Prop) : Prop := loopVcG 0 Δ1 Tryd.f47 L47 14 [.z i, .l g, .l g', .l ws, .l r, .l w, .l s] K Q
theorem vc47_eq : ∀ (ws : List Int) (d : RO) (o : Int) (K : List RV → List (Option (List Seg)) → Prop) (Q : Nat → List Pv → Prop), vc47 ws d o K Q = (Same Tryd.f47 3 (itemsOf Tryd.f47 3) ∧ Q 3 [Pv.ro d, Pv.z o, Pv.z 0, Pv.l K80, Pv.l K80, Pv.l ws, Pv.l [(0 : Int), (0 : Int), (0 : Int), (0 : Int), (0 : Int), (0 : Int), (0 : Int), (0 : Int)], Pv.l (List.replicate 80 (0 : Int))]) := by
 intros
 kernel_rfl
theorem lc47a_eq : ∀ (d : RO) (o i : Int) (g g' ws r w : List Int) (K : List RV → List (Option (List Seg)) → Prop) (Q : Nat → List Pv → Prop), lc47a d o i g g' ws r w K Q = ((decide (i < 80) = true → (decide (i < 16) = true → ForI .i64 (IntKind.i64.wrap ((8 : Int) * i)) fun x1 => ForI .i64 (IntKind.i64.wrap (o + x1)) fun x2 => Need (0 ≤ x2) ∧ Need (x2 + 8 ≤ ((roL d).length : Int)) ∧ ForI .u64 (wordL (roL d) x2.toNat) fun x3 => Need (0 ≤ i ∧ i < 80) ∧ Need (0 ≤ i ∧ i < 80) ∧ ForA .u64 80 (w.set i.toNat x3) fun x4 => ForI .i64 (IntKind.i64.wrap (i + 1)) fun x5 => Same Tryd.f47 3 (itemsOf Tryd.f47 3) ∧ Q 3 [Pv.ro d, Pv.z o, Pv.z x5, Pv.l g, Pv.l g', Pv.l ws, Pv.l r, Pv.l x4]) ∧ (decide (i < 16) = false → ForI .i64 (IntKind.i64.wrap (i - 2)) fun x6 => Need (0 ≤ x6 ∧ x6 < 80) ∧ Need (0 ≤ x6 ∧ x6 < 80) ∧ ForI .u64 (w.getD x6.toNat 0) fun x7 => ForI .i64 (IntKind.i64.wrap (i - 15)) fun x8 => Need (0 ≤ x8 ∧ x8 < 80) ∧ Need (0 ≤ x8 ∧ x8 < 80) ∧ ForI .u64 (w.getD x8.toNat 0) fun x9 => Need ((1 : Int) ≤ 19 ∧ (19 : Int) ≤ 63) ∧ ForI .u64 (rotL x7 (-19 : Int)) fun x10 => Need ((1 : Int) ≤ 61 ∧ (61 : Int) ≤ 63) ∧ ForI .u64 (rotL x7 (-61 : Int)) fun x11 => ForI .u64 (xorI .u64 x10 x11) fun x12 => ForI .u64 (shrI .u64 x7 6) fun x13 => ForI .u64 (xorI .u64 x12 x13) fun x14 => Need ((1 : Int) ≤ 1 ∧ (1 : Int) ≤ 63) ∧ ForI .u64 (rotL x9 (-1 : Int)) fun x15 => Need ((1 : Int) ≤ 8 ∧ (8 : Int) ≤ 63) ∧ ForI .u64 (rotL x9 (-8 : Int)) fun x16 => ForI .u64 (xorI .u64 x15 x16) fun x17 => ForI .u64 (shrI .u64 x9 7) fun x18 => ForI .u64 (xorI .u64 x17 x18) fun x19 => ForI .i64 (IntKind.i64.wrap (i - 7)) fun x20 => Need (0 ≤ x20 ∧ x20 < 80) ∧ Need (0 ≤ x20 ∧ x20 < 80) ∧ ForI .u64 (w.getD x20.toNat 0) fun x21 => ForI .u64 (IntKind.u64.wrap (x14 + x21)) fun x22 => ForI .u64 (IntKind.u64.wrap (x22 + x19)) fun x23 => ForI .i64 (IntKind.i64.wrap (i - 16)) fun x24 => Need (0 ≤ x24 ∧ x24 < 80) ∧ Need (0 ≤ x24 ∧ x24 < 80) ∧ ForI .u64 (w.getD x24.toNat 0) fun x25 => ForI .u64 (IntKind.u64.wrap (x23 + x25)) fun x26 => Need (0 ≤ i ∧ i < 80) ∧ Need (0 ≤ i ∧ i < 80) ∧ ForA .u64 80 (w.set i.toNat x26) fun x27 => ForI .i64 (IntKind.i64.wrap (i + 1)) fun x28 => Same Tryd.f47 3 (itemsOf Tryd.f47 3) ∧ Q 3 [Pv.ro d, Pv.z o, Pv.z x28, Pv.l g, Pv.l g', Pv.l ws, Pv.l r, Pv.l x27])) ∧ (decide (i < 80) = false → Same Tryd.f47 14 (itemsOf Tryd.f47 14) ∧ Q 14 [Pv.z 0, Pv.l g, Pv.l g', Pv.l ws, Pv.l r, Pv.l w, Pv.l ws])) := by
 intros
 kernel_rfl
theorem lc47b_eq : ∀ (i : Int) (g g' ws r w s : List Int) (K : List RV → List (Option (List Seg)) → Prop) (Q : Nat → List Pv → Prop), lc47b i g g' ws r w s K Q = ((decide (i < 80) = true → ForI .u64 (andI .u64 (s.getD 4 0) (s.getD 5 0)) fun x1 => ForI .u64 (notI .u64 (s.getD 4 0)) fun x2 => ForI .u64 (andI .u64 x2 (s.getD 6 0)) fun x3 => ForI .u64 (xorI .u64 x1 x3) fun x4 => ForI .u64 (andI .u64 (s.getD 0 0) (s.getD 1 0)) fun x5 => ForI .u64 (andI .u64 (s.getD 0 0) (s.getD 2 0)) fun x6 => ForI .u64 (xorI .u64 x5 x6) fun x7 => ForI .u64 (andI .u64 (s.getD 1 0) (s.getD 2 0)) fun x8 => ForI .u64 (xorI .u64 x7 x8) fun x9 => Need ((1 : Int) ≤ 14 ∧ (14 : Int) ≤ 63) ∧ ForI .u64 (rotL (s.getD 4 0) (-14 : Int)) fun x10 => Need ((1 : Int) ≤ 18 ∧ (18 : Int) ≤ 63) ∧ ForI .u64 (rotL (s.getD 4 0) (-18 : Int)) fun x11 => ForI .u64 (xorI .u64 x10 x11) fun x12 => Need ((1 : Int) ≤ 41 ∧ (41 : Int) ≤ 63) ∧ ForI .u64 (rotL (s.getD 4 0) (-41 : Int)) fun x13 => ForI .u64 (xorI .u64 x12 x13) fun x14 => Need ((1 : Int) ≤ 28 ∧ (28 : Int) ≤ 63) ∧ ForI .u64 (rotL (s.getD 0 0) (-28 : Int)) fun x15 => Need ((1 : Int) ≤ 34 ∧ (34 : Int) ≤ 63) ∧ ForI .u64 (rotL (s.getD 0 0) (-34 : Int)) fun x16 => ForI .u64 (xorI .u64 x15 x16) fun x17 => Need ((1 : Int) ≤ 39 ∧ (39 : Int) ≤ 63) ∧ ForI .u64 (rotL (s.getD 0 0) (-39 : Int)) fun x18 => ForI .u64 (xorI .u64 x17 x18) fun x19 => ForI .u64 (IntKind.u64.wrap (s.getD (7 : Nat) 0 + x14)) fun x20 => ForI .u64 (IntKind.u64.wrap (x20 + x4)) fun x21 => Need (0 ≤ i ∧ i < 80) ∧ Need (0 ≤ i ∧ i < 80) ∧ ForI .u64 (g'.getD i.toNat 0) fun x22 => ForI .u64 (IntKind.u64.wrap (x21 + x22)) fun x23 => Need (0 ≤ i ∧ i < 80) ∧ Need (0 ≤ i ∧ i < 80) ∧ ForI .u64 (w.getD i.toNat 0) fun x24 => ForI .u64 (IntKind.u64.wrap (x23 + x24)) fun x25 => ForI .u64 (IntKind.u64.wrap (x25 + x19)) fun x26 => ForI .u64 (IntKind.u64.wrap (x26 + x9)) fun x27 => ForI .u64 (IntKind.u64.wrap (s.getD (3 : Nat) 0 + x25)) fun x28 => ForI .i64 (IntKind.i64.wrap (i + 1)) fun x29 => Same Tryd.f47 14 (itemsOf Tryd.f47 14) ∧ Q 14 [Pv.z x29, Pv.l g, Pv.l g', Pv.l ws, Pv.l r, Pv.l w, Pv.l [x27, s.getD 0 0, s.getD 1 0, s.getD 2 0, x28, s.getD 4 0, s.getD 5 0, s.getD 6 0]]) ∧ (decide (i < 80) = false → ForI .u64 (IntKind.u64.wrap (ws.getD 0 0 + s.getD 0 0)) fun x30 => ForI .u64 (IntKind.u64.wrap ((ws.set (0 : Nat) x30).getD 1 0 + s.getD 1 0)) fun x31 => ForI .u64 (IntKind.u64.wrap (((ws.set (0 : Nat) x30).set (1 : Nat) x31).getD 2 0 + s.getD 2 0)) fun x32 => ForI .u64 (IntKind.u64.wrap ((((ws.set (0 : Nat) x30).set (1 : Nat) x31).set (2 : Nat) x32).getD 3 0 + s.getD 3 0)) fun x33 => ForI .u64 (IntKind.u64.wrap (((((ws.set (0 : Nat) x30).set (1 : Nat) x31).set (2 : Nat) x32).set (3 : Nat) x33).getD 4 0 + s.getD 4 0)) fun x34 => ForI .u64 (IntKind.u64.wrap ((((((ws.set (0 : Nat) x30).set (1 : Nat) x31).set (2 : Nat) x32).set (3 : Nat) x33).set (4 : Nat) x34).getD 5 0 + s.getD 5 0)) fun x35 => ForI .u64 (IntKind.u64.wrap (((((((ws.set (0 : Nat) x30).set (1 : Nat) x31).set (2 : Nat) x32).set (3 : Nat) x33).set (4 : Nat) x34).set (5 : Nat) x35).getD 6 0 + s.getD 6 0)) fun x36 => ForI .u64 (IntKind.u64.wrap ((((((((ws.set (0 : Nat) x30).set (1 : Nat) x31).set (2 : Nat) x32).set (3 : Nat) x33).set (4 : Nat) x34).set (5 : Nat) x35).set (6 : Nat) x36).getD 7 0 + s.getD 7 0)) fun x37 => K [RV.v (SV.arr .u64 8 false ((((((((ws.set (0 : Nat) x30).set (1 : Nat) x31).set (2 : Nat) x32).set (3 : Nat) x33).set (4 : Nat) x34).set (5 : Nat) x35).set (6 : Nat) x36).set (7 : Nat) x37))] [])) := by
 intros
 kernel_rfl

theorem word_part (b : List Int) (o t : Nat) (ht : t < 16) : wordL b (o + 8 * t) = partw ((b.drop o).take 128) t 8 := by
 have h : ∀ k, k ≤ 8 → partw (b.drop (o + 8 * t)) 0 k = partw ((b.drop o).take 128) t k := by
  intro k
  induction k with
  | zero => intro _; rfl
  | succ k ih =>
   intro hk
   have e1 : (b.drop (o + 8 * t)).getD (8 * 0 + k) 0 = ((b.drop o).take 128).getD (8 * t + k) 0 := by
    rw [List.getD_eq_getElem?_getD, List.getD_eq_getElem?_getD, List.getElem?_drop, List.getElem?_take, if_pos (by omega), List.getElem?_drop]
    congr 2
    omega
   rw [partw, partw, ih (by omega), e1]
 exact h 8 (by omega)
def zero8 : List Int := [0, 0, 0, 0, 0, 0, 0, 0]
def inv47 (ws bl : List Int) (d : RO) (o : Int) (key : Nat) (ps : List Pv) (mm : Nat) : Prop :=
 (key = 3 ∧ ∃ t : Nat, t < 16 ∧ ps = [.ro d, .z o, .z (t : Int), .l K80, .l K80, .l ws, .l zero8, .l (prew bl t)] ∧ mm = 200 - t) ∨
 (key = 3 ∧ ∃ i : Nat, i ≤ 64 ∧ ps = [.ro d, .z o, .z ((16 + i : Nat) : Int), .l K80, .l K80, .l ws, .l zero8, .l (schs bl i)] ∧ mm = 184 - i) ∨
 (key = 14 ∧ ∃ t : Nat, t ≤ 80 ∧ ps = [.z (t : Int), .l K80, .l K80, .l ws, .l zero8, .l (schs bl 64), .l (rnds (schs bl 64) ws t)] ∧ mm = 80 - t)
def takeG : List AV → Option (List Prop × List RV × List (Option (List Seg)))
 | [.v (.arr .u64 8 _ ws), .d (.ints .u8) d, .v (.i .i64 ⟨_, o⟩)] => some ([0 ≤ o, o + 128 ≤ ((roL d).length : Int)], [.v (.arr .u64 8 false (compr ws (((roL d).drop o.toNat).take 128)))], [])
 | _ => none
set_option maxHeartbeats 2000000 in
theorem takeG_ok : CallOk Tryd.prog gh4 47 (genCtr [.v, .d (.ints .u8), .v] takeG) := by
 refine call_gen (fn := Tryd.f47) Δ1_ok rfl glow4 rfl (by kernel_rfl) (by kernel_rfl) _ takeG fun av p rvs fin hs hp hf => ?_
 unfold takeG at hs
 split at hs
 ·rename_i e ws d st o
  simp only [Option.some.injEq, Prod.mk.injEq] at hs
  obtain ⟨rfl, rfl, rfl⟩ := hs
  have h0 : 0 ≤ o := hp.1
  have h1 : o + 128 ≤ ((roL d).length : Int) := hp.2.1
  obtain ⟨⟨hws, _⟩, ⟨_, hlen⟩, _⟩ := hf
  obtain ⟨bl, hbl⟩ : ∃ bl, ((roL d).drop o.toNat).take 128 = bl := ⟨_, rfl⟩
  rw [hbl]
  refine ⟨[.arr .u64 8 false ws, .ro 490 (.ints .u8) d, .i .i64 ⟨false, o⟩], [], L47, inv47 ws bl d o, ?okA, Nat.le_of_ble_eq_true (by kernel_rfl), ?_, ?_, ?_⟩
  case okA => exact ⟨rfl, rfl, rfl, trivial⟩
  ·intro kk t ht g hg
   have hg : g ∈ [0, 1, 2, 3, 490] := hg
   simp only [List.mem_cons, List.not_mem_nil, or_false] at hg
   simp only [L47, List.mem_cons, List.not_mem_nil, or_false, Prod.mk.injEq] at ht
   obtain ⟨rfl, rfl⟩ | ⟨rfl, rfl⟩ := ht <;> rcases hg with rfl | rfl | rfl | rfl | rfl <;> exact ⟨by omega, rfl⟩
  ·rintro vk t ps mm ht (⟨rfl, t', ht', rfl, rfl⟩ | ⟨rfl, i, hi, rfl, rfl⟩ | ⟨rfl, t', ht', rfl, rfl⟩)
   all_goals simp only [L47, List.mem_cons, List.not_mem_nil, or_false, Prod.mk.injEq, Nat.reduceEqDiff, false_and, true_and, false_or, or_false] at ht
   ·subst ht
    show lc47a d o (t' : Int) K80 K80 ws zero8 (prew bl t') _ _
    rw [lc47a_eq]
    refine ⟨fun _ => ⟨fun _ => ?_, fun h => absurd (of_decide_eq_false h) (by omega)⟩, fun h => absurd (of_decide_eq_false h) (by omega)⟩
    intro x1 e1 _ x2 e2 _
    rw [wrap_i64 (by omega)] at e1
    rw [e1, wrap_i64 (by omega)] at e2
    refine ⟨need_of (by omega), need_of (by omega), ?_⟩
    intro x3 e3 _
    refine ⟨need_of (by omega), need_of (by omega), ?_⟩
    intro x4 e4 _ _ x5 e5 _
    rw [wrap_i64 (by omega)] at e5
    rw [show x2.toNat = o.toNat + 8 * t' by omega, word_part _ _ _ ht', hbl] at e3
    have e4 : x4 = prew bl (t' + 1) := by rw [e4, e3, Int.toNat_natCast]; rfl
    rw [e4, e5]
    by_cases hl : t' + 1 < 16
    ·exact ⟨rfl, 200 - (t' + 1), by omega, Or.inl ⟨rfl, t' + 1, hl, rfl, rfl⟩⟩
    ·obtain rfl : t' = 15 := by omega
     exact ⟨rfl, 184 - 0, by omega, Or.inr (Or.inl ⟨rfl, 0, by omega, rfl, rfl⟩)⟩
   ·subst ht
    show lc47a d o ((16 + i : Nat) : Int) K80 K80 ws zero8 (schs bl i) _ _
    rw [lc47a_eq]
    refine ⟨fun hlt => ⟨fun h => absurd (of_decide_eq_true h) (by omega), fun _ => ?_⟩, fun hge => ?_⟩
    ·have hlt := of_decide_eq_true hlt
     generalize hw : schs bl i = w
     intro x6 e6 _
     rw [wrap_i64 (by omega)] at e6
     refine ⟨need_of (by omega), need_of (by omega), ?_⟩
     intro x7 e7 _ x8 e8 _
     rw [wrap_i64 (by omega)] at e8
     refine ⟨need_of (by omega), need_of (by omega), ?_⟩
     intro x9 e9 _
     refine ⟨need_of (by omega), ?_⟩
     intro x10 e10 _
     refine ⟨need_of (by omega), ?_⟩
     intro x11 e11 _ x12 e12 _ x13 e13 _ x14 e14 _
     refine ⟨need_of (by omega), ?_⟩
     intro x15 e15 _
     refine ⟨need_of (by omega), ?_⟩
     intro x16 e16 _ x17 e17 _ x18 e18 _ x19 e19 _ x20 e20 _
     rw [wrap_i64 (by omega)] at e20
     refine ⟨need_of (by omega), need_of (by omega), ?_⟩
     intro x21 e21 _ x22 e22 _ x23 e23 _ x24 e24 _
     rw [wrap_i64 (by omega)] at e24
     refine ⟨need_of (by omega), need_of (by omega), ?_⟩
     intro x25 e25 _ x26 e26 _
     refine ⟨need_of (by omega), need_of (by omega), ?_⟩
     intro x27 e27 _ _ x28 e28 _
     rw [wrap_i64 (by omega)] at e28
     have i6 : x6.toNat = 16 + i - 2 := by omega
     have i8 : x8.toNat = 16 + i - 15 := by omega
     have i20 : x20.toNat = 16 + i - 7 := by omega
     have i24 : x24.toNat = 16 + i - 16 := by omega
     rw [i6] at e7
     rw [i8] at e9
     rw [i20] at e21
     rw [i24] at e25
     have hx : x26 = schw w (16 + i) := by
      rw [e26, e23, e22, e14, e12, e10, e11, e13, e19, e17, e15, e16, e18, e7, e9, e21, e25]; rfl
     have e27 : x27 = schs bl (i + 1) := by
      rw [e27, hx, Int.toNat_natCast, ← hw]; rfl
     rw [e27]
     refine ⟨rfl, 184 - (i + 1), by omega, Or.inr (Or.inl ⟨rfl, i + 1, by omega, ?_, rfl⟩)⟩
     rw [show x28 = ((16 + (i + 1) : Nat) : Int) by omega]
    ·have hge := of_decide_eq_false hge
     obtain rfl : i = 64 := by omega
     exact ⟨rfl, 80 - 0, by omega, Or.inr (Or.inr ⟨rfl, 0, by omega, rfl, rfl⟩)⟩
   ·subst ht
    show lc47b (t' : Int) K80 K80 ws zero8 (schs bl 64) (rnds (schs bl 64) ws t') _ _
    rw [lc47b_eq]
    obtain ⟨a, b, c, d', e, f, g, h, hst⟩ := len8 (rnds_len (schs bl 64) ws hws t')
    refine ⟨fun hlt => ?_, fun hge => ?_⟩
    ·have hlt := of_decide_eq_true hlt
     rw [hst]
     generalize hw : schs bl 64 = w at *
     intro x1 e1 _ x2 e2 _ x3 e3 _ x4 e4 _ x5 e5 _ x6 e6 _ x7 e7 _ x8 e8 _ x9 e9 _
     refine ⟨need_of (by omega), ?_⟩
     intro x10 e10 _
     refine ⟨need_of (by omega), ?_⟩
     intro x11 e11 _ x12 e12 _
     refine ⟨need_of (by omega), ?_⟩
     intro x13 e13 _ x14 e14 _
     refine ⟨need_of (by omega), ?_⟩
     intro x15 e15 _
     refine ⟨need_of (by omega), ?_⟩
     intro x16 e16 _ x17 e17 _
     refine ⟨need_of (by omega), ?_⟩
     intro x18 e18 _ x19 e19 _ x20 e20 _ x21 e21 _
     refine ⟨need_of (by omega), need_of (by omega), ?_⟩
     intro x22 e22 _ x23 e23 _
     refine ⟨need_of (by omega), need_of (by omega), ?_⟩
     intro x24 e24 _ x25 e25 _ x26 e26 _ x27 e27 _ x28 e28 _ x29 e29 _
     rw [wrap_i64 (by omega)] at e29
     rw [Int.toNat_natCast] at e22 e24
     have hu : x25 = rndu (K80.getD t' 0) (w.getD t' 0) e f g h := by
      rw [e25, e23, e21, e20, e14, e12, e10, e11, e13, e4, e1, e3, e2, e22, e24]; rfl
     have ha : x27 = rnda (rndu (K80.getD t' 0) (w.getD t' 0) e f g h) a b c := by
      rw [e27, e26, e19, e17, e15, e16, e18, e9, e7, e5, e6, e8, hu]; rfl
     have hd : x28 = IntKind.u64.wrap (d' + rndu (K80.getD t' 0) (w.getD t' 0) e f g h) := by
      rw [e28, hu]; rfl
     refine ⟨rfl, 80 - (t' + 1), by omega, Or.inr (Or.inr ⟨rfl, t' + 1, by omega, ?_, rfl⟩)⟩
     rw [hw, rnds, hst, ha, hd, e29]
     rfl
    ·have hge := of_decide_eq_false hge
     obtain rfl : t' = 80 := by omega
     rw [hst]
     obtain ⟨w0, w1, w2, w3, w4, w5, w6, w7, rfl⟩ := len8 hws
     intro x30 e30 _ x31 e31 _ x32 e32 _ x33 e33 _ x34 e34 _ x35 e35 _ x36 e36 _ x37 e37 _
     refine ⟨⟨?_, trivial⟩, trivial⟩
     show _ = compr _ _
     have e30 : x30 = IntKind.u64.wrap (w0 + a) := e30
     have e31 : x31 = IntKind.u64.wrap (w1 + b) := e31
     have e32 : x32 = IntKind.u64.wrap (w2 + c) := e32
     have e33 : x33 = IntKind.u64.wrap (w3 + d') := e33
     have e34 : x34 = IntKind.u64.wrap (w4 + e) := e34
     have e35 : x35 = IntKind.u64.wrap (w5 + f) := e35
     have e36 : x36 = IntKind.u64.wrap (w6 + g) := e36
     have e37 : x37 = IntKind.u64.wrap (w7 + h) := e37
     rw [compr, hst, e30, e31, e32, e33, e34, e35, e36, e37]
     rfl
  ·show vc47 ws d o _ _
   rw [vc47_eq]
   exact ⟨rfl, 200 - 0, Or.inl ⟨rfl, 0, by omega, rfl, rfl⟩⟩
 ·cases hs
def Δ2 : Tab := ⟨tys, (47, genCtr [.v, .d (.ints .u8), .v] takeG) :: Δ1.ctr, [0, 1, 2, 3], gh4⟩
theorem Δ2_ok : TabOk Tryd.prog Δ2 := Δ1_ok.cons takeG_ok
end Go.Gx

/- The hash of bytes, by blocks of the padded message. -/
namespace Go.Sp
open Go.Gx
def padK0 (n : Nat) : Nat := (239 - n % 128) % 128
def padT (n : Nat) : List Int := 128 :: (List.replicate (padK0 n) 0 ++ (be8 0 ++ be8 (8 * (n : Int))))
end Go.Sp
namespace Go.Gx
open Go.Proofs Go.Sp
set_option linter.unusedVariables false
set_option maxRecDepth 100000

theorem be8_len (x : Int) : (be8 x).length = 8 := rfl
theorem padT_len (n : Nat) : (padT n).length = padK0 n + 17 := by
 unfold padT
 simp only [List.length_cons, List.length_append, List.length_replicate, be8_len]
theorem splice_full (l t : List Int) (j : Nat) (h : l.length ≤ j + t.length) : splice l j t = l.take j ++ t := by
 unfold splice
 rw [List.drop_of_length_le (by omega), List.append_nil]
theorem set_right (A B : List Int) (j : Nat) (v : Int) (i : Nat) (hi : i = A.length + j) : (A ++ B).set i v = A ++ B.set j v := by
 subst hi
 rw [List.set_append_right _ _ (by omega), Nat.add_sub_cancel_left]
theorem setlen_app (A : List Int) (hA : A.length = 112) (n : Int) : setlen (A ++ List.replicate 16 0) n = A ++ (be8 (hin n) ++ be8 (lon n)) := by
 unfold setlen
 rw [set_right A _ 7 _ 119 (by omega), set_right A _ 15 _ 127 (by omega), set_right A _ 6 _ 118 (by omega), set_right A _ 14 _ 126 (by omega),
  set_right A _ 5 _ 117 (by omega), set_right A _ 13 _ 125 (by omega), set_right A _ 4 _ 116 (by omega), set_right A _ 12 _ 124 (by omega),
  set_right A _ 3 _ 115 (by omega), set_right A _ 11 _ 123 (by omega), set_right A _ 2 _ 114 (by omega), set_right A _ 10 _ 122 (by omega),
  set_right A _ 1 _ 113 (by omega), set_right A _ 9 _ 121 (by omega), set_right A _ 0 _ 112 (by omega), set_right A _ 8 _ 120 (by omega)]
 rfl
theorem hin_of (n : Nat) (h : n ≤ 1152921504606846976) : hin (n : Int) = 0 ∧ lon (n : Int) = 8 * (n : Int) := by
 have hw : IntKind.u64.wrap (n : Int) = (n : Int) := wrap_of_InR (show 0 ≤ (n : Int) ∧ (n : Int) < 18446744073709551616 by omega)
 unfold hin lon
 rw [hw]
 omega
theorem endb_of (bl : List Int) (hbl : bl.length = 128) (n r : Nat) (hr : r = n % 128) : endb bl (n : Int) = bl.take r ++ (128 :: List.replicate (127 - r) 0) := by
 have h1 : ((n : Int).tmod 128).toNat = r := by
  rw [Int.tmod_eq_emod_of_nonneg (by omega)]; omega
 have h2 : (128 - (n : Int).tmod 128).toNat = 127 - r + 1 := by
  rw [Int.tmod_eq_emod_of_nonneg (by omega)]; omega
 have h3 : (bl.take r).length = r := by rw [List.length_take]; omega
 unfold endb
 rw [h1, h2, splice_full _ _ _ (by rw [List.length_replicate]; omega), set_right _ _ 0 _ r (by omega), List.replicate_succ, List.set_cons_zero]
theorem rep_add (a b : Nat) : List.replicate (a + b) (0 : Int) = List.replicate a 0 ++ List.replicate b 0 := List.replicate_append_replicate.symm
theorem finw_feed (s : HS) (n : Nat) (hn : s.n = (n : Int)) (hbl : s.bl.length = 128) (h : n ≤ 1152921504606846976) : finw s.ws s.bl (n : Int) = (feed (padT n) s).ws := by
 obtain ⟨hh, hl⟩ := hin_of n h
 have hm : (s.n % 128).toNat = n % 128 := by rw [hn]; omega
 have hE := endb_of s.bl hbl n (n % 128) rfl
 have h3 : (s.bl.take (n % 128)).length = n % 128 := by rw [List.length_take]; omega
 have hlt : n % 128 < 128 := Nat.mod_lt _ (by omega)
 have htm : (n : Int).tmod 128 = ((n % 128 : Nat) : Int) := by rw [Int.tmod_eq_emod_of_nonneg (by omega)]; omega
 generalize hr : n % 128 = r at *
 unfold finw
 rw [htm, hE]
 by_cases hc : r < 112
 ·rw [if_neg (by omega)]
  have hk : padK0 n = 111 - r := by unfold padK0; rw [hr]; omega
  have hpl : (padT n).length = 128 - r := by rw [padT_len, hk]; omega
  rw [feed_chunk (padT n) s (by omega) hbl (by omega) (by unfold padT; simp), hm, if_pos (by omega), splice_full _ _ _ (by omega)]
  rw [show 127 - r = (111 - r) + 16 by omega, rep_add, ← List.cons_append, ← List.append_assoc, setlen_app _ (by simp; omega), hh, hl]
  unfold padT
  rw [hk]
  simp only [List.append_assoc, List.cons_append]
 ·rw [if_pos (by omega)]
  have hk : padK0 n = (127 - r) + 112 := by unfold padK0; rw [hr]; omega
  have hsplit : padT n = (128 :: List.replicate (127 - r) 0) ++ (List.replicate 112 0 ++ (be8 0 ++ be8 (8 * (n : Int)))) := by
   unfold padT
   rw [hk, rep_add]
   simp only [List.append_assoc, List.cons_append]
  have hl1 : (128 :: List.replicate (127 - r) (0 : Int)).length = 128 - r := by simp; omega
  have hl2 : (List.replicate 112 (0 : Int) ++ (be8 0 ++ be8 (8 * (n : Int)))).length = 128 := by
   simp only [List.length_append, List.length_replicate, be8_len]
  have hs1 : splice s.bl r (128 :: List.replicate (127 - r) (0 : Int)) = s.bl.take r ++ 128 :: List.replicate (127 - r) 0 := splice_full _ _ _ (by omega)
  have hs2 : (s.bl.take r ++ 128 :: List.replicate (127 - r) (0 : Int)).length = 128 := by rw [List.length_append]; omega
  rw [hsplit, feed_append, feed_chunk (128 :: List.replicate (127 - r) 0) s (by omega) hbl (by omega) (by simp), hm, if_pos (by omega), hs1]
  rw [feed_chunk _ _ (by dsimp only; omega) hs2 (by dsimp only; omega) (by simp)]
  dsimp only
  have h0 : ((s.n + ((128 :: List.replicate (127 - r) (0 : Int)).length : Int)) % 128).toNat = 0 := by rw [hn, hl1]; omega
  rw [h0, if_pos (by omega), splice_full _ (List.replicate 112 (0 : Int) ++ (be8 0 ++ be8 (8 * (n : Int)))) 0 (by omega), List.take_zero, List.nil_append]
  have h9 : splice (s.bl.take r ++ 128 :: List.replicate (127 - r) (0 : Int)) 0 (List.replicate 128 0) = List.replicate 112 0 ++ List.replicate 16 0 := by
   rw [splice_full _ _ _ (by rw [hs2]; simp), ← rep_add]; rfl
  rw [h9, setlen_app _ (by simp), hh, hl]
theorem feed_bl0 (b : List Int) : (feed b st0).bl.length = 128 := by rw [feed_bl]; simp [st0]
theorem sha_pad (b : List Int) (h : b.length ≤ 1152921504606846976) : sha b = outb (feed (b ++ padT b.length) st0).ws := by
 have hn := feed_st0 b
 unfold sha sumL
 rw [if_pos rfl, feed_append, hn, finw_feed (feed b st0) b.length hn (feed_bl0 b) h]
theorem feed_block (p : List Int) (j : Nat) (h : 128 * j + 128 ≤ p.length) : (feed (p.take (128 * (j + 1))) st0).ws = compr (feed (p.take (128 * j)) st0).ws ((p.drop (128 * j)).take 128) := by
 have hs : p.take (128 * (j + 1)) = p.take (128 * j) ++ (p.drop (128 * j)).take 128 := by
  rw [show 128 * (j + 1) = 128 * j + 128 by omega, List.take_add]
 have hl : ((p.drop (128 * j)).take 128).length = 128 := by rw [List.length_take, List.length_drop]; omega
 have hl1 : (p.take (128 * j)).length = 128 * j := by rw [List.length_take]; omega
 have hn := feed_st0 (p.take (128 * j))
 have hb := feed_bl0 (p.take (128 * j))
 rw [hl1] at hn
 have hm : ((feed (p.take (128 * j)) st0).n % 128).toNat = 0 := by rw [hn]; omega
 rw [hs, feed_append, feed_chunk _ _ (by omega) hb (by omega) (by intro e; rw [e] at hl; simp at hl), hm, if_pos (by omega), splice_full _ _ _ (by omega), List.take_zero, List.nil_append]
end Go.Gx

/- The reference's hash. -/
namespace Go.Gx
open Go.Proofs Go.Sp
set_option linter.unusedVariables false
set_option maxRecDepth 100000

def L43 : Loops := [(3, ⟨[.any, .p 1000 0, .nsl, .sl 1001 0 1 ⟨true, 0⟩ ⟨true, 64⟩, .i .i64 ⟨false, 0⟩] ++ reps .any 12, gh4 ++ [(490, .world), (1000, .segs false [.arr .u8 64 false []]), (1001, .segs false [.rowI .u8 []])], 2000⟩)]
def vc43 (a : List Int) (K : List RV → List (Option (List Seg)) → Prop) (Q : Nat → List Pv → Prop) : Prop := fnVcG 0 Δ2 Tryd.f43 L43 [.arr .u8 64 false a] (gh4 ++ (490, .world) :: []) K Q
def lc43 (i : Int) (g g' a l : List Int) (K : List RV → List (Option (List Seg)) → Prop) (Q : Nat → List Pv → Prop) : Prop := loopVcG 0 Δ2 Tryd.f43 L43 3 [.z i, .l g, .l g', .l a, .l l] K Q
def L37 : Loops := [(3, ⟨[.ro 490 (.ints .u8) (.l []), .any, .p 1000 0, .sl 1001 0 1 ⟨true, 0⟩ ⟨false, 0⟩] ++ reps .any 61, gh4 ++ [(490, .world), (1000, .segs false [.arr .u8 64 false []]), (1001, .segs false [.rowI .u8 []])], 2000⟩),
 (9, ⟨[.any, .any, .p 1000 0, .sl 1001 0 1 ⟨true, 0⟩ ⟨false, 0⟩, .p 1002 0, .i .i64 ⟨false, 0⟩] ++ reps .any 59, gh4 ++ [(490, .world), (1000, .segs false [.arr .u8 64 false []]), (1001, .segs false [.rowI .u8 []]), (1002, .segs false [.arr .u64 8 false []])], 2000⟩)]
def vc37 (d : RO) (K : List RV → List (Option (List Seg)) → Prop) (Q : Nat → List Pv → Prop) : Prop := fnVcG 0 Δ2 Tryd.f37 L37 [.ro 490 (.ints .u8) d] (gh4 ++ (490, .world) :: []) K Q
def lc37a (d : RO) (z : Int) (g g' r l : List Int) (K : List RV → List (Option (List Seg)) → Prop) (Q : Nat → List Pv → Prop) : Prop := loopVcG 0 Δ2 Tryd.f37 L37 3 [.ro d, .z z, .l g, .l g', .l r, .l l] K Q
def lc37b (z i : Int) (g g' r l s : List Int) (K : List RV → List (Option (List Seg)) → Prop) (Q : Nat → List Pv → Prop) : Prop := loopVcG 0 Δ2 Tryd.f37 L37 9 [.z z, .z i, .l g, .l g', .l r, .l l, .l s] K Q
theorem vc43_eq : ∀ (a : List Int) (K : List RV → List (Option (List Seg)) → Prop) (Q : Nat → List Pv → Prop), vc43 a K Q = (Need ((0 : Int) ≤ 64 ∧ (64 : Int) ≤ 64 ∧ (64 : Int) ≤ 70368744177664) ∧ ForL .u8 (List.replicate 64 (0 : Int)) fun x1 => Same Tryd.f43 3 (itemsOf Tryd.f43 3) ∧ Q 3 [Pv.z 0, Pv.l K80, Pv.l K80, Pv.l a, Pv.l x1]) := by
 intros
 kernel_rfl
theorem lc43_eq : ∀ (i : Int) (g g' a l : List Int) (K : List RV → List (Option (List Seg)) → Prop) (Q : Nat → List Pv → Prop), lc43 i g g' a l K Q = ((decide (i < 64) = true → Need (0 ≤ i ∧ i < 64) ∧ Need (0 ≤ i ∧ i < 64) ∧ ForI .u8 (a.getD i.toNat 0) fun x1 => Need (0 ≤ i ∧ i < 64) ∧ Need (0 ≤ i ∧ i < ↑l.length) ∧ ForL .u8 (l.set i.toNat x1) fun x2 => ForI .i64 (IntKind.i64.wrap (i + 1)) fun x3 => Same Tryd.f43 3 (itemsOf Tryd.f43 3) ∧ Q 3 [Pv.z x3, Pv.l g, Pv.l g', Pv.l a, Pv.l x2]) ∧ (decide (i < 64) = false → Need ((64 : Int) ≤ ↑l.length) ∧ K [RV.row (Con.ints .u8 (List.take 64 (List.drop 0 l)))] [])) := by
 intros
 kernel_rfl
theorem vc37_eq : ∀ (d : RO) (K : List RV → List (Option (List Seg)) → Prop) (Q : Nat → List Pv → Prop), vc37 d K Q = (Need ((([] ++ roL d).length : Int) * 1 ≤ (70368744177664 : Int)) ∧ ForL .u8 ([] ++ roL d) fun x1 => ForN (([] ++ roL d).length : Int) fun x2 => Need (↑(x1 ++ List.take 1 (List.drop 0 [(128 : Int)])).length * (1 : Int) ≤ 70368744177664) ∧ Need (x2 = ↑x1.length) ∧ Need ((1 : Int) ≤ 1) ∧ ForL .u8 (x1 ++ List.take 1 (List.drop 0 [(128 : Int)])) fun x3 => ForN (↑(x1 ++ List.take 1 (List.drop 0 [(128 : Int)])).length) fun x4 => Same Tryd.f37 3 (itemsOf Tryd.f37 3) ∧ Q 3 [Pv.ro d, Pv.z x4, Pv.l K80, Pv.l K80, Pv.l (List.replicate 64 (0 : Int)), Pv.l x3]) := by
 intros
 kernel_rfl
theorem lc37a_eq : ∀ (d : RO) (z : Int) (g g' r l : List Int) (K : List RV → List (Option (List Seg)) → Prop) (Q : Nat → List Pv → Prop), lc37a d z g g' r l K Q = ForI .i64 (z.tmod (128 : Int)) fun x1 => ((x1 != (112 : Int)) = true → Need (↑(l ++ List.take 1 (List.drop 0 [(0 : Int)])).length * (1 : Int) ≤ 70368744177664) ∧ Need (z = ↑l.length) ∧ Need ((1 : Int) ≤ 1) ∧ ForL .u8 (l ++ List.take 1 (List.drop 0 [(0 : Int)])) fun x2 => ForN (↑(l ++ List.take 1 (List.drop 0 [(0 : Int)])).length) fun x3 => Same Tryd.f37 3 (itemsOf Tryd.f37 3) ∧ Q 3 [Pv.ro d, Pv.z x3, Pv.l g, Pv.l g', Pv.l r, Pv.l x2]) ∧ ((x1 != (112 : Int)) = false → ForL .u8 (be8 (0 : Int)) fun x4 => ForN (8 : Int) fun x5 => Need (↑(l ++ List.take x5.toNat (List.drop 0 x4)).length * (1 : Int) ≤ 70368744177664) ∧ Need (z = ↑l.length) ∧ Need (0 + x5 ≤ ↑x4.length) ∧ ForL .u8 (l ++ List.take x5.toNat (List.drop 0 x4)) fun x6 => ForN (↑(l ++ List.take x5.toNat (List.drop 0 x4)).length) fun x7 => ForI .u64 (IntKind.u64.wrap ((roL d).length : Int)) fun x8 => ForI .u64 (IntKind.u64.wrap (8 * x8)) fun x9 => ForL .u8 (be8 x9) fun x10 => ForN ((be8 x9).length : Int) fun x11 => Need (↑(x6 ++ List.take x11.toNat (List.drop 0 x10)).length * (1 : Int) ≤ 70368744177664) ∧ Need (x7 = ↑x6.length) ∧ Need (0 + x11 ≤ ↑x10.length) ∧ ForL .u8 (x6 ++ List.take x11.toNat (List.drop 0 x10)) fun x12 => ForN (↑(x6 ++ List.take x11.toNat (List.drop 0 x10)).length) fun x13 => Same Tryd.f37 9 (itemsOf Tryd.f37 9) ∧ Q 9 [Pv.z x13, Pv.z 0, Pv.l g, Pv.l g', Pv.l r, Pv.l x12, Pv.l [(7640891576956012808 : Int), (13503953896175478587 : Int), (4354685564936845355 : Int), (11912009170470909681 : Int), (5840696475078001361 : Int), (11170449401992604703 : Int), (2270897969802886507 : Int), (6620516959819538809 : Int)]]) := by
 intros
 kernel_rfl
theorem lc37b_eq : ∀ (z i : Int) (g g' r l s : List Int) (K : List RV → List (Option (List Seg)) → Prop) (Q : Nat → List Pv → Prop), lc37b z i g g' r l s K Q = ((decide (i < z) = true → Need ((0 : Int) + z ≤ ↑l.length) ∧ Need (0 ≤ i) ∧ Need (i + 128 ≤ ↑(roL (RO.l (List.take z.toNat (List.drop 0 l)))).length) ∧ ForA .u64 8 (compr s (List.take 128 (List.drop i.toNat (roL (RO.l (List.take z.toNat (List.drop 0 l))))))) fun x1 => ForI .i64 (IntKind.i64.wrap (i + 128)) fun x2 => Same Tryd.f37 9 (itemsOf Tryd.f37 9) ∧ Q 9 [Pv.z z, Pv.z x2, Pv.l g, Pv.l g', Pv.l r, Pv.l l, Pv.l x1]) ∧ (decide (i < z) = false → ForL .u8 (be8 (s.getD 0 0)) fun x3 => ForN (↑(be8 (s.getD 0 0)).length) fun x4 => Need ((0 : Int) ≤ 0 ∧ 0 < x4) ∧ Need ((0 : Nat) + (1 : Nat) * 0 < x3.length) ∧ Need ((0 : Int) ≤ 1 ∧ 1 < x4) ∧ Need ((0 : Nat) + (1 : Nat) * 1 < x3.length) ∧ Need ((0 : Int) ≤ 2 ∧ 2 < x4) ∧ Need ((0 : Nat) + (1 : Nat) * 2 < x3.length) ∧ Need ((0 : Int) ≤ 3 ∧ 3 < x4) ∧ Need ((0 : Nat) + (1 : Nat) * 3 < x3.length) ∧ Need ((0 : Int) ≤ 4 ∧ 4 < x4) ∧ Need ((0 : Nat) + (1 : Nat) * 4 < x3.length) ∧ Need ((0 : Int) ≤ 5 ∧ 5 < x4) ∧ Need ((0 : Nat) + (1 : Nat) * 5 < x3.length) ∧ Need ((0 : Int) ≤ 6 ∧ 6 < x4) ∧ Need ((0 : Nat) + (1 : Nat) * 6 < x3.length) ∧ Need ((0 : Int) ≤ 7 ∧ 7 < x4) ∧ Need ((0 : Nat) + (1 : Nat) * 7 < x3.length) ∧ ForL .u8 (be8 (s.getD 1 0)) fun x5 => ForN (↑(be8 (s.getD 1 0)).length) fun x6 => Need ((0 : Int) ≤ 0 ∧ 0 < x6) ∧ Need ((0 : Nat) + (1 : Nat) * 0 < x5.length) ∧ Need ((0 : Int) ≤ 1 ∧ 1 < x6) ∧ Need ((0 : Nat) + (1 : Nat) * 1 < x5.length) ∧ Need ((0 : Int) ≤ 2 ∧ 2 < x6) ∧ Need ((0 : Nat) + (1 : Nat) * 2 < x5.length) ∧ Need ((0 : Int) ≤ 3 ∧ 3 < x6) ∧ Need ((0 : Nat) + (1 : Nat) * 3 < x5.length) ∧ Need ((0 : Int) ≤ 4 ∧ 4 < x6) ∧ Need ((0 : Nat) + (1 : Nat) * 4 < x5.length) ∧ Need ((0 : Int) ≤ 5 ∧ 5 < x6) ∧ Need ((0 : Nat) + (1 : Nat) * 5 < x5.length) ∧ Need ((0 : Int) ≤ 6 ∧ 6 < x6) ∧ Need ((0 : Nat) + (1 : Nat) * 6 < x5.length) ∧ Need ((0 : Int) ≤ 7 ∧ 7 < x6) ∧ Need ((0 : Nat) + (1 : Nat) * 7 < x5.length) ∧ ForL .u8 (be8 (s.getD 2 0)) fun x7 => ForN (↑(be8 (s.getD 2 0)).length) fun x8 => Need ((0 : Int) ≤ 0 ∧ 0 < x8) ∧ Need ((0 : Nat) + (1 : Nat) * 0 < x7.length) ∧ Need ((0 : Int) ≤ 1 ∧ 1 < x8) ∧ Need ((0 : Nat) + (1 : Nat) * 1 < x7.length) ∧ Need ((0 : Int) ≤ 2 ∧ 2 < x8) ∧ Need ((0 : Nat) + (1 : Nat) * 2 < x7.length) ∧ Need ((0 : Int) ≤ 3 ∧ 3 < x8) ∧ Need ((0 : Nat) + (1 : Nat) * 3 < x7.length) ∧ Need ((0 : Int) ≤ 4 ∧ 4 < x8) ∧ Need ((0 : Nat) + (1 : Nat) * 4 < x7.length) ∧ Need ((0 : Int) ≤ 5 ∧ 5 < x8) ∧ Need ((0 : Nat) + (1 : Nat) * 5 < x7.length) ∧ Need ((0 : Int) ≤ 6 ∧ 6 < x8) ∧ Need ((0 : Nat) + (1 : Nat) * 6 < x7.length) ∧ Need ((0 : Int) ≤ 7 ∧ 7 < x8) ∧ Need ((0 : Nat) + (1 : Nat) * 7 < x7.length) ∧ ForL .u8 (be8 (s.getD 3 0)) fun x9 => ForN (↑(be8 (s.getD 3 0)).length) fun x10 => Need ((0 : Int) ≤ 0 ∧ 0 < x10) ∧ Need ((0 : Nat) + (1 : Nat) * 0 < x9.length) ∧ Need ((0 : Int) ≤ 1 ∧ 1 < x10) ∧ Need ((0 : Nat) + (1 : Nat) * 1 < x9.length) ∧ Need ((0 : Int) ≤ 2 ∧ 2 < x10) ∧ Need ((0 : Nat) + (1 : Nat) * 2 < x9.length) ∧ Need ((0 : Int) ≤ 3 ∧ 3 < x10) ∧ Need ((0 : Nat) + (1 : Nat) * 3 < x9.length) ∧ Need ((0 : Int) ≤ 4 ∧ 4 < x10) ∧ Need ((0 : Nat) + (1 : Nat) * 4 < x9.length) ∧ Need ((0 : Int) ≤ 5 ∧ 5 < x10) ∧ Need ((0 : Nat) + (1 : Nat) * 5 < x9.length) ∧ Need ((0 : Int) ≤ 6 ∧ 6 < x10) ∧ Need ((0 : Nat) + (1 : Nat) * 6 < x9.length) ∧ Need ((0 : Int) ≤ 7 ∧ 7 < x10) ∧ Need ((0 : Nat) + (1 : Nat) * 7 < x9.length) ∧ ForL .u8 (be8 (s.getD 4 0)) fun x11 => ForN (↑(be8 (s.getD 4 0)).length) fun x12 => Need ((0 : Int) ≤ 0 ∧ 0 < x12) ∧ Need ((0 : Nat) + (1 : Nat) * 0 < x11.length) ∧ Need ((0 : Int) ≤ 1 ∧ 1 < x12) ∧ Need ((0 : Nat) + (1 : Nat) * 1 < x11.length) ∧ Need ((0 : Int) ≤ 2 ∧ 2 < x12) ∧ Need ((0 : Nat) + (1 : Nat) * 2 < x11.length) ∧ Need ((0 : Int) ≤ 3 ∧ 3 < x12) ∧ Need ((0 : Nat) + (1 : Nat) * 3 < x11.length) ∧ Need ((0 : Int) ≤ 4 ∧ 4 < x12) ∧ Need ((0 : Nat) + (1 : Nat) * 4 < x11.length) ∧ Need ((0 : Int) ≤ 5 ∧ 5 < x12) ∧ Need ((0 : Nat) + (1 : Nat) * 5 < x11.length) ∧ Need ((0 : Int) ≤ 6 ∧ 6 < x12) ∧ Need ((0 : Nat) + (1 : Nat) * 6 < x11.length) ∧ Need ((0 : Int) ≤ 7 ∧ 7 < x12) ∧ Need ((0 : Nat) + (1 : Nat) * 7 < x11.length) ∧ ForL .u8 (be8 (s.getD 5 0)) fun x13 => ForN (↑(be8 (s.getD 5 0)).length) fun x14 => Need ((0 : Int) ≤ 0 ∧ 0 < x14) ∧ Need ((0 : Nat) + (1 : Nat) * 0 < x13.length) ∧ Need ((0 : Int) ≤ 1 ∧ 1 < x14) ∧ Need ((0 : Nat) + (1 : Nat) * 1 < x13.length) ∧ Need ((0 : Int) ≤ 2 ∧ 2 < x14) ∧ Need ((0 : Nat) + (1 : Nat) * 2 < x13.length) ∧ Need ((0 : Int) ≤ 3 ∧ 3 < x14) ∧ Need ((0 : Nat) + (1 : Nat) * 3 < x13.length) ∧ Need ((0 : Int) ≤ 4 ∧ 4 < x14) ∧ Need ((0 : Nat) + (1 : Nat) * 4 < x13.length) ∧ Need ((0 : Int) ≤ 5 ∧ 5 < x14) ∧ Need ((0 : Nat) + (1 : Nat) * 5 < x13.length) ∧ Need ((0 : Int) ≤ 6 ∧ 6 < x14) ∧ Need ((0 : Nat) + (1 : Nat) * 6 < x13.length) ∧ Need ((0 : Int) ≤ 7 ∧ 7 < x14) ∧ Need ((0 : Nat) + (1 : Nat) * 7 < x13.length) ∧ ForL .u8 (be8 (s.getD 6 0)) fun x15 => ForN (↑(be8 (s.getD 6 0)).length) fun x16 => Need ((0 : Int) ≤ 0 ∧ 0 < x16) ∧ Need ((0 : Nat) + (1 : Nat) * 0 < x15.length) ∧ Need ((0 : Int) ≤ 1 ∧ 1 < x16) ∧ Need ((0 : Nat) + (1 : Nat) * 1 < x15.length) ∧ Need ((0 : Int) ≤ 2 ∧ 2 < x16) ∧ Need ((0 : Nat) + (1 : Nat) * 2 < x15.length) ∧ Need ((0 : Int) ≤ 3 ∧ 3 < x16) ∧ Need ((0 : Nat) + (1 : Nat) * 3 < x15.length) ∧ Need ((0 : Int) ≤ 4 ∧ 4 < x16) ∧ Need ((0 : Nat) + (1 : Nat) * 4 < x15.length) ∧ Need ((0 : Int) ≤ 5 ∧ 5 < x16) ∧ Need ((0 : Nat) + (1 : Nat) * 5 < x15.length) ∧ Need ((0 : Int) ≤ 6 ∧ 6 < x16) ∧ Need ((0 : Nat) + (1 : Nat) * 6 < x15.length) ∧ Need ((0 : Int) ≤ 7 ∧ 7 < x16) ∧ Need ((0 : Nat) + (1 : Nat) * 7 < x15.length) ∧ ForL .u8 (be8 (s.getD 7 0)) fun x17 => ForN (↑(be8 (s.getD 7 0)).length) fun x18 => Need ((0 : Int) ≤ 0 ∧ 0 < x18) ∧ Need ((0 : Nat) + (1 : Nat) * 0 < x17.length) ∧ Need ((0 : Int) ≤ 1 ∧ 1 < x18) ∧ Need ((0 : Nat) + (1 : Nat) * 1 < x17.length) ∧ Need ((0 : Int) ≤ 2 ∧ 2 < x18) ∧ Need ((0 : Nat) + (1 : Nat) * 2 < x17.length) ∧ Need ((0 : Int) ≤ 3 ∧ 3 < x18) ∧ Need ((0 : Nat) + (1 : Nat) * 3 < x17.length) ∧ Need ((0 : Int) ≤ 4 ∧ 4 < x18) ∧ Need ((0 : Nat) + (1 : Nat) * 4 < x17.length) ∧ Need ((0 : Int) ≤ 5 ∧ 5 < x18) ∧ Need ((0 : Nat) + (1 : Nat) * 5 < x17.length) ∧ Need ((0 : Int) ≤ 6 ∧ 6 < x18) ∧ Need ((0 : Nat) + (1 : Nat) * 6 < x17.length) ∧ Need ((0 : Int) ≤ 7 ∧ 7 < x18) ∧ Need ((0 : Nat) + (1 : Nat) * 7 < x17.length) ∧ K [RV.v (SV.arr .u8 64 false (((((((((((((((((((((((((((((((((((((((((((((((((((((((((((((((((List.replicate 64 (0 : Int)).set (0 : Nat) (x3.getD ((0 : Nat) + (1 : Nat) * (0 : Nat)) (0 : Int))).set (1 : Nat) (x3.getD ((0 : Nat) + (1 : Nat) * (1 : Nat)) (0 : Int))).set (2 : Nat) (x3.getD ((0 : Nat) + (1 : Nat) * (2 : Nat)) (0 : Int))).set (3 : Nat) (x3.getD ((0 : Nat) + (1 : Nat) * (3 : Nat)) (0 : Int))).set (4 : Nat) (x3.getD ((0 : Nat) + (1 : Nat) * (4 : Nat)) (0 : Int))).set (5 : Nat) (x3.getD ((0 : Nat) + (1 : Nat) * (5 : Nat)) (0 : Int))).set (6 : Nat) (x3.getD ((0 : Nat) + (1 : Nat) * (6 : Nat)) (0 : Int))).set (7 : Nat) (x3.getD ((0 : Nat) + (1 : Nat) * (7 : Nat)) (0 : Int))).set (8 : Nat) (x5.getD ((0 : Nat) + (1 : Nat) * (0 : Nat)) (0 : Int))).set (9 : Nat) (x5.getD ((0 : Nat) + (1 : Nat) * (1 : Nat)) (0 : Int))).set (10 : Nat) (x5.getD ((0 : Nat) + (1 : Nat) * (2 : Nat)) (0 : Int))).set (11 : Nat) (x5.getD ((0 : Nat) + (1 : Nat) * (3 : Nat)) (0 : Int))).set (12 : Nat) (x5.getD ((0 : Nat) + (1 : Nat) * (4 : Nat)) (0 : Int))).set (13 : Nat) (x5.getD ((0 : Nat) + (1 : Nat) * (5 : Nat)) (0 : Int))).set (14 : Nat) (x5.getD ((0 : Nat) + (1 : Nat) * (6 : Nat)) (0 : Int))).set (15 : Nat) (x5.getD ((0 : Nat) + (1 : Nat) * (7 : Nat)) (0 : Int))).set (16 : Nat) (x7.getD ((0 : Nat) + (1 : Nat) * (0 : Nat)) (0 : Int))).set (17 : Nat) (x7.getD ((0 : Nat) + (1 : Nat) * (1 : Nat)) (0 : Int))).set (18 : Nat) (x7.getD ((0 : Nat) + (1 : Nat) * (2 : Nat)) (0 : Int))).set (19 : Nat) (x7.getD ((0 : Nat) + (1 : Nat) * (3 : Nat)) (0 : Int))).set (20 : Nat) (x7.getD ((0 : Nat) + (1 : Nat) * (4 : Nat)) (0 : Int))).set (21 : Nat) (x7.getD ((0 : Nat) + (1 : Nat) * (5 : Nat)) (0 : Int))).set (22 : Nat) (x7.getD ((0 : Nat) + (1 : Nat) * (6 : Nat)) (0 : Int))).set (23 : Nat) (x7.getD ((0 : Nat) + (1 : Nat) * (7 : Nat)) (0 : Int))).set (24 : Nat) (x9.getD ((0 : Nat) + (1 : Nat) * (0 : Nat)) (0 : Int))).set (25 : Nat) (x9.getD ((0 : Nat) + (1 : Nat) * (1 : Nat)) (0 : Int))).set (26 : Nat) (x9.getD ((0 : Nat) + (1 : Nat) * (2 : Nat)) (0 : Int))).set (27 : Nat) (x9.getD ((0 : Nat) + (1 : Nat) * (3 : Nat)) (0 : Int))).set (28 : Nat) (x9.getD ((0 : Nat) + (1 : Nat) * (4 : Nat)) (0 : Int))).set (29 : Nat) (x9.getD ((0 : Nat) + (1 : Nat) * (5 : Nat)) (0 : Int))).set (30 : Nat) (x9.getD ((0 : Nat) + (1 : Nat) * (6 : Nat)) (0 : Int))).set (31 : Nat) (x9.getD ((0 : Nat) + (1 : Nat) * (7 : Nat)) (0 : Int))).set (32 : Nat) (x11.getD ((0 : Nat) + (1 : Nat) * (0 : Nat)) (0 : Int))).set (33 : Nat) (x11.getD ((0 : Nat) + (1 : Nat) * (1 : Nat)) (0 : Int))).set (34 : Nat) (x11.getD ((0 : Nat) + (1 : Nat) * (2 : Nat)) (0 : Int))).set (35 : Nat) (x11.getD ((0 : Nat) + (1 : Nat) * (3 : Nat)) (0 : Int))).set (36 : Nat) (x11.getD ((0 : Nat) + (1 : Nat) * (4 : Nat)) (0 : Int))).set (37 : Nat) (x11.getD ((0 : Nat) + (1 : Nat) * (5 : Nat)) (0 : Int))).set (38 : Nat) (x11.getD ((0 : Nat) + (1 : Nat) * (6 : Nat)) (0 : Int))).set (39 : Nat) (x11.getD ((0 : Nat) + (1 : Nat) * (7 : Nat)) (0 : Int))).set (40 : Nat) (x13.getD ((0 : Nat) + (1 : Nat) * (0 : Nat)) (0 : Int))).set (41 : Nat) (x13.getD ((0 : Nat) + (1 : Nat) * (1 : Nat)) (0 : Int))).set (42 : Nat) (x13.getD ((0 : Nat) + (1 : Nat) * (2 : Nat)) (0 : Int))).set (43 : Nat) (x13.getD ((0 : Nat) + (1 : Nat) * (3 : Nat)) (0 : Int))).set (44 : Nat) (x13.getD ((0 : Nat) + (1 : Nat) * (4 : Nat)) (0 : Int))).set (45 : Nat) (x13.getD ((0 : Nat) + (1 : Nat) * (5 : Nat)) (0 : Int))).set (46 : Nat) (x13.getD ((0 : Nat) + (1 : Nat) * (6 : Nat)) (0 : Int))).set (47 : Nat) (x13.getD ((0 : Nat) + (1 : Nat) * (7 : Nat)) (0 : Int))).set (48 : Nat) (x15.getD ((0 : Nat) + (1 : Nat) * (0 : Nat)) (0 : Int))).set (49 : Nat) (x15.getD ((0 : Nat) + (1 : Nat) * (1 : Nat)) (0 : Int))).set (50 : Nat) (x15.getD ((0 : Nat) + (1 : Nat) * (2 : Nat)) (0 : Int))).set (51 : Nat) (x15.getD ((0 : Nat) + (1 : Nat) * (3 : Nat)) (0 : Int))).set (52 : Nat) (x15.getD ((0 : Nat) + (1 : Nat) * (4 : Nat)) (0 : Int))).set (53 : Nat) (x15.getD ((0 : Nat) + (1 : Nat) * (5 : Nat)) (0 : Int))).set (54 : Nat) (x15.getD ((0 : Nat) + (1 : Nat) * (6 : Nat)) (0 : Int))).set (55 : Nat) (x15.getD ((0 : Nat) + (1 : Nat) * (7 : Nat)) (0 : Int))).set (56 : Nat) (x17.getD ((0 : Nat) + (1 : Nat) * (0 : Nat)) (0 : Int))).set (57 : Nat) (x17.getD ((0 : Nat) + (1 : Nat) * (1 : Nat)) (0 : Int))).set (58 : Nat) (x17.getD ((0 : Nat) + (1 : Nat) * (2 : Nat)) (0 : Int))).set (59 : Nat) (x17.getD ((0 : Nat) + (1 : Nat) * (3 : Nat)) (0 : Int))).set (60 : Nat) (x17.getD ((0 : Nat) + (1 : Nat) * (4 : Nat)) (0 : Int))).set (61 : Nat) (x17.getD ((0 : Nat) + (1 : Nat) * (5 : Nat)) (0 : Int))).set (62 : Nat) (x17.getD ((0 : Nat) + (1 : Nat) * (6 : Nat)) (0 : Int))).set (63 : Nat) (x17.getD ((0 : Nat) + (1 : Nat) * (7 : Nat)) (0 : Int))))] [])) := by
 intros
 kernel_rfl

theorem copy_set (a z : List Int) (i : Nat) (h : i < a.length) (hz : i < z.length) : (a.take i ++ z.drop i).set i (a.getD i 0) = a.take (i + 1) ++ z.drop (i + 1) := by
 have h1 : (a.take i).length = i := by rw [List.length_take]; omega
 rw [set_right _ _ 0 _ i (by omega), List.drop_eq_getElem_cons hz, List.set_cons_zero, List.take_add_one, List.getElem?_eq_getElem h, List.append_assoc]
 simp [List.getD, h]
def inv43 (a : List Int) (key : Nat) (ps : List Pv) (mm : Nat) : Prop :=
 key = 3 ∧ ∃ i : Nat, i ≤ 64 ∧ ps = [.z (i : Int), .l K80, .l K80, .l a, .l (a.take i ++ (List.replicate 64 0).drop i)] ∧ mm = 64 - i
def bytesG : List AV → Option (List Prop × List RV × List (Option (List Seg)))
 | [.v (.arr .u8 64 _ a)] => some ([], [.row (.ints .u8 a)], [])
 | _ => none
theorem bytesG_ok : CallOk Tryd.prog gh4 43 (genCtr [.v] bytesG) := by
 refine call_gen (fn := Tryd.f43) Δ2_ok rfl glow4 rfl (by kernel_rfl) (by kernel_rfl) _ bytesG fun av p rvs fin hs hp hf => ?_
 unfold bytesG at hs
 split at hs
 ·rename_i e a
  simp only [Option.some.injEq, Prod.mk.injEq] at hs
  obtain ⟨rfl, rfl, rfl⟩ := hs
  obtain ⟨⟨ha, _⟩, _⟩ := hf
  refine ⟨[.arr .u8 64 false a], [], L43, inv43 a, ⟨rfl, trivial⟩, Nat.le_of_ble_eq_true (by kernel_rfl), ?_, ?_, ?_⟩
  ·intro kk t ht g hg
   have hg : g ∈ [0, 1, 2, 3, 490] := hg
   simp only [List.mem_cons, List.not_mem_nil, or_false] at hg
   simp only [L43, List.mem_cons, List.not_mem_nil, or_false, Prod.mk.injEq] at ht
   obtain ⟨rfl, rfl⟩ := ht
   rcases hg with rfl | rfl | rfl | rfl | rfl <;> exact ⟨by omega, rfl⟩
  ·rintro vk t ps mm ht ⟨rfl, i, hi, rfl, rfl⟩
   simp only [L43, List.mem_cons, List.not_mem_nil, or_false, Prod.mk.injEq] at ht
   obtain ⟨_, rfl⟩ := ht
   show lc43 (i : Int) K80 K80 a (a.take i ++ (List.replicate 64 0).drop i) _ _
   rw [lc43_eq]
   have hl : (a.take i ++ (List.replicate 64 (0 : Int)).drop i).length = 64 := by
    rw [List.length_append, List.length_take, List.length_drop, List.length_replicate]; omega
   refine ⟨fun hlt => ?_, fun hge => ?_⟩
   ·have hlt := of_decide_eq_true hlt
    refine ⟨need_of (by omega), need_of (by omega), ?_⟩
    intro x1 e1 _
    refine ⟨need_of (by omega), need_of (by omega), ?_⟩
    intro x2 e2 _ x3 e3 _
    rw [wrap_i64 (by omega)] at e3
    rw [e1, Int.toNat_natCast, copy_set a _ i (by omega) (by simp; omega)] at e2
    rw [e2, e3]
    exact ⟨rfl, 64 - (i + 1), by omega, rfl, i + 1, by omega, rfl, rfl⟩
   ·have hge := of_decide_eq_false hge
    obtain rfl : i = 64 := by omega
    refine ⟨need_of (by omega), ⟨⟨rfl, ?_⟩, trivial⟩, trivial⟩
    show List.take 64 (List.drop 0 _) = a
    rw [List.drop_zero, List.drop_of_length_le (by simp), List.append_nil, List.take_take, List.take_of_length_le (by omega)]
  ·show vc43 a _ _
   rw [vc43_eq]
   refine ⟨need_of (by omega), ?_⟩
   intro x1 e1 _
   rw [e1]
   exact ⟨rfl, 64 - 0, rfl, 0, by omega, rfl, rfl⟩
 ·cases hs
def padP (b : List Int) (k : Nat) : List Int := b ++ 128 :: List.replicate k 0
theorem padP_len (b : List Int) (k : Nat) : (padP b k).length = b.length + 1 + k := by
 unfold padP
 rw [List.length_append, List.length_cons, List.length_replicate]; omega
theorem padP_succ (b : List Int) (k : Nat) : padP b k ++ [0] = padP b (k + 1) := by
 unfold padP
 rw [List.append_assoc, List.cons_append, show [(0 : Int)] = List.replicate 1 0 from rfl, List.replicate_append_replicate]
theorem padP_full (b : List Int) : padP b (padK0 b.length) ++ be8 0 ++ be8 (8 * (b.length : Int)) = b ++ padT b.length := by
 unfold padP padT
 simp only [List.append_assoc, List.cons_append]
def inv37 (d : RO) (p : List Int) (key : Nat) (ps : List Pv) (mm : Nat) : Prop :=
 (key = 3 ∧ ∃ k : Nat, k ≤ padK0 (roL d).length ∧ ps = [.ro d, .z ((padP (roL d) k).length : Int), .l K80, .l K80, .l (List.replicate 64 0), .l (padP (roL d) k)] ∧ mm = p.length + 1 + (padK0 (roL d).length - k)) ∨
 (key = 9 ∧ ∃ j : Nat, 128 * j ≤ p.length ∧ ps = [.z (p.length : Int), .z ((128 * j : Nat) : Int), .l K80, .l K80, .l (List.replicate 64 0), .l p, .l (feed (p.take (128 * j)) st0).ws] ∧ mm = p.length - 128 * j)
def hashG : List AV → Option (List Prop × List RV × List (Option (List Seg)))
 | [.d (.ints .u8) d] => some ([((roL d).length : Int) ≤ 70368744177000], [.v (.arr .u8 64 false (sha (roL d)))], [])
 | _ => none
set_option maxHeartbeats 2000000 in
theorem hashG_ok : CallOk Tryd.prog gh4 37 (genCtr [.d (.ints .u8)] hashG) := by
 refine call_gen (fn := Tryd.f37) Δ2_ok rfl glow4 rfl (by kernel_rfl) (by kernel_rfl) _ hashG fun av p rvs fin hs hp hf => ?_
 unfold hashG at hs
 split at hs
 ·rename_i d
  simp only [Option.some.injEq, Prod.mk.injEq] at hs
  obtain ⟨rfl, rfl, rfl⟩ := hs
  have hd : ((roL d).length : Int) ≤ 70368744177000 := hp.1
  obtain ⟨p, hpp⟩ : ∃ p, roL d ++ padT (roL d).length = p := ⟨_, rfl⟩
  have hk128 : padK0 (roL d).length < 128 := Nat.mod_lt _ (by omega)
  have hk112 : ((roL d).length + 1 + padK0 (roL d).length) % 128 = 112 := by unfold padK0; omega
  have hpl : p.length = (roL d).length + (padK0 (roL d).length + 17) := by rw [← hpp, List.length_append, padT_len]
  have hp128 : p.length % 128 = 0 := by omega
  refine ⟨[.ro 490 (.ints .u8) d], [], L37, inv37 d p, ⟨rfl, trivial⟩, Nat.le_of_ble_eq_true (by kernel_rfl), ?_, ?_, ?_⟩
  ·intro kk t ht g hg
   have hg : g ∈ [0, 1, 2, 3, 490] := hg
   simp only [List.mem_cons, List.not_mem_nil, or_false] at hg
   simp only [L37, List.mem_cons, List.not_mem_nil, or_false, Prod.mk.injEq] at ht
   obtain ⟨rfl, rfl⟩ | ⟨rfl, rfl⟩ := ht <;> rcases hg with rfl | rfl | rfl | rfl | rfl <;> exact ⟨by omega, rfl⟩
  ·rintro vk t ps mm ht (⟨rfl, k, hk, rfl, rfl⟩ | ⟨rfl, j, hj, rfl, rfl⟩)
   all_goals simp only [L37, List.mem_cons, List.not_mem_nil, or_false, Prod.mk.injEq, Nat.reduceEqDiff, false_and, true_and, false_or, or_false] at ht
   ·subst ht
    have hl := padP_len (roL d) k
    have hl2 := padP_len (roL d) (k + 1)
    show lc37a d ((padP (roL d) k).length : Int) K80 K80 (List.replicate 64 0) (padP (roL d) k) _ _
    rw [lc37a_eq]
    intro x1 e1 _
    rw [Int.tmod_eq_emod_of_nonneg (by omega)] at e1
    rw [show List.take 1 (List.drop 0 [(0 : Int)]) = [0] from rfl, padP_succ]
    refine ⟨fun h => ?_, fun h => ?_⟩
    ·have h : x1 ≠ 112 := by simpa using h
     have hk' : k < padK0 (roL d).length := by
      rcases Nat.lt_or_ge k (padK0 (roL d).length) with h9 | h9
      ·exact h9
      ·exfalso
       obtain rfl : k = padK0 (roL d).length := by omega
       omega
     refine ⟨need_of (by omega), need_of rfl, need_of (by omega), ?_⟩
     intro x2 e2 _ x3 e3 _ _
     subst e2; subst e3
     exact ⟨rfl, p.length + 1 + (padK0 (roL d).length - (k + 1)), by omega, Or.inl ⟨rfl, k + 1, by omega, rfl, rfl⟩⟩
    ·have h : x1 = 112 := by simpa using h
     have hk' : k = padK0 (roL d).length := by omega
     intro x4 e4 _ x5 e5 _ _
     subst e4; subst e5
     rw [show List.take (8 : Int).toNat (List.drop 0 (be8 0)) = be8 0 from rfl]
     have hl6 : (padP (roL d) k ++ be8 0).length = (padP (roL d) k).length + 8 := by rw [List.length_append, be8_len]
     refine ⟨need_of (by omega), need_of rfl, need_of (by rw [be8_len]; omega), ?_⟩
     intro x6 e6 _ x7 e7 _ _ x8 e8 _ x9 e9 _ x10 e10 _ x11 e11 _ _
     subst e6; subst e7
     have hw : IntKind.u64.wrap (((roL d).length : Nat) : Int) = ((roL d).length : Int) := wrap_of_InR (show 0 ≤ (((roL d).length : Nat) : Int) ∧ (((roL d).length : Nat) : Int) < 18446744073709551616 by omega)
     rw [hw] at e8
     have hw2 : IntKind.u64.wrap (8 * x8) = 8 * x8 := wrap_of_InR (show 0 ≤ 8 * x8 ∧ 8 * x8 < 18446744073709551616 by omega)
     rw [hw2, e8] at e9
     rw [e9] at e10
     rw [be8_len] at e11
     subst e11; subst e10
     rw [show List.take (((8 : Nat) : Int)).toNat (List.drop 0 (be8 (8 * ((roL d).length : Int)))) = be8 (8 * ((roL d).length : Int)) from rfl]
     have hfull : padP (roL d) k ++ be8 0 ++ be8 (8 * ((roL d).length : Int)) = p := by rw [hk', padP_full, hpp]
     rw [hfull]
     refine ⟨need_of (by omega), need_of rfl, need_of (by rw [be8_len]; omega), ?_⟩
     intro x12 e12 _ x13 e13 _ _
     rw [e13, e12]
     exact ⟨rfl, p.length - 128 * 0, by omega, Or.inr ⟨rfl, 0, by omega, rfl, rfl⟩⟩
   ·subst ht
    show lc37b (p.length : Int) ((128 * j : Nat) : Int) K80 K80 (List.replicate 64 0) p (feed (p.take (128 * j)) st0).ws _ _
    rw [lc37b_eq]
    refine ⟨fun hlt => ?_, fun hge => ?_⟩
    ·have hlt := of_decide_eq_true hlt
     have hj1 : 128 * j + 128 ≤ p.length := by omega
     have hb := feed_block p j hj1
     rw [roL_l, List.drop_zero, Int.toNat_natCast, Int.toNat_natCast, List.take_of_length_le (Nat.le_refl p.length), ← hb]
     refine ⟨need_of (by omega), need_of (by omega), need_of (by omega), ?_⟩
     intro x1 e1 _ _ x2 e2 _
     rw [wrap_i64 (by omega)] at e2
     refine ⟨rfl, p.length - 128 * (j + 1), by omega, Or.inr ⟨rfl, j + 1, by omega, ?_, rfl⟩⟩
     rw [e1, show x2 = ((128 * (j + 1) : Nat) : Int) by omega]
    ·have hge := of_decide_eq_false hge
     have hj2 : 128 * j = p.length := by omega
     have hfin : outb (feed (p.take (128 * j)) st0).ws = sha (roL d) := by
      rw [hj2, List.take_of_length_le (Nat.le_refl _), sha_pad (roL d) (by omega), hpp]
     generalize (feed (p.take (128 * j)) st0).ws = s at *
     intro x3 e3 _ x4 e4 _ _
     rw [be8_len] at e4
     subst e3
     subst e4
     refine ⟨need_of (by omega), need_of (by rw [be8_len]; omega), need_of (by omega), need_of (by rw [be8_len]; omega), need_of (by omega), need_of (by rw [be8_len]; omega), need_of (by omega), need_of (by rw [be8_len]; omega), need_of (by omega), need_of (by rw [be8_len]; omega), need_of (by omega), need_of (by rw [be8_len]; omega), need_of (by omega), need_of (by rw [be8_len]; omega), need_of (by omega), need_of (by rw [be8_len]; omega), ?_⟩
     intro x5 e5 _ x6 e6 _ _
     rw [be8_len] at e6
     subst e5
     subst e6
     refine ⟨need_of (by omega), need_of (by rw [be8_len]; omega), need_of (by omega), need_of (by rw [be8_len]; omega), need_of (by omega), need_of (by rw [be8_len]; omega), need_of (by omega), need_of (by rw [be8_len]; omega), need_of (by omega), need_of (by rw [be8_len]; omega), need_of (by omega), need_of (by rw [be8_len]; omega), need_of (by omega), need_of (by rw [be8_len]; omega), need_of (by omega), need_of (by rw [be8_len]; omega), ?_⟩
     intro x7 e7 _ x8 e8 _ _
     rw [be8_len] at e8
     subst e7
     subst e8
     refine ⟨need_of (by omega), need_of (by rw [be8_len]; omega), need_of (by omega), need_of (by rw [be8_len]; omega), need_of (by omega), need_of (by rw [be8_len]; omega), need_of (by omega), need_of (by rw [be8_len]; omega), need_of (by omega), need_of (by rw [be8_len]; omega), need_of (by omega), need_of (by rw [be8_len]; omega), need_of (by omega), need_of (by rw [be8_len]; omega), need_of (by omega), need_of (by rw [be8_len]; omega), ?_⟩
     intro x9 e9 _ x10 e10 _ _
     rw [be8_len] at e10
     subst e9
     subst e10
     refine ⟨need_of (by omega), need_of (by rw [be8_len]; omega), need_of (by omega), need_of (by rw [be8_len]; omega), need_of (by omega), need_of (by rw [be8_len]; omega), need_of (by omega), need_of (by rw [be8_len]; omega), need_of (by omega), need_of (by rw [be8_len]; omega), need_of (by omega), need_of (by rw [be8_len]; omega), need_of (by omega), need_of (by rw [be8_len]; omega), need_of (by omega), need_of (by rw [be8_len]; omega), ?_⟩
     intro x11 e11 _ x12 e12 _ _
     rw [be8_len] at e12
     subst e11
     subst e12
     refine ⟨need_of (by omega), need_of (by rw [be8_len]; omega), need_of (by omega), need_of (by rw [be8_len]; omega), need_of (by omega), need_of (by rw [be8_len]; omega), need_of (by omega), need_of (by rw [be8_len]; omega), need_of (by omega), need_of (by rw [be8_len]; omega), need_of (by omega), need_of (by rw [be8_len]; omega), need_of (by omega), need_of (by rw [be8_len]; omega), need_of (by omega), need_of (by rw [be8_len]; omega), ?_⟩
     intro x13 e13 _ x14 e14 _ _
     rw [be8_len] at e14
     subst e13
     subst e14
     refine ⟨need_of (by omega), need_of (by rw [be8_len]; omega), need_of (by omega), need_of (by rw [be8_len]; omega), need_of (by omega), need_of (by rw [be8_len]; omega), need_of (by omega), need_of (by rw [be8_len]; omega), need_of (by omega), need_of (by rw [be8_len]; omega), need_of (by omega), need_of (by rw [be8_len]; omega), need_of (by omega), need_of (by rw [be8_len]; omega), need_of (by omega), need_of (by rw [be8_len]; omega), ?_⟩
     intro x15 e15 _ x16 e16 _ _
     rw [be8_len] at e16
     subst e15
     subst e16
     refine ⟨need_of (by omega), need_of (by rw [be8_len]; omega), need_of (by omega), need_of (by rw [be8_len]; omega), need_of (by omega), need_of (by rw [be8_len]; omega), need_of (by omega), need_of (by rw [be8_len]; omega), need_of (by omega), need_of (by rw [be8_len]; omega), need_of (by omega), need_of (by rw [be8_len]; omega), need_of (by omega), need_of (by rw [be8_len]; omega), need_of (by omega), need_of (by rw [be8_len]; omega), ?_⟩
     intro x17 e17 _ x18 e18 _ _
     rw [be8_len] at e18
     subst e17
     subst e18
     refine ⟨need_of (by omega), need_of (by rw [be8_len]; omega), need_of (by omega), need_of (by rw [be8_len]; omega), need_of (by omega), need_of (by rw [be8_len]; omega), need_of (by omega), need_of (by rw [be8_len]; omega), need_of (by omega), need_of (by rw [be8_len]; omega), need_of (by omega), need_of (by rw [be8_len]; omega), need_of (by omega), need_of (by rw [be8_len]; omega), need_of (by omega), need_of (by rw [be8_len]; omega), ?_⟩
     refine ⟨⟨?_, trivial⟩, trivial⟩
     show _ = sha (roL d)
     rw [← hfin]
     rfl
  ·show vc37 d _ _
   rw [vc37_eq, List.nil_append, show List.take 1 (List.drop 0 [(128 : Int)]) = [128] from rfl]
   have hl := padP_len (roL d) 0
   have hp0 : roL d ++ [128] = padP (roL d) 0 := rfl
   refine ⟨need_of (by omega), ?_⟩
   intro x1 e1 _ x2 e2 _ _
   subst e1; subst e2
   rw [hp0]
   refine ⟨need_of (by omega), need_of rfl, need_of (by omega), ?_⟩
   intro x3 e3 _ x4 e4 _ _
   subst e3; subst e4
   exact ⟨rfl, p.length + 1 + (padK0 (roL d).length - 0), Or.inl ⟨rfl, 0, by omega, rfl, rfl⟩⟩
 ·cases hs
def Δ3 : Tab := ⟨tys, (37, genCtr [.d (.ints .u8)] hashG) :: (43, genCtr [.v] bytesG) :: Δ2.ctr, [0, 1, 2, 3], gh4⟩
theorem Δ3_ok : TabOk Tryd.prog Δ3 := (Δ2_ok.cons bytesG_ok).cons hashG_ok
end Go.Gx

/- Lists that are handed in. -/
namespace Go.Gx
open Go.Proofs Go.Sp
set_option linter.unusedVariables false
set_option maxRecDepth 100000

def _root_.Go.Sp.marksL : List Int := [11, 12, 13, 14, 15, 16, 17, 18]
theorem marks_eq : bytesI (ByteArray.mk #[(11 : UInt8), (12 : UInt8), (13 : UInt8), (14 : UInt8), (15 : UInt8), (16 : UInt8), (17 : UInt8), (18 : UInt8)]) = marksL := by decide
theorem marks_len : (bytesI (ByteArray.mk #[(11 : UInt8), (12 : UInt8), (13 : UInt8), (14 : UInt8), (15 : UInt8), (16 : UInt8), (17 : UInt8), (18 : UInt8)])).length = 8 := by rw [marks_eq]; rfl
theorem toN0 : (0 : Int).toNat = 0 := rfl

def _root_.Go.Sp.rowsT (d : RO) (j : Nat) : List (List Int) := (List.range j).map fun i => roL (roN d i) ++ marksL
def _root_.Go.Sp.fullT (d : RO) (j : Nat) : Hdrs := (List.range j).map fun i => (i, (roL (roN d i)).length + 8)
def _root_.Go.Sp.headT (d : RO) (j : Nat) : Hdrs := (List.range j).map fun i => (i, (roL (roN d i)).length)
theorem rowsT_succ (d : RO) (j : Nat) : rowsT d (j + 1) = rowsT d j ++ [roL (roN d j) ++ marksL] := by simp [rowsT, List.range_succ]
theorem fullT_succ (d : RO) (j : Nat) : fullT d (j + 1) = fullT d j ++ [(j, (roL (roN d j)).length + 8)] := by simp [fullT, List.range_succ]
theorem headT_succ (d : RO) (j : Nat) : headT d (j + 1) = headT d j ++ [(j, (roL (roN d j)).length)] := by simp [headT, List.range_succ]
theorem rowsT_len (d : RO) (j : Nat) : (rowsT d j).length = j := by simp [rowsT]
theorem fullT_len (d : RO) (j : Nat) : (fullT d j).length = j := by simp [fullT]
theorem headT_len (d : RO) (j : Nat) : (headT d j).length = j := by simp [headT]

def Γe : Tab := ⟨tys, [], [], []⟩
def L16 : Loops := [(3, ⟨[.ro 490 (.l (.ints .u8)) (.r []), .any, .p 1000 0, .p 1002 0, .i .i64 ⟨false, 0⟩] ++ reps .any 40, [(490, .world), (1000, .segs false [.one .nsl, .one .nsl]), (1002, .segs false [.one .nsl, .one .nsl])], 2000⟩),
 (1003, ⟨[.ro 490 (.l (.ints .u8)) (.r []), .any, .p 1000 0, .p 1002 0, .i .i64 ⟨false, 0⟩] ++ reps .any 40, [(490, .world), (1000, .segs false [.one .nsl, .one .nsl]), (1002, .segs false [.one (.sl 1005 0 1 ⟨true, 0⟩ ⟨false, 0⟩), .one (.sl 1006 0 1 ⟨true, 0⟩ ⟨false, 0⟩)]), (1005, .segs false [.rowH 1007 []]), (1006, .segs false [.rowH 1007 []]), (1007, .pool (.k .u8) [])], 2000⟩)]
def vc16 (d : RO) (KV : Hdrs → Hdrs → List (List Int) → Prop) (Q : Nat → List Pv → Prop) : Prop := fnVcX Γe Tryd.f16 L16 [.ro 490 (.l (.ints .u8)) d] ([] ++ [(490, .world)]) (fun x h => kvH2 .u8 x h KV) Q
def lc16a (d : RO) (i : Int) (KV : Hdrs → Hdrs → List (List Int) → Prop) (Q : Nat → List Pv → Prop) : Prop := loopVcX Γe Tryd.f16 L16 3 [.ro d, .z i] (fun x h => kvH2 .u8 x h KV) Q
def lc16b (d : RO) (i y z : Int) (hs gs : Hdrs) (ms : List (List Int)) (KV : Hdrs → Hdrs → List (List Int) → Prop) (Q : Nat → List Pv → Prop) : Prop := loopVcX Γe Tryd.f16 L16 1003 [.ro d, .z i, .z y, .z z, .hh hs, .hh gs, .ll ms] (fun x h => kvH2 .u8 x h KV) Q
theorem Γe_ok : TabOk Tryd.prog Γe := .nil mixed tys_ok
theorem vc16_eq : ∀ (d : RO) (KV : Hdrs → Hdrs → List (List Int) → Prop) (Q : Nat → List Pv → Prop), vc16 d KV Q = (Same Tryd.f16 3 (itemsOf Tryd.f16 3) ∧ Q 3 [Pv.ro d, Pv.z 0]) := by
 intros
 kernel_rfl
theorem lc16a_eq : ∀ (d : RO) (i : Int) (KV : Hdrs → Hdrs → List (List Int) → Prop) (Q : Nat → List Pv → Prop), lc16a d i KV Q = ((decide (i < ((roX d).length : Int)) = true → Need (0 ≤ i ∧ i < ((roX d).length : Int)) ∧ Need ((([] ++ roL (roN d i.toNat)).length : Int) * 1 ≤ (70368744177664 : Int)) ∧ ForL .u8 ([] ++ roL (roN d i.toNat)) fun x1 => ForN (([] ++ roL (roN d i.toNat)).length : Int) fun x2 => Need (((x1 ++ bytesI (ByteArray.mk #[11, 12, 13, 14, 15, 16, 17, 18])).length : Int) * 1 ≤ (70368744177664 : Int)) ∧ Need (x2 = ↑x1.length) ∧ ForL .u8 (x1 ++ bytesI (ByteArray.mk #[11, 12, 13, 14, 15, 16, 17, 18])) fun x3 => ForN ((x1 ++ bytesI (ByteArray.mk #[11, 12, 13, 14, 15, 16, 17, 18])).length : Int) fun x4 => Need ((24 : Int) ≤ 70368744177664) ∧ ∀ (x5 : List (List Int)), x5 = [x3] → ForN (1 : Int) fun x6 => Need (0 ≤ i ∧ i < ((roX d).length : Int)) ∧ Need ((0 : Int) ≤ 0 ∧ (0 : Int) ≤ ((roL (roN d i.toNat)).length : Int) ∧ ((roL (roN d i.toNat)).length : Int) ≤ x4) ∧ Need ((24 : Int) ≤ 70368744177664) ∧ ForN (1 : Int) fun x7 => ForI .i64 (IntKind.i64.wrap (i + 1)) fun x8 => Same Tryd.f16 3 (itemsOf Tryd.f16 3) ∧ Q 1003 [Pv.ro d, Pv.z x8, Pv.z x6, Pv.z x7, Pv.hh ([] ++ [((0 : Nat), x4.toNat)]), Pv.hh ([] ++ [((0 : Nat), (((roL (roN d i.toNat)).length : Int)).toNat)]), Pv.ll x5]) ∧ (decide (i < ((roX d).length : Int)) = false → Need ((24 : Int) ≤ 70368744177664) ∧ ∀ (x9 : List (List Int)), x9 = [[(11 : Int), (12 : Int), (13 : Int), (14 : Int), (15 : Int), (16 : Int), (17 : Int), (18 : Int)]] → ForN (1 : Int) fun x10 => Need (x10 = 1) ∧ KV [] ([] ++ [((0 : Nat), (8 : Nat))]) x9)) := by
 intros
 kernel_rfl
theorem lc16b_eq : ∀ (d : RO) (i y z : Int) (hs gs : Hdrs) (ms : List (List Int)) (KV : Hdrs → Hdrs → List (List Int) → Prop) (Q : Nat → List Pv → Prop), lc16b d i y z hs gs ms KV Q = ((decide (i < ((roX d).length : Int)) = true → Need (0 ≤ i ∧ i < ((roX d).length : Int)) ∧ Need ((([] ++ roL (roN d i.toNat)).length : Int) * 1 ≤ (70368744177664 : Int)) ∧ ForL .u8 ([] ++ roL (roN d i.toNat)) fun x1 => ForN (([] ++ roL (roN d i.toNat)).length : Int) fun x2 => Need (((x1 ++ bytesI (ByteArray.mk #[11, 12, 13, 14, 15, 16, 17, 18])).length : Int) * 1 ≤ (70368744177664 : Int)) ∧ Need (x2 = ↑x1.length) ∧ ForL .u8 (x1 ++ bytesI (ByteArray.mk #[11, 12, 13, 14, 15, 16, 17, 18])) fun x3 => ForN ((x1 ++ bytesI (ByteArray.mk #[11, 12, 13, 14, 15, 16, 17, 18])).length : Int) fun x4 => Need (↑(List.length hs + 1) * (24 : Int) ≤ 70368744177664) ∧ Need (y = ↑(List.length hs)) ∧ ∀ (x5 : List (List Int)), x5 = ms ++ [x3] → ForN (↑(List.length hs + 1)) fun x6 => Need (0 ≤ i ∧ i < ((roX d).length : Int)) ∧ Need ((0 : Int) ≤ 0 ∧ (0 : Int) ≤ ((roL (roN d i.toNat)).length : Int) ∧ ((roL (roN d i.toNat)).length : Int) ≤ x4) ∧ Need (↑(List.length gs + 1) * (24 : Int) ≤ 70368744177664) ∧ Need (z = ↑(List.length gs)) ∧ ForN (↑(List.length gs + 1)) fun x7 => ForI .i64 (IntKind.i64.wrap (i + 1)) fun x8 => Same Tryd.f16 3 (itemsOf Tryd.f16 3) ∧ Q 1003 [Pv.ro d, Pv.z x8, Pv.z x6, Pv.z x7, Pv.hh (hs ++ [(ms.length, x4.toNat)]), Pv.hh (gs ++ [(ms.length, (((roL (roN d i.toNat)).length : Int)).toNat)]), Pv.ll x5]) ∧ (decide (i < ((roX d).length : Int)) = false → Need (↑(List.length gs + 1) * (24 : Int) ≤ 70368744177664) ∧ Need (z = ↑(List.length gs)) ∧ ∀ (x9 : List (List Int)), x9 = ms ++ [[(11 : Int), (12 : Int), (13 : Int), (14 : Int), (15 : Int), (16 : Int), (17 : Int), (18 : Int)]] → ForN (↑(List.length gs + 1)) fun x10 => Need (y = ↑(List.length hs)) ∧ Need (x10 = ↑(gs ++ [(ms.length, (8 : Nat))]).length) ∧ KV hs (gs ++ [(ms.length, (8 : Nat))]) x9)) := by
 intros
 kernel_rfl

def _root_.Go.Sp.handP (d : RO) : List Prop := [∀ i, i < (roX d).length → ((roL (roN d i)).length : Int) + 8 ≤ 70368744177664, (((roX d).length + 1 : Nat) : Int) * 24 ≤ 70368744177664]
def handG : List AV → Option (List Prop × Hdrs × Hdrs × List (List Int))
 | [.d (.l (.ints .u8)) d] => some (handP d, fullT d (roX d).length, headT d (roX d).length ++ [((roX d).length, 8)], rowsT d (roX d).length ++ [marksL])
 | _ => none
def inv16 (d : RO) (key : Nat) (ps : List Pv) (mm : Nat) : Prop :=
 (key = 3 ∧ ps = [.ro d, .z 0] ∧ mm = (roX d).length + 1) ∨
 (key = 1003 ∧ ∃ j : Nat, 0 < j ∧ j ≤ (roX d).length ∧ ps = [.ro d, .z (j : Int), .z (j : Int), .z (j : Int), .hh (fullT d j), .hh (headT d j), .ll (rowsT d j)] ∧ mm = (roX d).length - j)
theorem handG_ok : CallOk Tryd.prog [] 16 (famCtr .u8 [.d (.l (.ints .u8))] handG) := by
 refine call_fam (Γ := Γe) (fn := Tryd.f16) Γe_ok rfl (fun g hg => by cases hg) rfl (by kernel_rfl) (by kernel_rfl) .u8 _ rfl handG fun av p hs gs rows hsp hp hf => ?_
 unfold handG at hsp
 split at hsp
 ·rename_i d
  simp only [Option.some.injEq, Prod.mk.injEq] at hsp
  obtain ⟨rfl, rfl, rfl, rfl⟩ := hsp
  obtain ⟨h1, h2, _⟩ := hp
  obtain ⟨⟨_, hlen⟩, _⟩ := hf
  refine ⟨[.ro 490 (.l (.ints .u8)) d], L16, inv16 d, ⟨rfl, trivial⟩, Nat.le_of_ble_eq_true (by kernel_rfl), ?_, ?_, ?_⟩
  ·intro kk t ht g hg
   have hg : g ∈ [490] := hg
   simp only [List.mem_cons, List.not_mem_nil, or_false] at hg
   subst hg
   simp only [L16, List.mem_cons, List.not_mem_nil, or_false, Prod.mk.injEq] at ht
   obtain ⟨rfl, rfl⟩ | ⟨rfl, rfl⟩ := ht <;> exact ⟨by omega, rfl⟩
  ·rintro vk t ps mm ht (⟨rfl, rfl, rfl⟩ | ⟨rfl, j, hj0, hj, rfl, rfl⟩)
   all_goals simp only [L16, List.mem_cons, List.not_mem_nil, or_false, Prod.mk.injEq, Nat.reduceEqDiff, false_and, true_and, false_or, or_false] at ht
   ·subst ht
    show lc16a d 0 _ _
    rw [lc16a_eq]
    refine ⟨fun hlt => ?_, fun hge => ?_⟩
    ·have hlt := of_decide_eq_true hlt
     have hjl : 0 < (roX d).length := by omega
     have hb := h1 0 hjl
     refine ⟨need_of (by omega), need_of (by rw [toN0]; simp; omega), ?_⟩
     intro x1 e1 _ x2 e2 _ _
     rw [toN0] at e1 e2
     rw [List.nil_append] at e1 e2
     subst e1; subst e2
     refine ⟨need_of (by rw [List.length_append, marks_len]; omega), need_of rfl, ?_⟩
     intro x3 e3 _ x4 e4 _ _
     rw [marks_eq] at e3 e4
     have el : (roL (roN d 0) ++ marksL).length = (roL (roN d 0)).length + 8 := by simp [marksL]
     rw [el] at e4
     subst e3; subst e4
     refine ⟨need_of (by omega), ?_⟩
     intro x5 e5 x6 e6 _ _
     refine ⟨need_of (by omega), need_of (by rw [toN0]; omega), need_of (by omega), ?_⟩
     intro x7 e7 _ _ x8 e8 _
     rw [wrap_i64 (by omega)] at e8
     rw [toN0]
     
     subst e5; subst e6; subst e7; subst e8
     refine ⟨rfl, (roX d).length - (0 + 1), by omega, Or.inr ⟨rfl, 0 + 1, by omega, by omega, ?_, rfl⟩⟩
     rw [fullT_succ, headT_succ, rowsT_succ]
     rfl
    ·have hge := of_decide_eq_false hge
     have h0 : (roX d).length = 0 := by omega
     refine ⟨need_of (by omega), ?_⟩
     intro x9 e9 x10 e10 _ _
     refine ⟨need_of e10, ?_⟩
     rw [h0, e9]
     exact ⟨rfl, rfl, rfl⟩
   ·subst ht
    show lc16b d (j : Int) (j : Int) (j : Int) (fullT d j) (headT d j) (rowsT d j) _ _
    rw [lc16b_eq]
    refine ⟨fun hlt => ?_, fun hge => ?_⟩
    ·have hlt := of_decide_eq_true hlt
     have hjl : j < (roX d).length := by omega
     have hb := h1 j hjl
     refine ⟨need_of (by omega), need_of (by rw [Int.toNat_natCast]; simp; omega), ?_⟩
     intro x1 e1 _ x2 e2 _ _
     rw [Int.toNat_natCast] at e1 e2
     rw [List.nil_append] at e1 e2
     subst e1; subst e2
     refine ⟨need_of (by rw [List.length_append, marks_len]; omega), need_of rfl, ?_⟩
     intro x3 e3 _ x4 e4 _ _
     rw [marks_eq] at e3 e4
     have el : (roL (roN d j) ++ marksL).length = (roL (roN d j)).length + 8 := by simp [marksL]
     rw [el] at e4
     subst e3; subst e4
     refine ⟨need_of (by rw [fullT_len]; omega), need_of (by rw [fullT_len]), ?_⟩
     intro x5 e5 x6 e6 _ _
     refine ⟨need_of (by omega), need_of (by rw [Int.toNat_natCast]; omega), need_of (by rw [headT_len]; omega), need_of (by rw [headT_len]), ?_⟩
     intro x7 e7 _ _ x8 e8 _
     rw [wrap_i64 (by omega)] at e8
     rw [Int.toNat_natCast]
     rw [fullT_len] at e6; rw [headT_len] at e7; rw [rowsT_len]
     subst e5; subst e6; subst e7; subst e8
     refine ⟨rfl, (roX d).length - (j + 1), by omega, Or.inr ⟨rfl, j + 1, by omega, by omega, ?_, rfl⟩⟩
     rw [fullT_succ, headT_succ, rowsT_succ]
     rfl
    ·have hge := of_decide_eq_false hge
     obtain rfl : j = (roX d).length := by omega
     refine ⟨need_of (by rw [headT_len]; omega), need_of (by rw [headT_len]), ?_⟩
     intro x9 e9 x10 e10 _ _
     refine ⟨need_of (by rw [fullT_len]), need_of (by rw [e10, headT_len, List.length_append, headT_len]; rfl), rfl, ?_, ?_⟩
     ·rw [rowsT_len]
     ·rw [e9]; rfl
  ·show vc16 d _ _
   rw [vc16_eq]
   exact ⟨rfl, _, Or.inl ⟨rfl, rfl, rfl⟩⟩
 ·cases hsp
end Go.Gx

/- What is handed in, handed on; turned in its place. -/
namespace Go.Gx
open Go.Proofs Go.Sp
set_option linter.unusedVariables false
set_option maxRecDepth 100000

def vc17 (n m : Int) (KV : SV → Prop) (Q : Nat → List Pv → Prop) : Prop := fnVcX Γe Tryd.f17 [] (givenA n m) givenH (fun x _ => KV x) Q
theorem vc17_eq : ∀ (n m : Int) (KV : SV → Prop) (Q : Nat → List Pv → Prop), vc17 n m KV Q = (Need ((0 : Int) ≤ 0 ∧ 0 ≤ n ∧ n ≤ m) ∧ KV (SV.sl (602 : Nat) (0 : Nat) (1 : Nat) { st := true, z := (0 : Int) } { st := false, z := n })) := by
 intros
 kernel_rfl

theorem given_ok : CallOk Tryd.prog [] 17 givenCtr := by
 refine call_given (Γ := Γe) (fn := Tryd.f17) Γe_ok rfl rfl rfl (by kernel_rfl) (by kernel_rfl) fun n m h1 h2 => ⟨Nat.le_of_ble_eq_true (by kernel_rfl), vcX_noloops ?_⟩
 show vc17 n m (fun x => ∃ z : Int, x = .sl 602 0 1 ⟨true, .ofNat 0⟩ ⟨false, z⟩ ∧ z = n) _
 rw [vc17_eq]
 exact ⟨need_of ⟨by omega, by omega, h2⟩, n, rfl, rfl⟩

/-! ### turned -/

def _root_.Go.Sp.hs2 (gs : Hdrs) (i : Nat) : Hdrs := (List.range i).map fun r => (r, (gs.getD r (0, 0)).2)
end Go.Gx

/- What was handed in stays; one list handed in. -/
namespace Go.Gx
open Go.Proofs Go.Sp
set_option linter.unusedVariables false
set_option maxRecDepth 100000

theorem ofB_append (a b : List Int) : ofBytesI (a ++ b) = ofBytesI a ++ ofBytesI b := by
 apply ByteArray.ext
 rw [ByteArray.data_append]
 simp [ofBytesI]
theorem marksB : ofBytesI marksL = (ByteArray.mk #[(11 : UInt8), (12 : UInt8), (13 : UInt8), (14 : UInt8), (15 : UInt8), (16 : UInt8), (17 : UInt8), (18 : UInt8)]) := by rfl
theorem ofB_size (l : List Int) : (ofBytesI l).size = l.length := by simp [ofBytesI, ByteArray.size]

def Γf : Tab := ⟨tys, [(16, famCtr .u8 [.d (.l (.ints .u8))] handG)], [], []⟩
def shH : Sh := .r [.l (.ints .u8), .l (.ints .u8)]
def L19 : Loops := [(4, ⟨[.any, .ro 490 (.l (.ints .u8)) (.r []), .p 1000 0, .any, .any, .i .i64 ⟨false, 0⟩] ++ reps .any 50, [(490, .world), (1000, .segs false [.one (.ro 490 (.l (.ints .u8)) (.r [])), .one (.ro 490 (.l (.ints .u8)) (.r []))])], 2000⟩)]
def vc19 (h d : RO) (K : List RV → List (Option (List Seg)) → Prop) (Q : Nat → List Pv → Prop) : Prop := fnVcG 0 Γe Tryd.f19 L19 [svOf 490 shH h, .ro 490 (.l (.ints .u8)) d] ([] ++ [(490, .world)]) K Q
def lc19 (d : RO) (i : Int) (f g : RO) (K : List RV → List (Option (List Seg)) → Prop) (Q : Nat → List Pv → Prop) : Prop := loopVcG 0 Γe Tryd.f19 L19 4 [.ro d, .z i, .ro f, .ro g] K Q
def vc29 (d : RO) (KV : Hdrs → Hdrs → List (List Int) → Prop) (Q : Nat → List Pv → Prop) : Prop := fnVcX Γf Tryd.f29 [] [.ro 490 (.ints .u8) d] ([] ++ [(490, .world)]) (fun x h => kvH2 .u8 x h KV) Q
theorem Γf_ok : TabOk Tryd.prog Γf := Γe_ok.cons handG_ok
theorem vc19_eq : ∀ (h d : RO) (K : List RV → List (Option (List Seg)) → Prop) (Q : Nat → List Pv → Prop), vc19 h d K Q = ForI .i64 (IntKind.i64.wrap (((roX d).length : Int) + 1)) fun x1 => ((↑(roX (roN h (1 : Nat))).length != x1) = true → K [RV.v (SV.b true false)] []) ∧ ((↑(roX (roN h (1 : Nat))).length != x1) = false → Need ((0 : Int) ≤ ((roX d).length : Int) ∧ ((roX d).length : Int) < ↑(roX (roN h (1 : Nat))).length) ∧ ((!(ofBytesI (roL (roN (roN h (1 : Nat)) (((roX d).length : Int)).toNat))).toList == (ByteArray.mk #[11, 12, 13, 14, 15, 16, 17, 18]).toList) = true → K [RV.v (SV.b true false)] []) ∧ ((!(ofBytesI (roL (roN (roN h (1 : Nat)) (((roX d).length : Int)).toNat))).toList == (ByteArray.mk #[11, 12, 13, 14, 15, 16, 17, 18]).toList) = false → Same Tryd.f19 4 (itemsOf Tryd.f19 4) ∧ Q 4 [Pv.ro d, Pv.z 0, Pv.ro (roN h (0 : Nat)), Pv.ro (roN h (1 : Nat))])) := by
 intros
 kernel_rfl
theorem lc19_eq : ∀ (d : RO) (i : Int) (f g : RO) (K : List RV → List (Option (List Seg)) → Prop) (Q : Nat → List Pv → Prop), lc19 d i f g K Q = ((decide (i < ((roX d).length : Int)) = true → Need (0 ≤ i ∧ i < ((roX f).length : Int)) ∧ Need (0 ≤ i ∧ i < ((roX d).length : Int)) ∧ Need (↑((ofBytesI (roL (roN d i.toNat))).size + (8 : Nat)) < (9223372036854775808 : Int)) ∧ ((!(ofBytesI (roL (roN f i.toNat))).toList == (ofBytesI (roL (roN d i.toNat)) ++ (ByteArray.mk #[11, 12, 13, 14, 15, 16, 17, 18])).toList) = true → K [RV.v (SV.b true false)] []) ∧ ((!(ofBytesI (roL (roN f i.toNat))).toList == (ofBytesI (roL (roN d i.toNat)) ++ (ByteArray.mk #[11, 12, 13, 14, 15, 16, 17, 18])).toList) = false → Need (0 ≤ i ∧ i < ((roX g).length : Int)) ∧ Need (0 ≤ i ∧ i < ((roX d).length : Int)) ∧ ((!(ofBytesI (roL (roN g i.toNat))).toList == (ofBytesI (roL (roN d i.toNat))).toList) = true → K [RV.v (SV.b true false)] []) ∧ ((!(ofBytesI (roL (roN g i.toNat))).toList == (ofBytesI (roL (roN d i.toNat))).toList) = false → ForI .i64 (IntKind.i64.wrap (i + 1)) fun x1 => Same Tryd.f19 4 (itemsOf Tryd.f19 4) ∧ Q 4 [Pv.ro d, Pv.z x1, Pv.ro f, Pv.ro g]))) ∧ (decide (i < ((roX d).length : Int)) = false → K [RV.v (SV.b true true)] [])) := by
 intros
 kernel_rfl
theorem vc29_eq : ∀ (d : RO) (KV : Hdrs → Hdrs → List (List Int) → Prop) (Q : Nat → List Pv → Prop), vc29 d KV Q = (Need (∀ (i : Nat), i < (roX (RO.r [d])).length → ↑(roL (roN (RO.r [d]) i)).length + (8 : Int) ≤ 70368744177664) ∧ Need (↑((roX (RO.r [d])).length + (1 : Nat)) * (24 : Int) ≤ 70368744177664) ∧ ∀ (x1 : List (List Int)), x1 = rowsT (RO.r [d]) (roX (RO.r [d])).length ++ [marksL] → ForN (↑(List.length (fullT (RO.r [d]) (roX (RO.r [d])).length))) fun x2 => ForN (↑(List.length (headT (RO.r [d]) (roX (RO.r [d])).length ++ [((roX (RO.r [d])).length, (8 : Nat))]))) fun x3 => Need (x2 = ↑(List.length (fullT (RO.r [d]) (roX (RO.r [d])).length))) ∧ Need (x3 = ↑(List.length (headT (RO.r [d]) (roX (RO.r [d])).length ++ [((roX (RO.r [d])).length, (8 : Nat))]))) ∧ KV (fullT (RO.r [d]) (roX (RO.r [d])).length) (headT (RO.r [d]) (roX (RO.r [d])).length ++ [((roX (RO.r [d])).length, (8 : Nat))]) x1) := by
 intros
 kernel_rfl

def _root_.Go.Sp.leftP (h d : RO) : List Prop := [(roX (roN h 1)).length = (roX d).length + 1 ∧ (roX (roN h 0)).length = (roX d).length ∧ roL (roN (roN h 1) (roX d).length) = marksL,
 ∀ i, i < (roX d).length → roL (roN (roN h 0) i) = roL (roN d i) ++ marksL ∧ roL (roN (roN h 1) i) = roL (roN d i) ∧ ((roL (roN d i)).length : Int) + 8 < 9223372036854775808]
def leftG : List AV → Option (List Prop × List RV × List (Option (List Seg)))
 | [.d (.r [.l (.ints .u8), .l (.ints .u8)]) h, .d (.l (.ints .u8)) d] => some (leftP h d, [.v (.b false true)], [])
 | _ => none
theorem left_ok : CallOk Tryd.prog [] 19 (genCtr [.d shH, .d (.l (.ints .u8))] leftG) := by
 refine call_gen (Γ := Γe) (fn := Tryd.f19) Γe_ok rfl (fun g hg => by cases hg) rfl (by kernel_rfl) (by kernel_rfl) _ leftG fun av p rvs fin hs hp hf => ?_
 unfold leftG at hs
 split at hs
 ·rename_i h d
  simp only [Option.some.injEq, Prod.mk.injEq] at hs
  obtain ⟨rfl, rfl, rfl⟩ := hs
  obtain ⟨⟨p1, p2, p3⟩, hrow, _⟩ := hp
  obtain ⟨⟨_, ⟨_, hl⟩, _⟩, _⟩ := hf
  have hl : ((roX (roN h 1)).length : Int) < 9223372036854775808 := hl
  refine ⟨[svOf 490 shH h, .ro 490 (.l (.ints .u8)) d], [], L19, fun key ps mm => key = 4 ∧ ∃ j : Nat, j ≤ (roX d).length ∧ ps = [.ro d, .z (j : Int), .ro (roN h 0), .ro (roN h 1)] ∧ mm = (roX d).length - j, ⟨rfl, rfl, trivial⟩, Nat.le_of_ble_eq_true (by kernel_rfl), ?_, ?_, ?_⟩
  ·intro kk t ht g hg
   have hg : g ∈ [490] := hg
   simp only [List.mem_cons, List.not_mem_nil, or_false] at hg
   subst hg
   simp only [L19, List.mem_cons, List.not_mem_nil, or_false, Prod.mk.injEq] at ht
   obtain ⟨rfl, rfl⟩ := ht
   exact ⟨by omega, rfl⟩
  ·rintro vk t ps mm ht ⟨rfl, j, hj, rfl, rfl⟩
   simp only [L19, List.mem_cons, List.not_mem_nil, or_false, Prod.mk.injEq] at ht
   obtain ⟨_, rfl⟩ := ht
   show lc19 d (j : Int) (roN h 0) (roN h 1) _ _
   rw [lc19_eq]
   refine ⟨fun hlt => ?_, fun hge => ?_⟩
   ·have hlt := of_decide_eq_true hlt
    obtain ⟨a1, a2, a3⟩ := hrow j (by omega)
    rw [Int.toNat_natCast, a1, a2, ofB_append, marksB, ofB_size]
    refine ⟨need_of (by omega), need_of (by omega), need_of (by omega), fun hc => by simp at hc, fun _ => ⟨need_of (by omega), need_of (by omega), fun hc => by simp at hc, fun _ => ?_⟩⟩
    intro x1 e1 _
    rw [wrap_i64 (by omega)] at e1
    subst e1
    exact ⟨rfl, (roX d).length - (j + 1), by omega, rfl, j + 1, by omega, rfl, rfl⟩
   ·exact ⟨⟨rfl, trivial⟩, trivial⟩
  ·show vc19 h d _ _
   rw [vc19_eq]
   intro x1 e1 _
   rw [wrap_i64 (by omega)] at e1
   rw [Int.toNat_natCast, p3, marksB]
   refine ⟨fun hc => ?_, fun _ => ⟨need_of (by omega), fun hc => by simp at hc, fun _ => ⟨rfl, _, rfl, 0, Nat.zero_le _, rfl, rfl⟩⟩⟩
   rw [bne_iff_ne] at hc
   exact absurd (by rw [e1, p1]; rfl) hc
 ·cases hs
def oneG : List AV → Option (List Prop × Hdrs × Hdrs × List (List Int))
 | [.d (.ints .u8) d] => handG [.d (.l (.ints .u8)) (.r [d])]
 | _ => none
theorem one_ok : CallOk Tryd.prog [] 29 (famCtr .u8 [.d (.ints .u8)] oneG) := by
 refine call_fam (Γ := Γf) (fn := Tryd.f29) Γf_ok rfl (fun g hg => by cases hg) rfl (by kernel_rfl) (by kernel_rfl) .u8 _ rfl oneG fun av p hs gs rows hsp hp hf => ?_
 unfold oneG at hsp
 split at hsp
 ·rename_i d
  unfold handG at hsp
  simp only [Option.some.injEq, Prod.mk.injEq] at hsp
  obtain ⟨rfl, rfl, rfl, rfl⟩ := hsp
  obtain ⟨h1, h2, _⟩ := hp
  refine ⟨[.ro 490 (.ints .u8) d], [], _, ⟨rfl, trivial⟩, Nat.le_of_ble_eq_true (by kernel_rfl), vcX_noloops ?_⟩
  show vc29 d _ _
  rw [vc29_eq]
  refine ⟨need_of h1, need_of h2, ?_⟩
  intro x1 e1 x2 e2 _ _ x3 e3 _ _
  refine ⟨need_of e2, need_of e3, rfl, rfl, ?_⟩
  exact e1
 ·cases hsp
end Go.Gx

/- What is handed in, as it is seen. -/
namespace Go.Gx
open Go.Proofs Go.Sp
set_option linter.unusedVariables false
set_option maxRecDepth 100000

def _root_.Go.Sp.hx (d : RO) : List RO := (List.range (roX d).length).map fun i => RO.l (roL (roN d i))
theorem hx_len (d : RO) : (hx d).length = (roX d).length := by simp [hx]
theorem rN_map (f : Nat → RO) (n i : Nat) (h : i < n) (l : List RO) : roN (RO.r ((List.range n).map f ++ l)) i = f i := by
 show ((List.range n).map f ++ l).getD i (RO.r []) = f i
 rw [List.getD_eq_getElem?_getD, List.getElem?_append_left (by simpa using h)]
 simp [h]

section
variable (d : RO)

theorem rows_at (i : Nat) (h : i < (roX d).length) (l : List (List Int)) : (rowsT d (roX d).length ++ l).getD i [] = roL (roN d i) ++ marksL := by
 rw [List.getD_eq_getElem?_getD, List.getElem?_append_left (by rw [rowsT_len]; exact h)]
 simp [rowsT, h]
theorem rows_last (l : List Int) : (rowsT d (roX d).length ++ [l]).getD (roX d).length [] = l := by
 rw [List.getD_eq_getElem?_getD, List.getElem?_append_right (by rw [rowsT_len]; exact Nat.le_refl _), rowsT_len, Nat.sub_self]; rfl
theorem heads_length : (headT d (roX d).length ++ [((roX d).length, 8)]).length = (roX d).length + 1 := by rw [List.length_append, headT_len]; rfl
theorem heads_all : List.take ((roX d).length + 1) (List.drop 0 (headT d (roX d).length ++ [((roX d).length, 8)])) = headT d (roX d).length ++ [((roX d).length, 8)] := by
 rw [List.drop_zero, List.take_of_length_le (by rw [heads_length]; exact Nat.le_refl _)]
theorem full_all : List.take (roX d).length (List.drop 0 (fullT d (roX d).length)) = fullT d (roX d).length := by
 rw [List.drop_zero, List.take_of_length_le (by rw [fullT_len]; exact Nat.le_refl _)]
theorem heads_at (i : Nat) (h : i < (roX d).length) : (headT d (roX d).length ++ [((roX d).length, 8)]).getD i (0, 0) = (i, (roL (roN d i)).length) := by
 rw [List.getD_eq_getElem?_getD, List.getElem?_append_left (by rw [headT_len]; exact h)]
 simp [headT, h]
theorem head_map (f : Nat × Nat → RO) : (headT d (roX d).length).map f = (List.range (roX d).length).map fun i => f (i, (roL (roN d i)).length) := by simp [headT]
theorem full_map (f : Nat × Nat → RO) : (fullT d (roX d).length).map f = (List.range (roX d).length).map fun i => f (i, (roL (roN d i)).length + 8) := by simp [fullT]
theorem range_congr {n : Nat} {f g : Nat → RO} (h : ∀ i, i < n → f i = g i) : (List.range n).map f = (List.range n).map g :=
 List.map_congr_left fun i hi => h i (List.mem_range.1 hi)

theorem v_head : List.map (fun h : Nat × Nat => RO.l (List.take h.snd ((rowsT d (roX d).length ++ [marksL]).getD h.fst []))) (headT d (roX d).length) = hx d := by
 rw [head_map, hx]
 refine range_congr fun i hi => ?_
 show RO.l (List.take (roL (roN d i)).length ((rowsT d (roX d).length ++ [marksL]).getD i [])) = _
 rw [rows_at d i hi, List.take_left]
theorem v_full : List.map (fun h : Nat × Nat => RO.l (List.take h.snd ((rowsT d (roX d).length ++ [marksL]).getD h.fst []))) (fullT d (roX d).length) = (List.range (roX d).length).map fun i => RO.l (roL (roN d i) ++ marksL) := by
 rw [full_map]
 refine range_congr fun i hi => ?_
 show RO.l (List.take ((roL (roN d i)).length + 8) ((rowsT d (roX d).length ++ [marksL]).getD i [])) = _
 rw [rows_at d i hi, List.take_of_length_le]
 rw [List.length_append]; exact Nat.le_refl _
theorem v_all : List.map (fun h : Nat × Nat => RO.l (List.take h.snd ((rowsT d (roX d).length ++ [marksL]).getD h.fst []))) (headT d (roX d).length ++ [((roX d).length, 8)]) = hx d ++ [RO.l marksL] := by
 rw [List.map_append, v_head, List.map_cons, List.map_nil, rows_last]; rfl
theorem b_head : ∀ h : Nat × Nat, h ∈ headT d (roX d).length → h.snd ≤ ((rowsT d (roX d).length ++ [marksL]).getD h.fst []).length := by
 intro h hh
 simp only [headT, List.mem_map, List.mem_range] at hh
 obtain ⟨i, hi, rfl⟩ := hh
 rw [rows_at d i hi, List.length_append]; exact Nat.le_add_right _ _
theorem b_full : ∀ h : Nat × Nat, h ∈ fullT d (roX d).length → h.snd ≤ ((rowsT d (roX d).length ++ [marksL]).getD h.fst []).length := by
 intro h hh
 simp only [fullT, List.mem_map, List.mem_range] at hh
 obtain ⟨i, hi, rfl⟩ := hh
 rw [rows_at d i hi, List.length_append]; exact Nat.le_refl _
theorem b_all : ∀ h : Nat × Nat, h ∈ headT d (roX d).length ++ [((roX d).length, 8)] → h.snd ≤ ((rowsT d (roX d).length ++ [marksL]).getD h.fst []).length := by
 intro h hh
 rcases List.mem_append.1 hh with hh | hh
 ·exact b_head d h hh
 ·simp only [List.mem_singleton] at hh
  subst hh
  rw [rows_last]; exact Nat.le_refl _

theorem l_1 : (roX (roN (RO.r [RO.r ((List.range (roX d).length).map fun i => RO.l (roL (roN d i) ++ marksL)), RO.r (hx d ++ [RO.l marksL])]) 1)).length = (roX d).length + 1 ∧
  (roX (roN (RO.r [RO.r ((List.range (roX d).length).map fun i => RO.l (roL (roN d i) ++ marksL)), RO.r (hx d ++ [RO.l marksL])]) 0)).length = (roX d).length ∧
  roL (roN (roN (RO.r [RO.r ((List.range (roX d).length).map fun i => RO.l (roL (roN d i) ++ marksL)), RO.r (hx d ++ [RO.l marksL])]) 1) (roX d).length) = marksL := by
 refine ⟨?_, ?_, ?_⟩
 ·show (hx d ++ [RO.l marksL]).length = _
  rw [List.length_append, hx_len]; rfl
 ·show (List.map _ _).length = _
  simp
 ·show roL ((hx d ++ [RO.l marksL]).getD (roX d).length (RO.r [])) = _
  rw [List.getD_eq_getElem?_getD, List.getElem?_append_right (by rw [hx_len]; exact Nat.le_refl _), hx_len, Nat.sub_self]; rfl
theorem l_2 (hb : ∀ i, i < (roX d).length → ((roL (roN d i)).length : Int) + 8 ≤ 70368744177664) : ∀ i, i < (roX d).length →
  roL (roN (roN (RO.r [RO.r ((List.range (roX d).length).map fun i => RO.l (roL (roN d i) ++ marksL)), RO.r (hx d ++ [RO.l marksL])]) 0) i) = roL (roN d i) ++ marksL ∧
  roL (roN (roN (RO.r [RO.r ((List.range (roX d).length).map fun i => RO.l (roL (roN d i) ++ marksL)), RO.r (hx d ++ [RO.l marksL])]) 1) i) = roL (roN d i) ∧ ((roL (roN d i)).length : Int) + 8 < 9223372036854775808 := by
 intro i hi
 refine ⟨?_, ?_, by have := hb i hi; omega⟩
 ·have := rN_map (fun i => RO.l (roL (roN d i) ++ marksL)) (roX d).length i hi []
  rw [List.append_nil] at this
  show roL (roN (RO.r ((List.range (roX d).length).map fun i => RO.l (roL (roN d i) ++ marksL))) i) = _
  rw [this]; rfl
 ·show roL (roN (RO.r (hx d ++ [RO.l marksL])) i) = _
  rw [hx, rN_map _ _ i hi]; rfl

end
end Go.Gx

/- The table with what is handed in. -/
namespace Go.Gx
open Go.Proofs Go.Sp
set_option linter.unusedVariables false
set_option maxRecDepth 100000

def Δ7 : Tab := ⟨tys, (29, famCtr .u8 [.d (.ints .u8)] oneG) :: (19, genCtr [.d shH, .d (.l (.ints .u8))] leftG) :: (17, givenCtr) :: Δ3.ctr, [0, 1, 2, 3], gh4⟩
theorem Δ7_ok : TabOk Tryd.prog Δ7 := ((Δ3_ok.cons (CallOk.mono (fun _ h => by cases h) given_ok)).cons (CallOk.mono (fun _ h => by cases h) left_ok)).cons (CallOk.mono (fun _ h => by cases h) one_ok)
end Go.Gx

/- The table with states and boxes of lists. -/
namespace Go.Gx
open Go.Proofs Go.Sp
set_option linter.unusedVariables false
set_option maxRecDepth 100000

def Δ8 : Tab := ⟨tys, (23, recCtr tsS [.d (.ints .u8)] writeG) :: (24, recCtr tsS [] rsizeG) :: (26, recCtr tsS [] cloneG) :: (27, recCtr tsS [] rsum1G) :: (28, recCtr tsS [] rresetG) :: (38, boxCtr [.d (.ints .u8)] dwriteG) :: (39, boxCtr [] dcloneG) :: Δ7.ctr, [0, 1, 2, 3], gh4⟩
theorem Δ8_ok : TabOk Tryd.prog Δ8 :=
 have n : ∀ x ∈ ([] : Heap), x ∈ gh4 := fun _ h => by cases h
 ((((((Δ7_ok.cons (CallOk.mono n dclone_ok)).cons (CallOk.mono n dwrite_ok)).cons (CallOk.mono gh_sub rresetR_ok)).cons (CallOk.mono gh_sub rsum1R_ok)).cons (CallOk.mono gh_sub cloneR_ok)).cons (CallOk.mono gh_sub rsizeR_ok)).cons (CallOk.mono gh_sub writeR_ok)
end Go.Gx

/- What the lists of states and of boxes hold. -/
namespace Go.Gx
open Go.Proofs Go.Sp
set_option linter.unusedVariables false

theorem addw_len : ∀ {a b : List Int}, a.length = b.length → (addw a b).length = a.length
 | [], [], _ => rfl
 | x :: r, y :: t, h => by
  rw [addw, List.length_cons, List.length_cons, addw_len (by simpa using h)]
 | [], _ :: _, h => by simp at h
 | _ :: _, [], h => by simp at h
theorem compr_len {ws bl : List Int} (h : ws.length = 8) : (compr ws bl).length = 8 := by
 unfold compr
 rw [addw_len (by rw [rnds_len _ _ h, h]), h]
theorem feed_ws : ∀ (b : List Int) (s : HS), s.ws.length = 8 → (feed b s).ws.length = 8
 | [], s, h => h
 | c :: r, s, h => by
  rw [feed]
  refine feed_ws r _ ?_
  unfold stp
  split
  ·exact compr_len h
  ·exact h
def _root_.Go.Sp.fst (b : List Int) : HS := feed b st0
def stL (b : List Int) : List Int := (fst b).ws ++ ((fst b).bl ++ [(fst b).n, 1])
theorem fst_ws (b : List Int) : (fst b).ws.length = 8 := feed_ws b st0 rfl
theorem fst_bl (b : List Int) : (fst b).bl.length = 128 := feed_bl b st0
theorem fst_n (b : List Int) : (fst b).n = (b.length : Int) := by
 unfold fst
 rw [feed_n]
 show (0 : Int) + _ = _
 omega
theorem fst_app (a b : List Int) : feed b (fst a) = fst (a ++ b) := (feed_append a b st0).symm
theorem st_take (b : List Int) : List.take 8 (stL b) = (fst b).ws := by
 unfold stL; rw [← fst_ws b]; exact List.take_left
theorem st_drop (b : List Int) : List.drop 8 (stL b) = (fst b).bl ++ [(fst b).n, 1] := by
 unfold stL; rw [← fst_ws b]; exact List.drop_left
theorem st_take2 (b : List Int) : List.take 128 ((fst b).bl ++ [(fst b).n, 1]) = (fst b).bl := by
 rw [← fst_bl b]; exact List.take_left
theorem st_drop2 (b : List Int) : List.drop 128 ((fst b).bl ++ [(fst b).n, 1]) = [(fst b).n, 1] := by
 rw [← fst_bl b]; exact List.drop_left
def mkS (T : List (List Int)) : List (List Int) := T.map stL
theorem mkS_len (T : List (List Int)) : (mkS T).length = T.length := List.length_map ..
theorem mkS_app (T : List (List Int)) (b : List Int) : mkS T ++ [stL b] = mkS (T ++ [b]) := by simp [mkS]
theorem mkS_set (T : List (List Int)) (r : Nat) (b : List Int) : (mkS T).set r (stL b) = mkS (T.set r b) := (List.map_set ..).symm
theorem mkS_at {T : List (List Int)} {r : Nat} (hr : r < T.length) : (mkS T).getD r [] = stL (T.getD r []) := by
 rw [List.getD_eq_getElem?_getD, List.getD_eq_getElem?_getD]; simp [mkS, hr]
theorem set_self {T : List (List Int)} {r : Nat} (hr : r < T.length) : T.set r (T.getD r []) = T := by
 rw [List.getD_eq_getElem?_getD, List.getElem?_eq_getElem hr]; exact List.set_getElem_self hr
theorem at_mem {T : List (List Int)} {r : Nat} (hr : r < T.length) : T.getD r [] ∈ T := by
 rw [List.getD_eq_getElem?_getD, List.getElem?_eq_getElem hr]; exact List.getElem_mem hr
def Most (n : Nat) (T : List (List Int)) : Prop := ∀ b ∈ T, b.length ≤ n
theorem Most.app {n m : Nat} {T : List (List Int)} {b : List Int} (h : Most n T) (hn : n ≤ m) (hb : b.length ≤ m) : Most m (T ++ [b]) := fun x hx => by
 rcases List.mem_append.1 hx with hx | hx
 ·exact Nat.le_trans (h x hx) hn
 ·rw [List.mem_singleton.1 hx]; exact hb
theorem Most.set {n m : Nat} {T : List (List Int)} {r : Nat} {b : List Int} (h : Most n T) (hn : n ≤ m) (hb : b.length ≤ m) : Most m (T.set r b) := fun x hx => by
 rcases List.mem_or_eq_of_mem_set hx with hx | rfl
 ·exact Nat.le_trans (h x hx) hn
 ·exact hb
theorem Most.up {n m : Nat} {T : List (List Int)} (h : Most n T) (hn : n ≤ m) : Most m T := fun x hx => Nat.le_trans (h x hx) hn
end Go.Gx
