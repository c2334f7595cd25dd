/- TranscriptNil: of nil transcripts and scripts, and of those that none made, nothing comes; a new transcript's state is the document's. For labels and parts that are not more than the second form's bound. The tables lie as the program's text lays them. -/
import Derived.Test.YthgclfedhgmpiaaDoorM5
import Derived.Test.YthgclfedhgmpiaaDoorM3
import Derived.Test.YthgclfedhgmpiaaDoorCards
import Derived.Test.YthgclfedhgmpiaaDoorTie
import Derived.WalkKit
import Derived.ProofKit
import Derived.OpenShut
import Derived.Carry
import Derived.Deep.DeepHandedRow
import Derived.Lib.LaidTab
import Derived.ChangeSlices
import Derived.SizedLaws
import Derived.Stop.LaidErr
import Derived.Test.YthgclfedhgmpiaaDoorM4
import Derived.Test.YthgclfedhgmpiaaDoorRows

/- Of nil: nothing comes of them. -/
namespace Go.Gx
open Go.Proofs Go.Sp
set_option linter.unusedVariables false
set_option maxRecDepth 100000

def hTS (st : List Int) : List (Nat × SB) := [(600, .segs false [.arr .u8 64 false st, .one (.b false false)]), (601, .segs false [.one .nsl, .one .nsl, .one (.b false false)])]
def vc32n (s : ByteArray) (d : RO) (K : List RV → List (Option (List Seg)) → Prop) (Q : Nat → List Pv → Prop) : Prop := fnVcG 0 Λ5 Tryd.f32 [] [.np, .np, .s s, .ro 490 (.l (.ints .u8)) d] (gh4 ++ (490, .world) :: []) K Q
def vc32m (st : List Int) (s : ByteArray) (d : RO) (K : List RV → List (Option (List Seg)) → Prop) (Q : Nat → List Pv → Prop) : Prop := fnVcG 2 Λ5 Tryd.f32 [] [.p 600 0, .p 601 0, .s s, .ro 490 (.l (.ints .u8)) d] (gh4 ++ (490, .world) :: hTS st) K Q
theorem vc32n_eq : ∀ (s : ByteArray) (d : RO) (K : List RV → List (Option (List Seg)) → Prop) (Q : Nat → List Pv → Prop), vc32n s d K Q = ∀ (x1 : Int), x1 = (0 : Int) → InR IntKind.u64 x1 → ∀ (x2 : Int), x2 = (0 : Int) → InR IntKind.u64 x2 → ∀ (x3 : Int), x3 = (0 : Int) → InR IntKind.u64 x3 → ∀ (x4 : Int), x4 = (0 : Int) → InR IntKind.u64 x4 → ∀ (x5 : Int), x5 = (0 : Int) → InR IntKind.u64 x5 → ∀ (x6 : Int), x6 = (0 : Int) → InR IntKind.u64 x6 → ∀ (x7 : Int), x7 = (0 : Int) → InR IntKind.u64 x7 → ∀ (x8 : Int), x8 = (0 : Int) → InR IntKind.u64 x8 → ((![x1, x2, x3, x4] == [(0 : Int), (0 : Int), (0 : Int), (0 : Int)]) = true → K [RV.v (SV.b true false)] []) ∧ ((![x1, x2, x3, x4] == [(0 : Int), (0 : Int), (0 : Int), (0 : Int)]) = false → ((![x5, x6, x7, x8] == [(0 : Int), (0 : Int), (0 : Int), (0 : Int)]) = true → K [RV.v (SV.b true false)] []) ∧ ((![x5, x6, x7, x8] == [(0 : Int), (0 : Int), (0 : Int), (0 : Int)]) = false → ∀ (x9 : Int), x9 = (1 : Int) → InR IntKind.i64 x9 → ((x9 != (1 : Int)) = true → K [RV.v (SV.b true false)] []) ∧ ((x9 != (1 : Int)) = false → ∀ (x10 : Int), x10 = (1 : Int) → InR IntKind.i64 x10 → ((x10 != (1 : Int)) = true → K [RV.v (SV.b true false)] []) ∧ ((x10 != (1 : Int)) = false → ∀ (x11 : List Int), x11 = List.replicate (64 : Nat) (0 : Int) → x11.length = (64 : Nat) → AllR IntKind.u8 x11 → ((x11 == [(0 : Int), (0 : Int), (0 : Int), (0 : Int), (0 : Int), (0 : Int), (0 : Int), (0 : Int), (0 : Int), (0 : Int), (0 : Int), (0 : Int), (0 : Int), (0 : Int), (0 : Int), (0 : Int), (0 : Int), (0 : Int), (0 : Int), (0 : Int), (0 : Int), (0 : Int), (0 : Int), (0 : Int), (0 : Int), (0 : Int), (0 : Int), (0 : Int), (0 : Int), (0 : Int), (0 : Int), (0 : Int), (0 : Int), (0 : Int), (0 : Int), (0 : Int), (0 : Int), (0 : Int), (0 : Int), (0 : Int), (0 : Int), (0 : Int), (0 : Int), (0 : Int), (0 : Int), (0 : Int), (0 : Int), (0 : Int), (0 : Int), (0 : Int), (0 : Int), (0 : Int), (0 : Int), (0 : Int), (0 : Int), (0 : Int), (0 : Int), (0 : Int), (0 : Int), (0 : Int), (0 : Int), (0 : Int), (0 : Int), (0 : Int)]) = true → K [RV.v (SV.b true true)] []) ∧ ((x11 == [(0 : Int), (0 : Int), (0 : Int), (0 : Int), (0 : Int), (0 : Int), (0 : Int), (0 : Int), (0 : Int), (0 : Int), (0 : Int), (0 : Int), (0 : Int), (0 : Int), (0 : Int), (0 : Int), (0 : Int), (0 : Int), (0 : Int), (0 : Int), (0 : Int), (0 : Int), (0 : Int), (0 : Int), (0 : Int), (0 : Int), (0 : Int), (0 : Int), (0 : Int), (0 : Int), (0 : Int), (0 : Int), (0 : Int), (0 : Int), (0 : Int), (0 : Int), (0 : Int), (0 : Int), (0 : Int), (0 : Int), (0 : Int), (0 : Int), (0 : Int), (0 : Int), (0 : Int), (0 : Int), (0 : Int), (0 : Int), (0 : Int), (0 : Int), (0 : Int), (0 : Int), (0 : Int), (0 : Int), (0 : Int), (0 : Int), (0 : Int), (0 : Int), (0 : Int), (0 : Int), (0 : Int), (0 : Int), (0 : Int), (0 : Int)]) = false → K [RV.v (SV.b true false)] []))))) := by
  intros
  kernel_rfl
theorem vc32m_eq : ∀ (st : List Int) (s : ByteArray) (d : RO) (K : List RV → List (Option (List Seg)) → Prop) (Q : Nat → List Pv → Prop), vc32m st s d K Q = ∀ (x1 : List Int), x1 = st → x1.length = (64 : Nat) → AllR IntKind.u8 x1 → ∀ (x2 : List Int), x2 = x1 → x2.length = (64 : Nat) → AllR IntKind.u8 x2 → ∀ (x3 : Int), x3 = (0 : Int) → InR IntKind.u64 x3 → ∀ (x4 : Int), x4 = (0 : Int) → InR IntKind.u64 x4 → ∀ (x5 : Int), x5 = (0 : Int) → InR IntKind.u64 x5 → ∀ (x6 : Int), x6 = (0 : Int) → InR IntKind.u64 x6 → ∀ (x7 : Int), x7 = (0 : Int) → InR IntKind.u64 x7 → ∀ (x8 : Int), x8 = (0 : Int) → InR IntKind.u64 x8 → ∀ (x9 : Int), x9 = (0 : Int) → InR IntKind.u64 x9 → ∀ (x10 : Int), x10 = (0 : Int) → InR IntKind.u64 x10 → ((![x3, x4, x5, x6] == [(0 : Int), (0 : Int), (0 : Int), (0 : Int)]) = true → K [RV.v (SV.b true false)] [some [Seg.arr IntKind.u8 (64 : Nat) false x2, Seg.one (SV.b true false)], some [Seg.one SV.nsl, Seg.one SV.nsl, Seg.one (SV.b true false)]]) ∧ ((![x3, x4, x5, x6] == [(0 : Int), (0 : Int), (0 : Int), (0 : Int)]) = false → ((![x7, x8, x9, x10] == [(0 : Int), (0 : Int), (0 : Int), (0 : Int)]) = true → K [RV.v (SV.b true false)] [some [Seg.arr IntKind.u8 (64 : Nat) false x2, Seg.one (SV.b true false)], some [Seg.one SV.nsl, Seg.one SV.nsl, Seg.one (SV.b true false)]]) ∧ ((![x7, x8, x9, x10] == [(0 : Int), (0 : Int), (0 : Int), (0 : Int)]) = false → ∀ (x11 : Int), x11 = (1 : Int) → InR IntKind.i64 x11 → ((x11 != (1 : Int)) = true → K [RV.v (SV.b true false)] [some [Seg.arr IntKind.u8 (64 : Nat) false x2, Seg.one (SV.b true false)], some [Seg.one SV.nsl, Seg.one SV.nsl, Seg.one (SV.b true false)]]) ∧ ((x11 != (1 : Int)) = false → ∀ (x12 : Int), x12 = (1 : Int) → InR IntKind.i64 x12 → ((x12 != (1 : Int)) = true → K [RV.v (SV.b true false)] [some [Seg.arr IntKind.u8 (64 : Nat) false x2, Seg.one (SV.b true false)], some [Seg.one SV.nsl, Seg.one SV.nsl, Seg.one (SV.b true false)]]) ∧ ((x12 != (1 : Int)) = false → ∀ (x13 : List Int), x13 = x2 → x13.length = (64 : Nat) → AllR IntKind.u8 x13 → ∀ (x14 : List Int), x14 = x13 → x14.length = (64 : Nat) → AllR IntKind.u8 x14 → ∀ (x15 : List Int), x15 = List.replicate (64 : Nat) (0 : Int) → x15.length = (64 : Nat) → AllR IntKind.u8 x15 → ((x15 == [(0 : Int), (0 : Int), (0 : Int), (0 : Int), (0 : Int), (0 : Int), (0 : Int), (0 : Int), (0 : Int), (0 : Int), (0 : Int), (0 : Int), (0 : Int), (0 : Int), (0 : Int), (0 : Int), (0 : Int), (0 : Int), (0 : Int), (0 : Int), (0 : Int), (0 : Int), (0 : Int), (0 : Int), (0 : Int), (0 : Int), (0 : Int), (0 : Int), (0 : Int), (0 : Int), (0 : Int), (0 : Int), (0 : Int), (0 : Int), (0 : Int), (0 : Int), (0 : Int), (0 : Int), (0 : Int), (0 : Int), (0 : Int), (0 : Int), (0 : Int), (0 : Int), (0 : Int), (0 : Int), (0 : Int), (0 : Int), (0 : Int), (0 : Int), (0 : Int), (0 : Int), (0 : Int), (0 : Int), (0 : Int), (0 : Int), (0 : Int), (0 : Int), (0 : Int), (0 : Int), (0 : Int), (0 : Int), (0 : Int), (0 : Int)]) = true → K [RV.v (SV.b true true)] [some [Seg.arr IntKind.u8 (64 : Nat) false x14, Seg.one (SV.b true false)], some [Seg.one SV.nsl, Seg.one SV.nsl, Seg.one (SV.b true false)]]) ∧ ((x15 == [(0 : Int), (0 : Int), (0 : Int), (0 : Int), (0 : Int), (0 : Int), (0 : Int), (0 : Int), (0 : Int), (0 : Int), (0 : Int), (0 : Int), (0 : Int), (0 : Int), (0 : Int), (0 : Int), (0 : Int), (0 : Int), (0 : Int), (0 : Int), (0 : Int), (0 : Int), (0 : Int), (0 : Int), (0 : Int), (0 : Int), (0 : Int), (0 : Int), (0 : Int), (0 : Int), (0 : Int), (0 : Int), (0 : Int), (0 : Int), (0 : Int), (0 : Int), (0 : Int), (0 : Int), (0 : Int), (0 : Int), (0 : Int), (0 : Int), (0 : Int), (0 : Int), (0 : Int), (0 : Int), (0 : Int), (0 : Int), (0 : Int), (0 : Int), (0 : Int), (0 : Int), (0 : Int), (0 : Int), (0 : Int), (0 : Int), (0 : Int), (0 : Int), (0 : Int), (0 : Int), (0 : Int), (0 : Int), (0 : Int), (0 : Int)]) = false → K [RV.v (SV.b true false)] [some [Seg.arr IntKind.u8 (64 : Nat) false x14, Seg.one (SV.b true false)], some [Seg.one SV.nsl, Seg.one SV.nsl, Seg.one (SV.b true false)]]))))) := by
  intros
  kernel_rfl
def nthH : List AV → Option (List Prop × List RV × List (Option (List Seg)))
  | [.m [.arr .u8 64 _ st, .one (.b _ false)], .m [.one .nsl, .one .nsl, .one (.b _ false)], .v (.s s), .d (.l (.ints .u8)) d] => some ([], [.v (.b true true)], [some [.arr .u8 64 false st, .one (.b true false)], some [.one .nsl, .one .nsl, .one (.b true false)]])
  | [.v .np, .v .np, .v (.s s), .d (.l (.ints .u8)) d] => some ([], [.v (.b true true)], [])
  | _ => none
theorem nthH_ok : CallOk Tryd.prog gh4 32 (genCtr [.m, .m, .v, .d (.l (.ints .u8))] nthH) := by
  refine call_gen (fn := Tryd.f32) Λ5_ok rfl glow4 rfl (by kernel_rfl) (by kernel_rfl) _ nthH fun av p rvs fin hs hp hf => ?_
  unfold nthH at hs
  split at hs
  · rename_i e1 st e2 e3 s d
    simp only [Option.some.injEq, Prod.mk.injEq] at hs
    obtain ⟨rfl, rfl, rfl⟩ := hs
    refine ⟨[.p 600 0, .p 601 0, .s s, .ro 490 (.l (.ints .u8)) d], [(600, .segs false [.arr .u8 64 false st, .one (.b false false)]), (601, .segs false [.one .nsl, .one .nsl, .one (.b false false)])], [], _, (by repeat' first | exact trivial | exact rfl | exact ⟨_, rfl, by repeat' first | exact trivial | exact rfl | apply And.intro⟩ | apply And.intro), Nat.le_of_ble_eq_true (by kernel_rfl), vcG_noloops ?_⟩
    show vc32m st s d _ _
    rw [vc32m_eq]
    intro x1 e1 _ _ x2 e2 _ _
    subst e1; subst e2
    intro x3 e3 _
    subst e3
    intro x4 e4 _
    subst e4
    intro x5 e5 _
    subst e5
    intro x6 e6 _
    subst e6
    intro x7 e7 _
    subst e7
    intro x8 e8 _
    subst e8
    intro x9 e9 _
    subst e9
    intro x10 e10 _
    subst e10
    refine ⟨fun h => absurd h (by decide), fun _ => ⟨fun h => absurd h (by decide), fun _ => ?_⟩⟩
    intro x11 e11 _
    subst e11
    refine ⟨fun h => absurd h (by decide), fun _ => ?_⟩
    intro x12 e12 _
    subst e12
    refine ⟨fun h => absurd h (by decide), fun _ => ?_⟩
    intro x13 e13 _ _ x14 e14 _ _ x15 e15 _ _
    subst e13; subst e14; subst e15
    refine ⟨fun _ => ?_, fun h => absurd h (by decide)⟩
    repeat' first | exact trivial | exact rfl | apply And.intro
  · rename_i s d
    simp only [Option.some.injEq, Prod.mk.injEq] at hs
    obtain ⟨rfl, rfl, rfl⟩ := hs
    refine ⟨[.np, .np, .s s, .ro 490 (.l (.ints .u8)) d], [], [], _, (by repeat' first | exact trivial | exact rfl | exact ⟨_, rfl, by repeat' first | exact trivial | exact rfl | apply And.intro⟩ | apply And.intro), Nat.le_of_ble_eq_true (by kernel_rfl), vcG_noloops ?_⟩
    show vc32n s d _ _
    rw [vc32n_eq]
    intro x1 e1 _
    subst e1
    intro x2 e2 _
    subst e2
    intro x3 e3 _
    subst e3
    intro x4 e4 _
    subst e4
    intro x5 e5 _
    subst e5
    intro x6 e6 _
    subst e6
    intro x7 e7 _
    subst e7
    intro x8 e8 _
    subst e8
    refine ⟨fun h => absurd h (by decide), fun _ => ⟨fun h => absurd h (by decide), fun _ => ?_⟩⟩
    intro x9 e9 _
    subst e9
    refine ⟨fun h => absurd h (by decide), fun _ => ?_⟩
    intro x10 e10 _
    subst e10
    refine ⟨fun h => absurd h (by decide), fun _ => ?_⟩
    intro x11 e11 _ _
    subst e11
    refine ⟨fun _ => ?_, fun h => absurd h (by decide)⟩
    repeat' first | exact trivial | exact rfl | apply And.intro
  · cases hs
def Λ6 : Tab := ⟨tys, (32, genCtr [.m, .m, .v, .d (.l (.ints .u8))] nthH) :: Λ5.ctr, [3, 0, 4, 2], gh4⟩
theorem Λ6_ok : TabOk Tryd.prog Λ6 := Λ5_ok.cons nthH_ok
end Go.Gx

/- From a law's call to what its row asks, for laws that only read. -/
namespace Go.Gx
open Go.ChangeShapes Go.WideShapes Go.ChangeAt Go.RowKit
set_option linter.unusedVariables false

section
variable {P : Program}

theorem cell_int {w : World} {r : Reach} {b : Nat} {e : TypeId} {k : IntKind} {v : Value} (he : P.underlying e = some (.int k)) (h : Cell.okWide P w r b e v) : ∃ z, v = .int k z ∧ InR k z := by
  have h' : Value.okWide P w r b e v := by
    unfold Value.okWide
    rw [he]; exact h
  obtain ⟨z, rfl⟩ := okWide_int he h'
  refine ⟨z, rfl, ?_⟩
  simp only [Cell.okWide, Cell.ok, he, IntKind.has] at h
  cases k <;> simp [InR, IntKind.min, IntKind.max, IntKind.bits, IntKind.signed] at h ⊢ <;> omega

theorem ints_of {k : IntKind} : ∀ (cs : List Value), (∀ v ∈ cs, ∃ z, v = .int k z ∧ InR k z) → ∃ l : List Int, AllR k l ∧ cs = l.map (Value.int k)
  | [], _ => ⟨[], fun _ h => by simp at h, rfl⟩
  | v :: cs, h => by
    obtain ⟨l, h1, rfl⟩ := ints_of cs fun v hv => h v (by simp [hv])
    obtain ⟨z, rfl, hz⟩ := h v (by simp)
    refine ⟨z :: l, fun x hx => ?_, rfl⟩
    rcases List.mem_cons.1 hx with rfl | hx
    · exact hz
    · exact h1 x hx

/-- An argument that is an array of numbers. -/
theorem arr_arg {w : World} {r : Reach} {b : Nat} {t e : TypeId} {n : Nat} {k : IntKind} {v : Value} (ht : P.underlying t = some (.array n e)) (he : P.underlying e = some (.int k)) (hc : P.cellsOf t = n) (hts : P.cellTypes P.depth t = some (List.replicate n e)) (h : Value.okWide P w r b t v) :
    ∃ l : List Int, l.length = n ∧ AllR k l ∧ v = .agg (l.map (Value.int k)).toArray := by
  unfold Value.okWide at h
  rw [ht] at h
  obtain ⟨cs, rfl, hs, ts, hts', _, hall⟩ := h
  rw [hts] at hts'
  obtain rfl := Option.some.inj hts'
  obtain ⟨l, h1, h2⟩ := ints_of (k := k) cs.toList fun v hv => by
    obtain ⟨i, hi, rfl⟩ := List.getElem_of_mem hv
    obtain ⟨u, hu, hcell⟩ := hall i (cs.toList[i]) (by simp at hi ⊢)
    have : u = e := by
      have := List.mem_of_getElem? hu
      exact (List.mem_replicate.1 this).2
    subst this
    exact cell_int he hcell
  refine ⟨l, ?_, h1, ?_⟩
  · have := congrArg List.length h2
    simp at this
    omega
  · rw [← h2]

theorem int_arg {w : World} {r : Reach} {b : Nat} {e : TypeId} {k : IntKind} {v : Value} (he : P.underlying e = some (.int k)) (h : Value.okWide P w r b e v) : ∃ z, v = .int k z ∧ InR k z := by
  unfold Value.okWide at h
  rw [he] at h
  exact cell_int he h

/-- All arguments read behind the call as they did. -/
theorem below_trodAll {H : Type} {enc : TypeId × Value → H} {W W' : World} (hl : laidOutB P = true) (hB : Below W.heap.size W W') {sp : Nat → Bool} : ∀ {ts : List TypeId} {vs : List Value} {ds : List (DataW H)} {ps : List MemPlace},
    (∀ t ∈ ts, P.readableRec t = true ∧ t < P.types.size) → DataW.TrodAll enc P W 0 (fun _ => true) true ts vs ds ps → (∀ p ∈ ps, p.block < W.heap.size) → (∀ p ∈ ps, sp p.block = true) → DataW.TrodAll enc P W' 0 sp true ts vs ds ps
  | [], _, _, _, _, h, _, _ => by
    obtain ⟨rfl, rfl, rfl⟩ := trodAll_nil h
    exact trodAll_mk0
  | t :: ts, _, _, _, ht, h, hlt, hs => by
    obtain ⟨v, vs1, d, ds1, p, q, rfl, rfl, rfl, h1, h2⟩ := trodAll_cons h
    have := ht t (by simp)
    exact trodAll_cons_mk (WideElems.Trod_stays hl this.1 this.2 h1 (fun x hx => hB.same (hlt x (by simp [hx]))) fun x hx => hs x (by simp [hx]))
      (below_trodAll hl hB (fun t h => ht t (by simp [h])) h2 (fun x hx => hlt x (by simp [hx])) fun x hx => hs x (by simp [hx]))

/-- What a row asks behind a call that has answered true and turned nothing old. -/
theorem post_true {H : Type} {enc : TypeId × Value → H} {f : Func} {s : ChangeSpec} {tb : TypeId} {W W' : World} {args : Array Value} {ds gs : List (DataW H)} {before : List MemPlace}
    (hl : laidOutB P = true) (hv : s.vars = []) (hr : f.resultTypes = #[tb]) (hb : P.underlying tb = some .bool) (hread : ∀ t ∈ f.params.toList, P.readableRec t = true ∧ t < P.types.size)
    (hfn : ∀ ds : List (DataW H), ds.length = f.params.size → (s.fn H ds).results = [.lit (.bool true)] ∧ (s.fn H ds).args = ds ∧ (s.fn H ds).vars = [])
    (hW : DataW.Whole enc P f.params.toList s.vars false W args.toList ds gs before) (hB : Below W.heap.size W W') : s.post enc P f false true false false W args (.bool true) W' := by
  have hW' := hW
  obtain ⟨p, q, hA0, hV, rfl, hz, hn⟩ := hW
  have hA : DataW.TrodAll enc P W 0 (fun _ => true) true f.params.toList args.toList ds p := hA0
  rw [hv] at hV
  obtain ⟨rfl, rfl⟩ := trodVars_none hV
  have hlen : ds.length = f.params.size := by
    have : ∀ {ts : List TypeId} {vs : List Value} {ds : List (DataW H)} {ps : List MemPlace}, DataW.TrodAll enc P W 0 (fun _ => true) true ts vs ds ps → ds.length = ts.length := by
      intro ts
      induction ts with
      | nil => intro vs ds ps h; obtain ⟨_, rfl, _⟩ := trodAll_nil h; rfl
      | cons t ts ih => intro vs ds ps h; obtain ⟨_, _, _, _, _, _, rfl, rfl, rfl, _, h2⟩ := trodAll_cons h; simp [ih h2]
    simpa using this hA
  obtain ⟨k1, k2, k3⟩ := hfn ds hlen
  have hlt : ∀ x ∈ p, x.block < W.heap.size := fun x hx => hW'.lt x (by simp [hx])
  have hres : ∀ (b : Nat) (sp : Nat → Bool) (hd : Bool), DataW.TrodAll enc P W' b sp hd f.resultTypes.toList ((Value.bool true).resultList f.resultTypes.size) (s.fn H (ds ++ [])).results [] := fun b sp hd => by
    rw [List.append_nil, k1, hr]
    exact trodAll_cons_mk (shut_bool hb _) trodAll_mk0
  have hargs : ∀ sp : Nat → Bool, (∀ x ∈ p, sp x.block = true) → DataW.TrodAll enc P W' 0 sp true f.params.toList args.toList (s.fn H (ds ++ [])).args p := fun sp hs => by
    rw [List.append_nil, k2]
    exact below_trodAll hl hB hread hA hlt hs
  have hvars : ∀ sp : Nat → Bool, DataW.TrodVars enc P W' sp s.vars (s.fn H (ds ++ [])).vars [] := fun sp => by
    rw [List.append_nil, k3, hv]; rfl
  refine ⟨ds, [], p ++ [], [], p, [], hW', hres _ _ _, hargs _ (fun x hx => by simpa using hlt x hx), hvars _, hB.frame _, fun _ => ?_⟩
  refine ⟨ok_one hr rfl (okWide_bool_mk hb _), _, _, ([] ++ p) ++ [], ⟨[] ++ p, [], trodAll_append (hargs _ (fun _ _ => rfl)) (hres _ _ _), hvars _, rfl, ?_, ?_⟩, ?_⟩
  · intro b off hp
    have hp' : MemPlace.cell b off ∈ p := by simpa using hp
    rw [hB.frozen (hlt _ hp')]
    exact hz b off (by simpa using hp')
  · intro ha
    have := hn ha
    simpa using this
  · intro x hx _
    simpa using hx

theorem chunks {α : Type} {n : Nat} : ∀ (m : Nat) (cs : List α) (f : Nat → List α), cs.length = m * n → (∀ i, i < m → (cs.drop (i * n)).take n = f i) → cs = ((List.range m).map f).flatten
  | 0, cs, f, hl, _ => by
    have : cs = [] := List.length_eq_zero_iff.1 (by simpa using hl)
    simp [this]
  | m + 1, cs, f, hl, h => by
    have ih := chunks (n := n) m (cs.drop n) (fun i => f (i + 1)) (by rw [List.length_drop, hl, Nat.succ_mul]; omega) fun i hi => by
      rw [List.drop_drop, ← h (i + 1) (by omega), Nat.succ_mul, Nat.add_comm n]
    have h0 := h 0 (by omega)
    rw [Nat.zero_mul, List.drop_zero] at h0
    rw [List.range_succ_eq_map, List.map_cons, List.flatten_cons, List.map_map]
    conv => lhs; rw [← List.take_append_drop n cs]
    rw [h0, ih]
    rfl

/-- A listed table of rows of numbers: its cells. -/
theorem tab2_of_head {W : World} {name : String} {k : IntKind} {rows : List (List Int)} {rest : List (String × DataW Unit)} {g : Nat} {t e1 e : TypeId} {m n : Nat}
    (hg : P.globalNamed name = some g) (hty : (P.globals[g]?).map (·.type) = some t) (ht : P.underlying t = some (.array m e1)) (ht1 : P.underlying e1 = some (.array n e)) (he : P.underlying e = some (.int k)) (hce : P.cellsOf e = 1) (hc1 : P.cellsOf e1 = n) (hct : P.cellsOf t = m * n)
    (h : laidMet P ((name, .agg (rows.map (Lib.tabData k))) :: rest) W) : W.rangeAt g 0 ((List.range m).map fun i => (rows.getD i []).map (Value.int k)).flatten ∧ g < W.heap.size := by
  obtain ⟨ps, ⟨g', t', cs, fuel, p, q, hg', ht', hvar, hd, _, _⟩, _⟩ := h
  obtain rfl := Option.some.inj (hg.symm.trans hg')
  obtain rfl := Option.some.inj (hty.symm.trans ht')
  have hcs : cs.toList = ((List.range m).map fun i => (rows.getD i []).map (Value.int k)).flatten := by
    cases fuel with
    | zero => simp [DataW.trod] at hd
    | succ fuel =>
      simp only [DataW.trod, ht, hc1, hct] at hd
      split at hd
      · rename_i hl
        obtain ⟨xs, hm, hx⟩ := Option.map_eq_some_iff.1 hd
        have hxs : xs.map (·.1) = rows.map (Lib.tabData k) := by
          have := congrArg Prod.fst hx
          simpa using this
        have hxl : xs.length = m := by simpa using Lib.mapM_length hm
        have hrl : rows.length = m := by
          have := congrArg List.length hxs
          simp at this
          omega
        refine chunks m _ _ hl fun i hi => ?_
        obtain ⟨b, hb, hf⟩ := Lib.mapM_at hm i i (by simp [hi])
        have h2 : (xs.map (·.1))[i]? = some b.1 := by simp [hb]
        rw [hxs] at h2
        simp only [List.getElem?_map, Option.map_eq_some_iff] at h2
        obtain ⟨r, hr, hrb⟩ := h2
        have hf' : DataW.trod (fun _ => ()) P W 0 (fun _ => true) false fuel e1 ((cs.toList.drop (i * n)).take n) = some (Lib.tabData k r, b.2) := by
          rw [hrb]; exact hf
        rw [Lib.cells_of_tab ht1 he hce hc1 hf']
        simp [List.getD, hr]
      · cases hd
  constructor
  · rw [← hcs]
    intro j v hj
    have := World.var?_cell hg hvar j
    rw [Nat.zero_add, this]
    simpa using hj
  · unfold World.var? at hvar
    rw [hg] at hvar
    simp only [Option.bind_some] at hvar
    split at hvar
    · rename_i hh
      exact (Array.getElem?_eq_some_iff.1 hh).1
    · cases hvar

theorem mem_start (W : World) (ρ : Nat → Pl) : Mem W (fun _ => False) ρ (fun _ => none) W :=
  ⟨by constructor <;> (intros; contradiction), FrameW.refl _ _, by intros; contradiction, by intros; contradiction, by intros; contradiction⟩

/-- A law as a call off a world that holds the globals: its arguments hold no pointers. -/
theorem law_calls {Γ : Tab} (hΓ : TabOk P Γ) (hgl : Γ.gl = keysOf Γ.gh) {f : FuncId} {fn : Func} (hf : P.funcs[f]? = some fn) {L : Loops} {args : List SV} {K : SV → Prop} {inv : Nat → List Pv → Nat → Prop} (hv : Vc Γ fn L Γ.gh args K inv) (hlen : args.length ≤ fn.ntmps)
    {W : World} {vs : List Value} (hG : Glob Γ.gh W fun _ => False) (ha : Ds (fun _ => False) (fun _ => ({ blk := 0, off := 0, cap := 0 } : Pl)) args vs) (hK : ∀ x, K x → ∃ e, x = .b e true) :
    Calls P f vs.toArray W fun e w' => e = .returned (.bool true) ∧ Below W.heap.size W w' := by
  obtain ⟨ρg, g1, g2, g3⟩ := mem_of_glob hG (mem_start W fun _ => ({ blk := 0, off := 0, cap := 0 } : Pl))
  have hgo : GlOk Γ W (fun _ => False) ρg (assoc Γ.gh) := ⟨fun g hg => ⟨assoc_dm (by rw [← hgl]; exact hg), (g3 g).1, (g3 g).2⟩, g2⟩
  refine (vc_calls hΓ hf hv hlen hgo g1 (Ds.mono (fun _ h => h.elim) (fun _ h => h.elim) args vs ha)).mono fun e w' he => ?_
  obtain ⟨x, v, rfl, k1, ⟨dm, ρ', k2⟩, k3⟩ := he
  obtain ⟨e, rfl⟩ := hK x k1
  simp only [D] at k2
  exact ⟨by rw [k2], k3⟩
end
end Go.Gx

/- A law that reads slices, as a call off a world that holds the globals. -/
namespace Go.Gx
open Go.RowKit Go.ChangeShapes Go.WideShapes Go.ChangeAt
set_option linter.unusedVariables false

section
variable {P : Program}

theorem law_views {Γ : Tab} (hΓ : TabOk P Γ) (hgl : Γ.gl = keysOf Γ.gh) (hlow : ∀ g ∈ keysOf Γ.gh, g < 500) {f : FuncId} {fn : Func} (hf : P.funcs[f]? = some fn) {L : Loops} {ras : List RA} {args' : List SV} {K : SV → Prop} {inv : Nat → List Pv → Nat → Prop}
    (k1 : okArgs 500 ras args') (k3 : Vc Γ fn L (Γ.gh ++ viewH 500 ras) args' K inv) (k2 : args'.length ≤ fn.ntmps)
    {W : World} {vs : List Value} (hG : Glob Γ.gh W fun _ => False) (hR : RAsD P W (fun _ => False) (fun _ => ({ blk := 0, off := 0, cap := 0 } : Pl)) ras vs) (hK : ∀ x, K x → ∃ e, x = .b e true) :
    Calls P f vs.toArray W fun e w' => e = .returned (.bool true) ∧ Below W.heap.size W w' := by
  obtain ⟨ρg, g1, g2, g3⟩ := mem_of_glob hG (mem_start W fun _ => ({ blk := 0, off := 0, cap := 0 } : Pl))
  obtain ⟨pl, v1, v2⟩ := views_at ras args' vs 500 hR k1
  have hbelow : ∀ k b, assoc Γ.gh k = some b → k < 500 := fun k b hb => hlow k (keysOf_of_dm (by unfold dmOf; rw [hb]; rfl))
  have hat : ∀ k b, assoc (Γ.gh ++ viewH 500 ras) k = some b → (k < 500 ∧ assoc Γ.gh k = some b) ∨ (500 ≤ k ∧ assoc (viewH 500 ras) k = some b) := fun k b hb => by
    rw [assoc_app] at hb
    split at hb
    · rename_i x hx
      rw [hb] at hx
      exact .inl ⟨hbelow k b hx, hx⟩
    · exact .inr ⟨viewH_low ras 500 k b hb, hb⟩
  have hmem : Mem W (fun _ => False) (fun k => if k < 500 then ρg k else pl k) (assoc (Γ.gh ++ viewH 500 ras)) W := by
    refine mem_ro fun k b hb => ?_
    rcases hat k b hb with ⟨hk, hb⟩ | ⟨hk, hb⟩
    · simp only [hk, if_true]
      obtain ⟨l, cs, rfl, _, _, _, hlt⟩ := g2 k b (assoc_mem hb)
      obtain ⟨cs2, s1, s2, s3, _⟩ := g1.heap.blk k _ hb
      obtain ⟨_, _, e, q1, q2, _, _⟩ := g2 k _ (assoc_mem hb)
      simp only [SB.segs.injEq, true_and] at e
      subst e
      refine ⟨_, _, rfl, q1, ?_, by rw [(g3 k).1, (g3 k).2]; exact q2, fun hc => g1.heap.lt k true _ hb hc⟩
      have hu : ∀ (l : List Seg) (dm dm' : Nat → Prop) (ρ ρ' : Nat → Pl) (u v : List Value), SegsD dm ρ l u → SegsD dm' ρ' l v → u.length = v.length := by
        intro l
        induction l with
        | nil => intro _ _ _ _ u v hu hv; rw [show u = [] from hu, show v = [] from hv]
        | cons g r ih =>
          intro dm dm' ρ ρ' u v hu hv
          obtain ⟨a1, a2, a3, rfl, a5⟩ := hu
          obtain ⟨b1, b2, b3, rfl, b5⟩ := hv
          have := ih dm dm' ρ ρ' _ _ a5 b5
          have hg : a1.length = b1.length := by
            cases g with
            | one x => obtain ⟨_, _, _, e1⟩ := a3; obtain ⟨_, _, _, e2⟩ := b3; rw [e1, e2]; rfl
            | arr k n ex l => rw [a3.2.2, b3.2.2]
            | rowI k l => rw [a3.2, b3.2]
            | rowA k n l => rw [a3.2, b3.2]
          simp [this, hg]
      rw [hu _ _ _ _ _ _ _ q1 s1]
      exact s2
    · have hn : ¬ (k < 500) := by omega
      simp only [hn, if_false]
      exact v1 k b hb
  have hgo : GlOk Γ W (fun _ => False) (fun k => if k < 500 then ρg k else pl k) (assoc (Γ.gh ++ viewH 500 ras)) := by
    refine ⟨fun g hg => ?_, g2⟩
    rw [hgl] at hg
    have hk := hlow g hg
    simp only [hk, if_true]
    refine ⟨?_, (g3 g).1, (g3 g).2⟩
    have := assoc_dm hg
    unfold dmOf at this ⊢
    rw [assoc_app]
    obtain ⟨b, hb⟩ := Option.isSome_iff_exists.1 this
    rw [hb]; rfl
  have hargs : Ds (dmOf (assoc (Γ.gh ++ viewH 500 ras))) (fun k => if k < 500 then ρg k else pl k) args' vs := by
    refine v2 _ _ fun k hk => ?_
    obtain ⟨b, hb⟩ := Option.isSome_iff_exists.1 hk
    have h5 := viewH_low ras 500 k b hb
    have hn : ¬ (k < 500) := by omega
    refine ⟨?_, by simp only [hn, if_false]⟩
    unfold dmOf
    rw [assoc_app]
    split
    · rfl
    · exact hk
  refine (vc_calls hΓ hf k3 k2 hgo hmem hargs).mono fun e w' he => ?_
  obtain ⟨x, v, rfl, q1, ⟨dm, ρ', q2⟩, q3⟩ := he
  obtain ⟨e, rfl⟩ := hK x q1
  simp only [D] at q2
  exact ⟨by rw [q2], q3⟩

/-- An argument that is a slice of numbers: nil, or its numbers, which are few. -/
theorem slice_arg {H : Type} {enc : TypeId × Value → H} {W : World} {t e : TypeId} {k : IntKind} {v : Value} {d : DataW H} {ps : List MemPlace} {b : Nat} (hone : v.cells = #[v])
    (ht : P.underlying t = some (.slice e)) (he : P.underlying e = some (.int k)) (hc : P.cellsOf e = 1) (h : DataW.Trod enc P W b (fun _ => true) true t v d ps) {ts : List TypeId} {ds : List (DataW H)} {j : Nat} (hj : ts[j]? = some t) (hd : ds[j]? = some d) (hw : (DataW.weightsEach P ts ds).all (· ≤ reachBytes) = true) (hbs : 0 < P.bytesOf e) :
    (v = .slice none 0 0) ∨ ∃ zs : List Int, AllR k zs ∧ zs.length < 140737488355328 ∧ ConAt P W v (.ints k zs) ∧ ∃ ad n cap, v = .slice ad n cap := by
  obtain ⟨fuel, h⟩ := h
  rw [hone] at h
  rcases open_ints ht he hc h with ⟨h1, _⟩ | ⟨a, len, cap, zs, h1, h2, h3, h4, h5, h6, h7, h8⟩
  · left; simpa using h1
  · right
    have hv : v = .slice (some a) len cap := by simpa using h1
    have hzl : zs.length = cap := by simpa using h5
    have hdz : d = .slice (lits k (zs.take len)) (lits k (zs.drop len)) := by
      have := congrArg Prod.fst h6; simpa using this
    have hsz := sized_slice hw hj (by rw [hd, hdz]) ht
    have hll : ∀ l : List Int, (lits (H := H) k l).length = l.length := fun l => by simp [lits]
    rw [hll, hll, List.length_take, List.length_drop, hzl, Nat.min_eq_left h3] at hsz
    have hcap : cap < 2 ^ 47 := by
      have h9 := reachBytes_lt
      have : cap * 1 ≤ cap * P.bytesOf e := Nat.mul_le_mul_left _ hbs
      rw [show len + (cap - len) = cap by omega] at hsz
      omega
    have hR : AllR k zs := fun z hz => by
      have := h8 z hz
      simp only [Lit.wf, Bool.and_eq_true, decide_eq_true_eq] at this
      cases k <;> simp [InR, IntKind.min, IntKind.max, IntKind.bits, IntKind.signed] at this ⊢ <;> omega
    have hRt : AllR k (zs.take len) := fun z hz => hR z (List.mem_of_mem_take hz)
    have hlen : (zs.take len).length = len := by rw [List.length_take]; omega
    have hget : ∀ i v, (((zs.take len).map (Value.int k))[i]? = some v) → W.cell? (a.add i) = some v := fun i v hv => by
      rw [List.getElem?_map, Option.map_eq_some_iff] at hv
      obtain ⟨z, hz, rfl⟩ := hv
      have hi : i < len := by have := (List.getElem?_eq_some_iff.1 hz).1; omega
      rw [List.getElem?_take, if_pos hi] at hz
      rw [h7 i (by omega)]
      simp [List.getD, hz]
    refine ⟨zs.take len, hRt, by omega, ⟨hRt, fun w' => ?_, fun ad n c' hv' => ?_, fun w' hw' m hm => ?_⟩, some a, len, cap, hv⟩
    · rw [hv]; simp [Builtin.lenOf, conLen, hlen]
    · rw [hv] at hv'
      simp only [Value.slice.injEq] at hv'
      obtain ⟨rfl, rfl, rfl⟩ := hv'
      refine ⟨by simp [conLen, hlen], h3, ?_⟩
      rcases Nat.eq_zero_or_pos cap with h0 | h0
      · exact .inl ⟨by simp only [conLen]; omega, h0⟩
      · right
        have h00 := h7 0 (by omega)
        obtain ⟨bk, of, sp⟩ := a
        have hsp : sp = none ∧ bk < W.heap.size := by
          unfold World.cell? at h00
          split at h00
          · rename_i hb
            have hb : W.heap[bk]? = _ := hb
            refine ⟨?_, (Array.getElem?_eq_some_iff.1 hb).1⟩
            split at h00
            · cases h00
            · rename_i hs
              have hs : ¬ sp.isSome = true := hs
              simpa using hs
          · cases h00
        obtain ⟨rfl, hbk⟩ := hsp
        refine ⟨bk, of, rfl, fun _ => hbk, fun i u hu => ?_⟩
        have := hget i u hu
        have ea : (⟨bk, of, none⟩ : Addr).add i = ⟨bk, of + i, none⟩ := by
          by_cases h : i = 0 <;> simp [Addr.add, h]
        rw [ea] at this
        exact this
    · rw [hv]
      have hm' : m ≤ len := by simpa [conLen, hlen] using hm
      refine firstCells_some 1 m a len cap _ (by simp only [conSize, conCells, Nat.mul_one, List.length_take, List.length_map, hlen]; omega) (fun i u hu => hw' _ _ (hget i u ?_))
      rw [List.getElem?_take] at hu
      split at hu
      · exact hu
      · cases hu
end
end Go.Gx

/- The tables of both packages, and their cells in a row's world. -/
namespace Go.Gx
open Go.Proofs Go.Sp Go.Proofs.YthgclfedhgmpiaaDoor
open Go.ChangeShapes Go.WideShapes Go.ChangeAt Go.RowKit
set_option linter.unusedVariables false

theorem glob_of {W : World} {name : String} {k : IntKind} {zs : List Int} {g : Nat} (hg : Tryd.prog.globalNamed name = some g) (h : Lib.TabIs Tryd.prog W name k zs) : W.rangeAt g 0 (zs.map (Value.int k)) ∧ g < W.heap.size := by
  have hv : W.var? Tryd.prog name = some (zs.map fun z => Value.int k z).toArray := h
  constructor
  · intro j v hj
    have := World.var?_cell hg hv j
    rw [Nat.zero_add, this]
    simpa using hj
  · unfold World.var? at hv
    rw [hg] at hv
    simp only [Option.bind_some] at hv
    split at hv
    · rename_i hh
      exact (Array.getElem?_eq_some_iff.1 hh).1
    · cases hv

theorem all_u64 {l : List Int} (h : (l.all fun z => decide (0 ≤ z) && decide (z < 18446744073709551616)) = true) : AllR .u64 l := fun z hz => by
  have := List.all_eq_true.1 h z hz
  simpa [InR] using this
theorem start_ok : start8.length = 8 ∧ AllR .u64 start8 := ⟨rfl, all_u64 (by decide +kernel)⟩
theorem rounds_ok : K80.length = 80 ∧ AllR .u64 K80 := ⟨by decide +kernel, all_u64 (by decide +kernel)⟩

def layC (cs : Array Value) : Obj → Obj
  | .cells _ t frozen => .cells cs t frozen
  | o => o
theorem own : ownKnob Tryd.prog.godebug = none := by kernel_rfl
theorem laidOut : laidOutB Tryd.prog = true := by kernel_rfl


theorem tab_glob4 {W : World} (h : laidMetH Tryd.prog [("veil/veilref03.round", Rows.laid_veil_veilref03_round), ("veil/veilref03.first", Rows.laid_veil_veilref03_first), ("veil/hash.rounds", Rows.laid_veil_hash_rounds), ("veil/hash.start", Rows.laid_veil_hash_start)] W) : Glob gh4 W fun _ => False := by
  have h' : laidMet Tryd.prog (("veil/veilref03.round", Lib.tabData .u64 K80) :: ("veil/veilref03.first", Lib.tabData .u64 start8) :: ("veil/hash.rounds", Lib.tabData .u64 K80) :: ("veil/hash.start", Lib.tabData .u64 start8) :: []) W := h
  obtain ⟨c1, c2⟩ := glob_of (g := 2) (by kernel_rfl) (Lib.tabIs_of_head (n := 80) (g := 2) (t := 109) (e := 25) (by kernel_rfl) (by kernel_rfl) (by kernel_rfl) (by kernel_rfl) (by kernel_rfl) (by kernel_rfl) h')
  have h' := laidMet.tail h'
  obtain ⟨d1, d2⟩ := glob_of (g := 0) (by kernel_rfl) (Lib.tabIs_of_head (n := 8) (g := 0) (t := 90) (e := 25) (by kernel_rfl) (by kernel_rfl) (by kernel_rfl) (by kernel_rfl) (by kernel_rfl) (by kernel_rfl) h')
  have h' := laidMet.tail h'
  obtain ⟨a1, a2⟩ := glob_of (g := 4) (by kernel_rfl) (Lib.tabIs_of_head (n := 80) (g := 4) (t := 109) (e := 25) (by kernel_rfl) (by kernel_rfl) (by kernel_rfl) (by kernel_rfl) (by kernel_rfl) (by kernel_rfl) h')
  obtain ⟨b1, b2⟩ := glob_of (g := 3) (by kernel_rfl) (Lib.tabIs_of_head (n := 8) (g := 3) (t := 90) (e := 25) (by kernel_rfl) (by kernel_rfl) (by kernel_rfl) (by kernel_rfl) (by kernel_rfl) (by kernel_rfl) (laidMet.tail h'))
  intro g b hb
  have hb : (g, b) ∈ [(3, SB.segs true [.arr .u64 8 true start8]), (0, .segs true [.arr .u64 8 true start8]), (4, .segs true [.arr .u64 80 false K80]), (2, .segs true [.arr .u64 80 false K80])] := hb
  simp only [List.mem_cons, List.not_mem_nil, or_false, Prod.mk.injEq] at hb
  rcases hb with ⟨rfl, rfl⟩ | ⟨rfl, rfl⟩ | ⟨rfl, rfl⟩ | ⟨rfl, rfl⟩
  · exact ⟨_, _, rfl, ⟨_, _, ⟨start_ok.1, start_ok.2, rfl⟩, (List.append_nil _).symm, rfl⟩, b1, fun x => x, b2⟩
  · exact ⟨_, _, rfl, ⟨_, _, ⟨start_ok.1, start_ok.2, rfl⟩, (List.append_nil _).symm, rfl⟩, d1, fun x => x, d2⟩
  · exact ⟨_, _, rfl, ⟨_, _, ⟨rounds_ok.1, rounds_ok.2, rfl⟩, (List.append_nil _).symm, rfl⟩, a1, fun x => x, a2⟩
  · exact ⟨_, _, rfl, ⟨_, _, ⟨rounds_ok.1, rounds_ok.2, rfl⟩, (List.append_nil _).symm, rfl⟩, c1, fun x => x, c2⟩

theorem tab_glob5 {W : World} (h : laidMetH Tryd.prog [("veil/veilref03.round", Rows.laid_veil_veilref03_round), ("veil/veilref03.first", Rows.laid_veil_veilref03_first), ("veil/hash.rounds", Rows.laid_veil_hash_rounds), ("veil/hash.start", Rows.laid_veil_hash_start), ("veil/scalar.table", Rows.laid_veil_scalar_table)] W) : Glob gh4 W fun _ => False := by
  have h' : laidMet Tryd.prog (("veil/veilref03.round", Lib.tabData .u64 K80) :: ("veil/veilref03.first", Lib.tabData .u64 start8) :: ("veil/hash.rounds", Lib.tabData .u64 K80) :: ("veil/hash.start", Lib.tabData .u64 start8) :: [("veil/scalar.table", Rows.laid_veil_scalar_table)]) W := h
  obtain ⟨c1, c2⟩ := glob_of (g := 2) (by kernel_rfl) (Lib.tabIs_of_head (n := 80) (g := 2) (t := 109) (e := 25) (by kernel_rfl) (by kernel_rfl) (by kernel_rfl) (by kernel_rfl) (by kernel_rfl) (by kernel_rfl) h')
  have h' := laidMet.tail h'
  obtain ⟨d1, d2⟩ := glob_of (g := 0) (by kernel_rfl) (Lib.tabIs_of_head (n := 8) (g := 0) (t := 90) (e := 25) (by kernel_rfl) (by kernel_rfl) (by kernel_rfl) (by kernel_rfl) (by kernel_rfl) (by kernel_rfl) h')
  have h' := laidMet.tail h'
  obtain ⟨a1, a2⟩ := glob_of (g := 4) (by kernel_rfl) (Lib.tabIs_of_head (n := 80) (g := 4) (t := 109) (e := 25) (by kernel_rfl) (by kernel_rfl) (by kernel_rfl) (by kernel_rfl) (by kernel_rfl) (by kernel_rfl) h')
  obtain ⟨b1, b2⟩ := glob_of (g := 3) (by kernel_rfl) (Lib.tabIs_of_head (n := 8) (g := 3) (t := 90) (e := 25) (by kernel_rfl) (by kernel_rfl) (by kernel_rfl) (by kernel_rfl) (by kernel_rfl) (by kernel_rfl) (laidMet.tail h'))
  intro g b hb
  have hb : (g, b) ∈ [(3, SB.segs true [.arr .u64 8 true start8]), (0, .segs true [.arr .u64 8 true start8]), (4, .segs true [.arr .u64 80 false K80]), (2, .segs true [.arr .u64 80 false K80])] := hb
  simp only [List.mem_cons, List.not_mem_nil, or_false, Prod.mk.injEq] at hb
  rcases hb with ⟨rfl, rfl⟩ | ⟨rfl, rfl⟩ | ⟨rfl, rfl⟩ | ⟨rfl, rfl⟩
  · exact ⟨_, _, rfl, ⟨_, _, ⟨start_ok.1, start_ok.2, rfl⟩, (List.append_nil _).symm, rfl⟩, b1, fun x => x, b2⟩
  · exact ⟨_, _, rfl, ⟨_, _, ⟨start_ok.1, start_ok.2, rfl⟩, (List.append_nil _).symm, rfl⟩, d1, fun x => x, d2⟩
  · exact ⟨_, _, rfl, ⟨_, _, ⟨rounds_ok.1, rounds_ok.2, rfl⟩, (List.append_nil _).symm, rfl⟩, a1, fun x => x, a2⟩
  · exact ⟨_, _, rfl, ⟨_, _, ⟨rounds_ok.1, rounds_ok.2, rfl⟩, (List.append_nil _).symm, rfl⟩, c1, fun x => x, c2⟩

/-- A world for the witness: the settled one, the tables laid. -/
noncomputable def laidWorld4 (os : Os) : World :=
  { World.holding Tryd.prog os ⟨#[], #[], []⟩ with heap := ((((World.holding Tryd.prog os ⟨#[], #[], []⟩).heap.modify 3 (layC #[.int .u64 7640891576956012808, .int .u64 13503953896175478587, .int .u64 4354685564936845355, .int .u64 11912009170470909681, .int .u64 5840696475078001361, .int .u64 11170449401992604703, .int .u64 2270897969802886507, .int .u64 6620516959819538809])).modify 0 (layC #[.int .u64 7640891576956012808, .int .u64 13503953896175478587, .int .u64 4354685564936845355, .int .u64 11912009170470909681, .int .u64 5840696475078001361, .int .u64 11170449401992604703, .int .u64 2270897969802886507, .int .u64 6620516959819538809])).modify 4 (layC #[.int .u64 4794697086780616226, .int .u64 8158064640168781261, .int .u64 13096744586834688815, .int .u64 16840607885511220156, .int .u64 4131703408338449720, .int .u64 6480981068601479193, .int .u64 10538285296894168987, .int .u64 12329834152419229976, .int .u64 15566598209576043074, .int .u64 1334009975649890238, .int .u64 2608012711638119052, .int .u64 6128411473006802146, .int .u64 8268148722764581231, .int .u64 9286055187155687089, .int .u64 11230858885718282805, .int .u64 13951009754708518548, .int .u64 16472876342353939154, .int .u64 17275323862435702243, .int .u64 1135362057144423861, .int .u64 2597628984639134821, .int .u64 3308224258029322869, .int .u64 5365058923640841347, .int .u64 6679025012923562964, .int .u64 8573033837759648693, .int .u64 10970295158949994411, .int .u64 12119686244451234320, .int .u64 12683024718118986047, .int .u64 13788192230050041572, .int .u64 14330467153632333762, .int .u64 15395433587784984357, .int .u64 489312712824947311, .int .u64 1452737877330783856, .int .u64 2861767655752347644, .int .u64 3322285676063803686, .int .u64 5560940570517711597, .int .u64 5996557281743188959, .int .u64 7280758554555802590, .int .u64 8532644243296465576, .int .u64 9350256976987008742, .int .u64 10552545826968843579, .int .u64 11727347734174303076, .int .u64 12113106623233404929, .int .u64 14000437183269869457, .int .u64 14369950271660146224, .int .u64 15101387698204529176, .int .u64 15463397548674623760, .int .u64 17586052441742319658, .int .u64 1182934255886127544, .int .u64 1847814050463011016, .int .u64 2177327727835720531, .int .u64 2830643537854262169, .int .u64 3796741975233480872, .int .u64 4115178125766777443, .int .u64 5681478168544905931, .int .u64 6601373596472566643, .int .u64 7507060721942968483, .int .u64 8399075790359081724, .int .u64 8693463985226723168, .int .u64 9568029438360202098, .int .u64 10144078919501101548, .int .u64 10430055236837252648, .int .u64 11840083180663258601, .int .u64 13761210420658862357, .int .u64 14299343276471374635, .int .u64 14566680578165727644, .int .u64 15097957966210449927, .int .u64 16922976911328602910, .int .u64 17689382322260857208, .int .u64 500013540394364858, .int .u64 748580250866718886, .int .u64 1242879168328830382, .int .u64 1977374033974150939, .int .u64 2944078676154940804, .int .u64 3659926193048069267, .int .u64 4368137639120453308, .int .u64 4836135668995329356, .int .u64 5532061633213252278, .int .u64 6448918945643986474, .int .u64 6902733635092675308, .int .u64 7801388544844847127])).modify 2 (layC #[.int .u64 4794697086780616226, .int .u64 8158064640168781261, .int .u64 13096744586834688815, .int .u64 16840607885511220156, .int .u64 4131703408338449720, .int .u64 6480981068601479193, .int .u64 10538285296894168987, .int .u64 12329834152419229976, .int .u64 15566598209576043074, .int .u64 1334009975649890238, .int .u64 2608012711638119052, .int .u64 6128411473006802146, .int .u64 8268148722764581231, .int .u64 9286055187155687089, .int .u64 11230858885718282805, .int .u64 13951009754708518548, .int .u64 16472876342353939154, .int .u64 17275323862435702243, .int .u64 1135362057144423861, .int .u64 2597628984639134821, .int .u64 3308224258029322869, .int .u64 5365058923640841347, .int .u64 6679025012923562964, .int .u64 8573033837759648693, .int .u64 10970295158949994411, .int .u64 12119686244451234320, .int .u64 12683024718118986047, .int .u64 13788192230050041572, .int .u64 14330467153632333762, .int .u64 15395433587784984357, .int .u64 489312712824947311, .int .u64 1452737877330783856, .int .u64 2861767655752347644, .int .u64 3322285676063803686, .int .u64 5560940570517711597, .int .u64 5996557281743188959, .int .u64 7280758554555802590, .int .u64 8532644243296465576, .int .u64 9350256976987008742, .int .u64 10552545826968843579, .int .u64 11727347734174303076, .int .u64 12113106623233404929, .int .u64 14000437183269869457, .int .u64 14369950271660146224, .int .u64 15101387698204529176, .int .u64 15463397548674623760, .int .u64 17586052441742319658, .int .u64 1182934255886127544, .int .u64 1847814050463011016, .int .u64 2177327727835720531, .int .u64 2830643537854262169, .int .u64 3796741975233480872, .int .u64 4115178125766777443, .int .u64 5681478168544905931, .int .u64 6601373596472566643, .int .u64 7507060721942968483, .int .u64 8399075790359081724, .int .u64 8693463985226723168, .int .u64 9568029438360202098, .int .u64 10144078919501101548, .int .u64 10430055236837252648, .int .u64 11840083180663258601, .int .u64 13761210420658862357, .int .u64 14299343276471374635, .int .u64 14566680578165727644, .int .u64 15097957966210449927, .int .u64 16922976911328602910, .int .u64 17689382322260857208, .int .u64 500013540394364858, .int .u64 748580250866718886, .int .u64 1242879168328830382, .int .u64 1977374033974150939, .int .u64 2944078676154940804, .int .u64 3659926193048069267, .int .u64 4368137639120453308, .int .u64 4836135668995329356, .int .u64 5532061633213252278, .int .u64 6448918945643986474, .int .u64 6902733635092675308, .int .u64 7801388544844847127]) }
noncomputable def laidWorld5 (os : Os) : World :=
  { laidWorld4 os with heap := (laidWorld4 os).heap.modify 1 (layC #[.int .u64 6346243789798364141, .int .u64 1503914060200516822, .int .u64 0, .int .u64 1152921504606846976, .int .u64 15486807595281847581, .int .u64 14334777244411350896, .int .u64 18446744073709551614, .int .u64 1152921504606846975, .int .u64 11819153939886771969, .int .u64 14991950615390032711, .int .u64 14910419812499177061, .int .u64 259310039853996605, .int .u64 6346243789798364139, .int .u64 1503914060200516822, .int .u64 0, .int .u64 1152921504606846976]) }
end Go.Gx

/- A law off a world that holds the globals: its arguments as data that is only read. -/
namespace Go.Gx
open Go.RowKit Go.ChangeShapes Go.WideShapes Go.ChangeAt
open Go.Proofs.YthgclfedhgmpiaaDoor.Rows (uptoBulk uptoBulkAll uptoSmall)
set_option linter.unusedVariables false

def shTyB (P : Program) : Sh → TypeId → Bool
  | .i k, t => (match P.underlying t with | some (.int k') => keq k k' | _ => false)
  | .tb, t => (match P.underlying t with | some .bool => true | _ => false)
  | .ts, t => (match P.underlying t with | some .string => true | _ => false)
  | .ints k, t => (match P.underlying t with
    | some (.slice e) => (match P.underlying e with | some (.int k') => keq k k' && (Nat.beq (P.cellsOf e) 1 && Nat.blt 0 (P.bytesOf e)) | _ => false)
    | _ => false)
  | .l sh, t => (match P.underlying t with
    | some (.slice e) => shTyB P sh e && (Nat.beq (P.cellsOf e) (shSize sh) && (Nat.blt 0 (shSize sh) && Nat.blt 0 (P.bytesOf e)))
    | _ => false)
  | _, _ => false

/-- How much data holds. -/
def roM : Sh → RO → Nat
  | .ts, d => (roS d).size
  | .ints _, d => (roL d).length
  | .l e, d => (roX d).length + ((roX d).map (roM e)).sum
  | _, _ => 0

/-- Is each slice and text of data of at most so many parts? -/
def roMx (N : Nat) : Sh → RO → Prop
  | .ts, d => (roS d).size ≤ N
  | .ints _, d => (roL d).length ≤ N
  | .l e, d => (roX d).length ≤ N ∧ ∀ x ∈ roX d, roMx N e x
  | _, _ => True

section
variable {P : Program}

theorem weightsAll_mem {H : Type} {e : TypeId} {d : DataW H} : ∀ {l : List (DataW H)}, d ∈ l → ∀ n ∈ d.weights P e, n ∈ DataW.weightsAll P e l
  | y :: r, h, n, hn => by
    simp only [DataW.weightsAll, List.mem_append]
    rcases List.mem_cons.1 h with rfl | h
    · exact .inl hn
    · exact .inr (weightsAll_mem h n hn)

theorem bulk_pos {H : Type} (d : DataW H) : 1 ≤ uptoBulk d := by unfold uptoBulk; split <;> omega
theorem bulkAll_len {H : Type} : ∀ (l : List (DataW H)), l.length ≤ uptoBulkAll l
  | [] => by simp [uptoBulkAll]
  | d :: r => by have := bulk_pos d; have := bulkAll_len r; simp only [uptoBulkAll, List.length_cons]; omega
theorem bulkAll_app {H : Type} : ∀ (a b : List (DataW H)), uptoBulkAll (a ++ b) = uptoBulkAll a + uptoBulkAll b
  | [], b => by simp [uptoBulkAll]
  | d :: r, b => by simp only [List.cons_append, uptoBulkAll, bulkAll_app r b]; omega

theorem ChainR.snoc {R : RO → Value → Prop} {x : RO} {v : Value} (hx : R x v) : ∀ (xs : List RO) (cs : List Value), ChainR R xs cs → ChainR R (xs ++ [x]) (cs ++ v.cells.toList)
  | [], cs, h => by rw [show cs = [] from h]; exact ⟨v, [], hx, by simp, rfl⟩
  | y :: r, cs, h => by
    obtain ⟨u, c, h1, rfl, h3⟩ := h
    exact ⟨u, c ++ v.cells.toList, h1, by simp [List.append_assoc], ChainR.snoc hx r c h3⟩

theorem rangeAt_app {w : World} {b o : Nat} {x y : List Value} (h1 : w.rangeAt b o x) (h2 : w.rangeAt b (o + x.length) y) : w.rangeAt b o (x ++ y) := fun j v hv => by
  rcases Nat.lt_or_ge j x.length with h | h
  · rw [List.getElem?_append_left h] at hv; exact h1 j v hv
  · rw [List.getElem?_append_right h] at hv
    have := h2 _ v hv
    rwa [show o + x.length + (j - x.length) = o + j by omega] at this

theorem addr_of_cell {W : World} {a : Addr} {v : Value} (h : W.cell? a = some v) : a = ⟨a.block, a.off, none⟩ ∧ a.block < W.heap.size := by
  obtain ⟨bk, of, sp⟩ := a
  unfold World.cell? at h
  split at h
  · rename_i hb
    have hb : W.heap[bk]? = _ := hb
    refine ⟨?_, (Array.getElem?_eq_some_iff.1 hb).1⟩
    split at h
    · cases h
    · rename_i hs
      have hs : ¬ sp.isSome = true := hs
      have : sp = none := by simpa using hs
      rw [this]
  · cases h

theorem add_add_addr (a : Addr) (i j : Nat) : (a.add i).add j = a.add (i + j) := by
  unfold Addr.add
  by_cases h1 : i = 0 <;> by_cases h2 : j = 0 <;> simp [h1, h2, Nat.add_assoc]
theorem add_zero_addr (a : Addr) : a.add 0 = a := by simp [Addr.add]

/-- An argument's reading, as data. -/
theorem trod_ro {H : Type} {enc : TypeId × Value → H} {W : World} (N : Nat) : ∀ (sh : Sh) (t : TypeId) (fuel : Nat) (cs : List Value) (x : DataW H × List MemPlace), shTyB P sh t = true → DataW.trod enc P W 0 (fun _ => true) true fuel t cs = some x →
    ∃ ro v, cs = v.cells.toList ∧ RoD W (OutB W fun _ => False) sh ro v ∧ roM sh ro + 1 ≤ uptoBulk x.1 ∧ ((∀ n ∈ x.1.weights P t, n ≤ N) → roMx N sh ro)
  | .i k, t, fuel, cs, x, hs, h => by
    simp only [shTyB] at hs
    split at hs
    · rename_i k' hu
      have hk := keq_eq hs
      subst hk
      cases fuel with
      | zero => simp [DataW.trod] at h
      | succ n =>
        unfold DataW.trod at h
        rw [hu] at h
        rcases cs with _ | ⟨c, _ | ⟨c2, r⟩⟩
        · simp at h
        · cases c <;> simp at h
          rename_i k2 z
          obtain ⟨⟨rfl, hz⟩, rfl⟩ := h
          refine ⟨.i z, .int k2 z, rfl, ?_, by simp [roM, uptoBulk], fun _ => trivial⟩
          simp only [RoD, roZ]
          refine ⟨trivial, ?_⟩
          simp only [Lit.wf, Bool.and_eq_true, decide_eq_true_eq] at hz
          cases k2 <;> simp [InR, IntKind.min, IntKind.max, IntKind.bits, IntKind.signed] at hz ⊢ <;> omega
        · simp at h
    · cases hs
  | .tb, t, fuel, cs, x, hs, h => by
    simp only [shTyB] at hs
    split at hs
    · rename_i hu
      cases fuel with
      | zero => simp [DataW.trod] at h
      | succ n =>
        unfold DataW.trod at h
        rw [hu] at h
        rcases cs with _ | ⟨c, _ | ⟨c2, r⟩⟩
        · simp at h
        · cases c <;> simp at h
          rename_i b
          subst h
          exact ⟨.b b, .bool b, rfl, by simp only [RoD, roB], by simp [roM, uptoBulk], fun _ => trivial⟩
        · simp at h
    · cases hs
  | .ts, t, fuel, cs, x, hs, h => by
    simp only [shTyB] at hs
    split at hs
    · rename_i hu
      cases fuel with
      | zero => simp [DataW.trod] at h
      | succ n =>
        unfold DataW.trod at h
        rw [hu] at h
        rcases cs with _ | ⟨c, _ | ⟨c2, r⟩⟩
        · simp at h
        · cases c <;> simp at h
          rename_i s
          obtain ⟨hz, rfl⟩ := h
          refine ⟨.s s, .string s, rfl, ?_, ?_, fun hw => ?_⟩
          · simp only [RoD, roS]
            refine ⟨trivial, ?_⟩
            have : s.size ≤ maxLen := hz
            simp only [maxLen] at this
            omega
          · simp only [roM, roS, uptoBulk]
            have : s.data.toList.length = s.size := by simp
            omega
          · have := hw s.data.toList.length (by simp [DataW.weights])
            have e : s.data.toList.length = s.size := by simp
            simp only [roMx, roS]
            omega
        · simp at h
    · cases hs
  | .ints k, t, fuel, cs, x, hs, h => by
    simp only [shTyB] at hs
    split at hs
    · rename_i e hu
      split at hs
      · rename_i k' hue
        simp only [Bool.and_eq_true] at hs
        have hk := keq_eq hs.1
        subst hk
        have hbs : 0 < P.bytesOf e := by have := hs.2.2; simp [Nat.blt] at this; omega
        rcases open_ints hu hue (Nat.eq_of_beq_eq_true hs.2.1) h with ⟨rfl, rfl⟩ | ⟨a, len, cap, zs, rfl, h2, h3, h4, h5, h6, h7, h8⟩
        · refine ⟨.l [], .slice none 0 0, rfl, ?_, by simp [roM, roL, uptoBulk], fun _ => Nat.zero_le _⟩
          simp only [RoD]
          exact ⟨none, 0, rfl, Nat.le_refl _, by simp [roL], (fun z hz => by cases hz), .inr ⟨rfl, rfl⟩⟩
        · have hzl : zs.length = cap := by simpa using h5
          have hR : AllR k zs := fun z hz => by
            have := h8 z hz
            simp only [Lit.wf, Bool.and_eq_true, decide_eq_true_eq] at this
            cases k <;> simp [InR, IntKind.min, IntKind.max, IntKind.bits, IntKind.signed] at this ⊢ <;> omega
          have hlen : (zs.take len).length = len := by rw [List.length_take]; omega
          have hmax : cap ≤ 140737488355328 ∨ True := .inr trivial
          refine ⟨.l (zs.take len), .slice (some a) len cap, rfl, ?_, ?_, fun hw => ?_⟩
          · simp only [RoD]
            have er : roL (.l (zs.take len)) = zs.take len := rfl
            rw [er]
            refine ⟨some a, cap, by rw [hlen], by omega, ?_, fun z hz => hR z (List.mem_of_mem_take hz), ?_⟩
            · rw [hlen]; simp only [maxLen] at h4; omega
            · rcases Nat.eq_zero_or_pos cap with h0 | h0
              · exact .inr ⟨by omega, h0⟩
              · have h00 := h7 0 (by omega)
                rw [add_zero_addr] at h00
                obtain ⟨ha, hb⟩ := addr_of_cell h00
                refine .inl ⟨a.block, a.off, by rw [← ha], ⟨hb, fun h => h⟩, fun i u hu => ?_⟩
                rw [List.getElem?_map, Option.map_eq_some_iff] at hu
                obtain ⟨z, hz, rfl⟩ := hu
                rw [List.getElem?_take] at hz
                split at hz
                · rename_i hi
                  have := h7 i (by omega)
                  have ea : a.add i = ⟨a.block, a.off + i, none⟩ := by rw [ha]; exact Addr.add_mid _ _ _
                  rw [ea] at this
                  rw [this]
                  simp [List.getD, hz]
                · cases hz
          · rw [h6]
            simp only [roM, roL, uptoBulk]
            have := bulkAll_len (lits (H := H) k (zs.take len))
            have e : (lits (H := H) k (zs.take len)).length = (zs.take len).length := by simp [lits]
            omega
          · rw [h6] at hw
            have elen : ∀ l : List Int, (lits (H := H) k l).length = l.length := fun l => by simp [lits]
            have := hw (((lits (H := H) k (zs.take len)).length + (lits (H := H) k (zs.drop len)).length) * P.bytesOf e) (by simp [DataW.weights, hu])
            rw [elen, elen] at this
            have h9 : ((zs.take len).length + (zs.drop len).length) * 1 ≤ ((zs.take len).length + (zs.drop len).length) * P.bytesOf e := Nat.mul_le_mul_left _ hbs
            show (zs.take len).length ≤ N
            omega
      · cases hs
    · cases hs
  | .l sh, t, fuel, cs, x, hs, h => by
    simp only [shTyB] at hs
    split at hs
    · rename_i e hu
      simp only [Bool.and_eq_true] at hs
      obtain ⟨hs1, hs2, hs3, hs4⟩ := hs
      have hbs : 0 < P.bytesOf e := by simp [Nat.blt] at hs4; omega
      have hc := Nat.eq_of_beq_eq_true hs2
      have hpos : 0 < shSize sh := by simp [Nat.blt] at hs3; omega
      rcases DataW.trod_slice hu h with ⟨rfl, rfl⟩ | ⟨a, len, cap, elems, rest, n, rfl, rfl, rfl, hb, hl, hm, hlen, hel, hsp, hns⟩
      · refine ⟨.r [], .slice none 0 0, rfl, ?_, by simp [roM, roX, uptoBulk], fun _ => ⟨Nat.zero_le _, fun x hx => by cases hx⟩⟩
        simp only [RoD]
        exact ⟨none, 0, [], rfl, Nat.le_refl _, by simp [roX], rfl, .inr ⟨rfl, rfl⟩⟩
      · obtain ⟨hrl, hrest⟩ := hsp rfl
        have hall : ∀ i, i < cap → ∃ ccs y, W.cells? 0 (a.add (i * P.cellsOf e)) (P.cellsOf e) = some ccs ∧ DataW.trod enc P W 0 (fun _ => true) true n e ccs = some y ∧ (i < len → elems[i]? = some y) := fun i hi => by
          by_cases hil : i < len
          · have h1 := hel i hil
            have h2 : elems[i]? = some elems[i] := List.getElem?_eq_getElem (by omega)
            rw [h2, Option.bind_eq_some_iff] at h1
            obtain ⟨ccs, q1, q2⟩ := h1
            exact ⟨ccs, _, q1, q2, fun _ => h2⟩
          · have h1 := hrest (i - len) (by omega)
            have h2 : rest[i - len]? = some rest[i - len] := List.getElem?_eq_getElem (by omega)
            rw [h2, Option.bind_eq_some_iff, show len + (i - len) = i by omega] at h1
            obtain ⟨ccs, q1, q2⟩ := h1
            exact ⟨ccs, _, q1, q2, fun h => absurd h hil⟩
        have hblk : 0 < cap → a = ⟨a.block, a.off, none⟩ ∧ a.block < W.heap.size := fun h0 => by
          obtain ⟨ccs, y, q1, q2, _⟩ := hall 0 h0
          obtain ⟨_, q3, q4⟩ := World.cells?_some q1
          have := q4 0 (by omega)
          rw [Nat.zero_mul, add_zero_addr, add_zero_addr] at this
          obtain ⟨v, hv⟩ : ∃ v, ccs[0]? = some v := ⟨ccs[0]'(by omega), List.getElem?_eq_getElem _⟩
          rw [hv] at this
          exact addr_of_cell this
        have hchain : ∀ m, m ≤ len → ∃ ros cs', ros.length = m ∧ ChainR (RoD W (OutB W fun _ => False) sh) ros cs' ∧ cs'.length = shSize sh * m ∧ (∀ i u, cs'[i]? = some u → W.cell? (a.add i) = some u) ∧ ros.length + (ros.map (roM sh)).sum ≤ uptoBulkAll ((elems.take m).map (·.1)) ∧ ((∀ y ∈ elems, ∀ n ∈ y.1.weights P e, n ≤ N) → ∀ ro ∈ ros, roMx N sh ro) := by
          intro m
          induction m with
          | zero => intro _; exact ⟨[], [], rfl, rfl, by simp, (fun i u h => by simp at h), by simp, fun _ x hx => by cases hx⟩
          | succ m ih =>
            intro hm'
            obtain ⟨ros, cs', r1, r2, r3, r4, r5, r6⟩ := ih (by omega)
            obtain ⟨ccs, y, q1, q2, q3⟩ := hall m (by omega)
            have q3 := q3 (by omega)
            obtain ⟨ro, v, rfl, s2, s3, s4⟩ := trod_ro N sh e n ccs y hs1 q2
            obtain ⟨_, q5, q6⟩ := World.cells?_some q1
            have hvl := RoD_cells sh ro v s2
            refine ⟨ros ++ [ro], cs' ++ v.cells.toList, by simp [r1], ChainR.snoc s2 ros cs' r2, by rw [List.length_append, r3, hvl, Nat.mul_add]; omega, fun i u hu => ?_, ?_, fun hy ro' hr => ?_⟩
            · rcases Nat.lt_or_ge i cs'.length with hi | hi
              · rw [List.getElem?_append_left hi] at hu; exact r4 i u hu
              · rw [List.getElem?_append_right hi] at hu
                have hi2 : i - cs'.length < v.cells.toList.length := (List.getElem?_eq_some_iff.1 hu).1
                have := q6 (i - cs'.length) (by omega)
                rw [hu] at this
                have e1 : m * P.cellsOf e = cs'.length := by rw [hc, r3, Nat.mul_comm]
                rw [← this, add_add_addr, e1, Nat.add_sub_cancel' hi]
            · rw [List.map_append, List.sum_append, List.length_append, List.take_add_one, q3, List.map_append, bulkAll_app]
              simp only [List.map_cons, List.map_nil, List.sum_cons, List.sum_nil, List.length_cons, List.length_nil, Option.toList_some, uptoBulkAll]
              omega
            · rcases List.mem_append.1 hr with hr | hr
              · exact r6 hy ro' hr
              · simp only [List.mem_cons, List.not_mem_nil, or_false] at hr
                subst hr
                exact s4 fun k hk => hy y (List.mem_of_getElem? q3) k hk
        obtain ⟨ros, cs', r1, r2, r3, r4, r5, r6⟩ := hchain len (Nat.le_refl _)
        refine ⟨.r ros, .slice (some a) len cap, rfl, ?_, ?_, fun hw => ⟨?_, ?_⟩⟩
        · simp only [RoD]
          have er : roX (.r ros) = ros := rfl
          rw [er]
          refine ⟨some a, cap, cs', by rw [r1], by omega, ?_, r2, ?_⟩
          · rw [r1]; simp only [maxLen] at hm; omega
          · rcases Nat.eq_zero_or_pos cap with h0 | h0
            · exact .inr ⟨by omega, h0⟩
            · obtain ⟨ha, hb⟩ := hblk h0
              refine .inl ⟨a.block, a.off, by rw [← ha], ⟨hb, fun h => h⟩, fun i u hu => ?_⟩
              have := r4 i u hu
              have ea : a.add i = ⟨a.block, a.off + i, none⟩ := by rw [ha]; exact Addr.add_mid _ _ _
              rwa [ea] at this
        · simp only [roM, roX, uptoBulk]
          rw [List.take_of_length_le (by omega)] at r5
          have := bulkAll_len (elems.map (·.1))
          rw [List.length_map] at this
          omega
        · have := hw (((elems.map (·.1)).length + (rest.map (·.1)).length) * P.bytesOf e) (by simp [DataW.weights, hu])
          rw [List.length_map, List.length_map] at this
          have h9 : (elems.length + rest.length) * 1 ≤ (elems.length + rest.length) * P.bytesOf e := Nat.mul_le_mul_left _ hbs
          show ros.length ≤ N
          omega
        · refine r6 fun y hy k hk => hw k ?_
          simp only [DataW.weights, hu, List.mem_cons, List.mem_append]
          exact .inr (.inl (weightsAll_mem (List.mem_map.2 ⟨y, hy, rfl⟩) k hk))
    · cases hs
  | .arr _ _, t, fuel, cs, x, hs, h => by simp [shTyB] at hs
  | .r _, t, fuel, cs, x, hs, h => by simp [shTyB] at hs

def slSh : Sh → Bool
  | .ints _ => true
  | .l _ => true
  | _ => false

/-- An argument that is a slice, as data. -/
theorem arg_ro {H : Type} {enc : TypeId × Value → H} {W : World} (N : Nat) (sh : Sh) {t : TypeId} {v : Value} {d : DataW H} {ps : List MemPlace} (hs : shTyB P sh t = true) (hsl : slSh sh = true) (hv : v.cells.toList = [v]) (h : DataW.Trod enc P W 0 (fun _ => true) true t v d ps) :
    ∃ ro, RoD W (OutB W fun _ => False) sh ro v ∧ (∃ ad n cap, v = .slice ad n cap) ∧ roM sh ro + 1 ≤ uptoBulk d ∧ ((∀ n ∈ d.weights P t, n ≤ N) → roMx N sh ro) := by
  obtain ⟨fuel, h⟩ := h
  obtain ⟨ro, u, e, q1, q2, q3⟩ := trod_ro N sh t fuel _ _ hs h
  have hu : ∃ ad n cap, u = .slice ad n cap := by
    cases sh <;> simp only [slSh, Bool.false_eq_true] at hsl <;> simp only [RoD] at q1
    · obtain ⟨a, cap, rfl, _⟩ := q1; exact ⟨_, _, _, rfl⟩
    · obtain ⟨a, cap, cs, rfl, _⟩ := q1; exact ⟨_, _, _, rfl⟩
  have huv : v = u := by
    obtain ⟨ad, n, cap, rfl⟩ := hu
    rw [hv] at e
    simpa [Value.cells] using e
  subst huv
  exact ⟨ro, q1, hu, q2, q3⟩

/-- A law as a call off a world that holds the globals. -/
theorem law_gen {Γ : Tab} (hΓ : TabOk P Γ) (hgl : Γ.gl = keysOf Γ.gh) (hlow : ∀ g ∈ keysOf Γ.gh, g < 490) {f : FuncId} {fn : Func} (hf : P.funcs[f]? = some fn) {av : List AV} {args' : List SV} {L : Loops} {K : List RV → List (Option (List Seg)) → Prop} {inv : Nat → List Pv → Nat → Prop}
    (k1 : okA 600 av args' []) (k2 : args'.length ≤ fn.ntmps) (k3 : VcG 0 Γ fn L (Γ.gh ++ (490, .world) :: []) args' K inv) (hK : ∀ rvs fin, K rvs fin → ∃ e, rvs = [.v (.b e true)])
    {W : World} {vs : List Value} (hG : Glob Γ.gh W fun _ => False) (hA : AsD W (OutB W fun _ => False) (fun _ => none) (fun _ => { blk := 0, off := 0, cap := 0 }) av vs []) :
    Calls P f vs.toArray W fun e w' => e = .returned (.bool true) ∧ Below W.heap.size W w' := by
  have hm := mem_start W fun _ => { blk := 0, off := 0, cap := 0 }
  obtain ⟨hh1, hh2⟩ := okA_heap av vs [] 600 args' [] hA k1
  obtain ⟨ρ1, m1, m2, m3, m4, m5⟩ := gen_mem hG hgl hlow hm (ks := []) (fun k hk => by cases hk) List.nodup_nil (M' := fun _ => False) (fun b => ⟨fun h => h.elim, fun ⟨k, hk, _⟩ => by cases hk⟩) hh1 hh2
  have hargs := okA_args m3 m4 av vs [] 600 args' [] hA k1 (fun i hi => by simp at hi)
  refine (vcG_calls hΓ hf k3 k2 m2 m1 hargs).mono fun e w' he => ?_
  obtain ⟨x, v, h', ρ', rfl, r1, r2, r3, r4⟩ := he
  obtain ⟨rvs', fin', t1, t3, t4, t5⟩ := kvG_sound r3 r2 r1
  obtain ⟨e, rfl⟩ := hK _ _ t1
  rcases t3 with ⟨r, hr, hd⟩ | ⟨hn, _⟩
  · simp only [List.cons.injEq, and_true] at hr
    subst hr
    simp only [RvD, D] at hd
    exact ⟨by rw [hd], r3.frame.below fun _ h => h⟩
  · exact absurd rfl hn

end
end Go.Gx

/- TranscriptNil: of nil transcripts and scripts, and of those that none made, nothing comes; a new transcript's state is the document's. For labels and parts that are not more than the second form's bound. The tables lie as the program's text lays them. -/
namespace Go.Gx
open Go.Proofs Go.Sp Go.RowKit
set_option linter.unusedVariables false
set_option maxRecDepth 100000
namespace TranscriptNil
def vc8 (s : ByteArray) (d : RO) (K : List RV → List (Option (List Seg)) → Prop) (Q : Nat → List Pv → Prop) : Prop := fnVcG 0 Λ6 Tryd.f8 [] [.s s, .ro 490 (.l (.ints .u8)) d] (gh4 ++ (490, .world) :: []) K Q
theorem vc8_eq : ∀ (s : ByteArray) (d : RO) (K : List RV → List (Option (List Seg)) → Prop) (Q : Nat → List Pv → Prop), vc8 s d K Q = (Need ((((frL tagT [bytesI s]).length : Nat) : Int) ≤ (70368744177664 : Int)) ∧ ∀ (x1 : List Int), x1 = seedL (bytesI s) → x1.length = (64 : Nat) → AllR IntKind.u8 x1 → ∀ (x2 : List Int), x2 = x1 → x2.length = (64 : Nat) → AllR IntKind.u8 x2 → ∀ (x3 : List Int), x3 = x1 → x3.length = (64 : Nat) → AllR IntKind.u8 x3 → Need ((((frL tagT [bytesI s]).length : Nat) : Int) ≤ (70368744170000 : Int)) ∧ ∀ (x4 : List Int), x4 = seedL (bytesI s) → x4.length = (64 : Nat) → AllR IntKind.u8 x4 → ((!x3 == x4) = true → K [RV.v (SV.b true false)] []) ∧ ((!x3 == x4) = false → ∀ (x5 : List Int), x5 = List.replicate (64 : Nat) (0 : Int) → x5.length = (64 : Nat) → AllR IntKind.u8 x5 → K [RV.v (SV.b true true)] [])) := by
  intros
  kernel_rfl

theorem str_arg {P : Program} {H : Type} {enc : TypeId × Value → H} {W : World} (N : Nat) {t : TypeId} {s : ByteArray} {d : DataW H} {ps : List MemPlace} (hs : shTyB P .ts t = true) (h : DataW.Trod enc P W 0 (fun _ => true) true t (.string s) d ps) :
    s.size + 1 ≤ Go.Proofs.YthgclfedhgmpiaaDoor.Rows.uptoBulk d ∧ ((∀ n ∈ d.weights P t, n ≤ N) → s.size ≤ N) := by
  obtain ⟨fuel, h⟩ := h
  obtain ⟨ro, u, e, q1, q2, q3⟩ := trod_ro N .ts t fuel _ _ hs h
  simp only [RoD] at q1
  obtain ⟨rfl, _⟩ := q1
  have e : s = roS ro := by simpa [Value.cells] using e
  rw [e]
  exact ⟨q2, q3⟩
theorem law (W : World) (hG : Glob gh4 W fun _ => False) (s : ByteArray) (hx : s.size ≤ reachBytes) (d : RO) (v : Value) (hv : RoD W (OutB W fun _ => False) (.l (.ints .u8)) d v) (hs : ∃ ad n cap, v = .slice ad n cap) (hx1 : roMx reachBytes (.l (.ints .u8)) d)
    (hM : s.size ≤ 1048576) :
    Calls Tryd.prog 8 #[.string s, v] W fun e w' => e = .returned (.bool true) ∧ Below W.heap.size W w' := by
  refine law_gen Λ6_ok rfl glow4 rfl (fn := Tryd.f8) (L := []) (av := [.v (.s s), .d (.l (.ints .u8)) d]) (args' := [.s s, .ro 490 (.l (.ints .u8)) d]) (K := fun rvs fin => ∃ e, rvs = [.v (.b e true)]) ⟨rfl, rfl, trivial⟩ (Nat.le_of_ble_eq_true (by kernel_rfl)) (vcG_noloops ?_) (fun _ _ h => h) hG ⟨_, _, rfl, ⟨rfl, by omega⟩, v, _, rfl, hv, hs, rfl, rfl⟩
  show vc8 s d _ _
  rw [vc8_eq]
  have hl : (frL tagT [bytesI s]).length = 39 + s.size := by
    unfold frL partsL
    simp only [List.map_cons, List.map_nil, List.flatten_cons, List.flatten_nil, List.append_nil, List.length_append, le8_len, bytesI_len]
    rw [show tagT.length = 15 from rfl]
    omega
  refine ⟨need_of (by omega), ?_⟩
  intro x1 e1 _ _ x2 e2 _ _ x3 e3 _ _
  refine ⟨need_of (by omega), ?_⟩
  intro x4 e4 _ _
  have e34 : x3 = x4 := by rw [e3, e1, e4]
  refine ⟨fun h => by rw [e34] at h; simp at h, fun _ => ?_⟩
  intro x5 _ _ _
  exact ⟨true, rfl⟩
end TranscriptNil

namespace TranscriptNil
open Go.Proofs.YthgclfedhgmpiaaDoor
open Go.ChangeShapes Go.WideShapes Go.ChangeAt Go.RowKit
theorem reads (t : Nat) (h : t ∈ Tryd.f8.params.toList) : Tryd.prog.readableRec t = true ∧ t < Tryd.prog.types.size := by
  have hp : Tryd.f8.params.toList = [9, 30] := by kernel_rfl
  rw [hp] at h
  simp only [List.mem_cons, List.not_mem_nil, or_false] at h
  rcases h with rfl | rfl <;> exact ⟨by kernel_rfl, Nat.le_of_ble_eq_true (by kernel_rfl)⟩

set_option maxRecDepth 100000 in
/-- What the call gives, for every argument and every world that holds the tables. -/
theorem contract (H : Type) (enc : TypeId × Value → H) (W : World) (base : Nat) (args : Array Value) (ds gs : List (DataW H)) (before : List MemPlace)
    (hval : ∀ (j : Nat) t v, Tryd.f8.params[j]? = some t → args[j]? = some v → Value.okWide Tryd.prog W .any base t v)
    (hW : DataW.Whole enc Tryd.prog Tryd.f8.params.toList Rows.transcriptNilSpec.vars false W args.toList ds gs before)
    (hw : (DataW.weightsEach Tryd.prog (Tryd.f8.params.toList ++ (Rows.OpenSpec.upto Rows.transcriptNilSpec).bare.plain.varTypes Tryd.prog) (ds ++ gs)).all (· ≤ reachBytes) = true) (hL : laidMetH Tryd.prog Rows.transcriptNilUptoRow.laid W) (hC : Rows.uptoSmall H (ds ++ gs) = true) :
    Calls Tryd.prog 8 args W fun e W' => ∃ v, e = .returned v ∧ Rows.transcriptNilSpec.post enc Tryd.prog Tryd.f8 false true false false W args v W' := by
  have hA : DataW.TrodAll enc Tryd.prog W 0 (fun _ => true) true [9, 30] args.toList ds _ := hW.choose_spec.choose_spec.1
  obtain ⟨v0, vs0, d0, ds0, p0, q0, hargs, hds, _, h0, r0⟩ := trodAll_cons hA
  obtain ⟨v1, vs1, d1, ds1, p1, q1, rfl, hds1, _, h1, r1⟩ := trodAll_cons r0
  obtain ⟨rfl, hdsn, _⟩ := trodAll_nil r1
  obtain rfl : args = #[v0, v1] := by cases args; simp_all
  have hds : ds = [d0, d1] := by rw [hds, hds1, hdsn]
  have hp : Tryd.f8.params = #[9, 30] := by kernel_rfl
  rw [hp] at hval
  have hp2 : Tryd.f8.params.toList = [9, 30] := by kernel_rfl
  rw [hds, hp2] at hw
  have hC : Rows.uptoBulkAll (ds ++ gs) ≤ 1048576 := of_decide_eq_true hC
  rw [hds, bulkAll_app] at hC
  simp only [Rows.uptoBulkAll] at hC
  obtain ⟨s0, rfl⟩ := okWide_string (by kernel_rfl) (hval 0 9 v0 rfl rfl)
  obtain ⟨b0, x0⟩ := str_arg reachBytes (by kernel_rfl) h0
  have x0 := x0 fun n hn => by simpa using List.all_eq_true.1 hw n (DataW.weights_mem_each (j := 0) rfl rfl n hn)
  have hc1 : v1.cells.toList = [v1] := by
    obtain ⟨a, len, cap, e⟩ := okWide_slice (e := 52) (by kernel_rfl) (hval 1 30 v1 rfl rfl)
    rw [e]; rfl
  obtain ⟨o1, e1, s1, b1, x1⟩ := arg_ro reachBytes (.l (.ints .u8)) (by kernel_rfl) rfl hc1 h1
  have x1 := x1 fun n hn => by simpa using List.all_eq_true.1 hw n (DataW.weights_mem_each (j := 1) rfl rfl n hn)
  refine (law W (tab_glob5 hL) s0 x0 o1 v1 e1 s1 x1 (by omega)).mono fun e W' ⟨he, hB⟩ => ?_
  subst he
  refine ⟨_, rfl, post_true (tb := 4) laidOut rfl (by kernel_rfl) (by kernel_rfl) reads ?_ hW hB⟩
  intro ds hds
  have hds : ds.length = 2 := hds
  match ds, hds with
  | [a0, a1], _ => exact ⟨rfl, rfl, rfl⟩

def wargs : Array Value := #[.string ByteArray.empty, .slice none 0 0]
theorem laid_met (os : Os) : laidMet Tryd.prog Rows.transcriptNilUptoRow.laid ((laidWorld5 os).forCall (fun _ _ => 0) ⟨#[], wargs, []⟩).memory :=
  laidMet_of_run' 8 (by kernel_rfl) (by kernel_rfl)
theorem reads0 (os : Os) {H : Type} (enc : TypeId × Value → H) : ∃ places, DataW.whole enc Tryd.prog ((laidWorld5 os).forCall (fun _ _ => 0) ⟨#[], wargs, []⟩).memory Tryd.f8.params.toList Rows.transcriptNilSpec.vars false wargs.toList 8 = some ([.lit (.string []), .nil], [], places) :=
  ⟨[], by kernel_rfl⟩

set_option maxRecDepth 100000 in
theorem lifted (os : Os) (started : os.Started) (H : Type) (enc : TypeId × Value → H) (F : Stop.Interp) :
    ReturnsInHanded {} Tryd.checked os 8 .any ((Rows.OpenSpec.upto Rows.transcriptNilSpec).preRow enc Tryd.prog Tryd.f8 Rows.transcriptNilUptoRow.domain false Rows.transcriptNilUptoRow.laid) (((Rows.OpenSpec.upto Rows.transcriptNilSpec).at F).post enc Tryd.prog Tryd.f8 false true false false) := by
  obtain ⟨places, hx⟩ := reads0 os enc
  refine returnsInHanded_of_row (C := Tryd.checked) (s := (Rows.OpenSpec.upto Rows.transcriptNilSpec)) own started (by kernel_rfl) Tryd.func8
    (witness_row_at (enc := enc) (C := Tryd.checked) false (laidWorld5 os) wargs rfl (by kernel_rfl) (by kernel_rfl) (by kernel_rfl)
      (OpenSpec.preRow_of_cond 8 hx (by kernel_rfl) (fun k hk => by cases hk; kernel_rfl) (by kernel_rfl) (laid_met os))) ?_
  intro W base args ds gs before hval hW _ hcond hw hL _ _
  exact contract H enc W base args ds gs before hval hW hw hL (hcond _ rfl)

theorem said : Rows.TranscriptNilUptoSaid :=
  OpenClaim.holds_of_cond 8 Tryd.f8 rfl rfl rfl rfl rfl rfl rfl ⟨rfl, rfl, rfl, rfl, rfl⟩ rfl rfl rfl rfl rfl (by kernel_rfl) Tryd.func8 (by kernel_rfl)
    (of_decide_eq_true (by kernel_rfl)) (by unfold Func.isWrapper; first | (rw [if_pos (by decide +kernel)]; kernel_rfl) | (rw [if_neg (by decide +kernel)]; exact ⟨rfl, rfl⟩))
    (fun os started H enc _ F => by rw [OpenClaim.pre_eq_preRow]; exact lifted os started H enc F)

theorem plain (f : FuncId) (fn : Func) (hf : Tryd.pinned.checked.prog.funcNamed "veil/veillaw08.TranscriptNil" = some f) (hfn : Tryd.pinned.checked.prog.funcs[f]? = some fn) :
    false = Tryd.pinned.checked.prog.looks [] ∧ ∀ (j : Nat) t, fn.params[j]? = some t → Tryd.pinned.checked.prog.wantsStandIn t = false := by
  obtain rfl : f = 8 := Option.some.inj ((show Tryd.prog.funcNamed "veil/veillaw08.TranscriptNil" = some 8 by kernel_rfl).symm.trans hf) |>.symm
  obtain rfl : fn = Tryd.f8 := (Option.some.inj (Tryd.func8.symm.trans hfn)).symm
  refine ⟨by kernel_rfl, fun j t ht => ?_⟩
  have hp : Tryd.f8.params = #[9, 30] := by kernel_rfl
  rw [hp] at ht
  have := Array.mem_of_getElem? ht
  simp only [List.mem_toArray, List.mem_cons, List.not_mem_nil, or_false] at this
  rcases this with rfl | rfl <;> exact (show Tryd.prog.wantsStandIn _ = false by kernel_rfl)

theorem card : Rows.TranscriptNilUptoCardSaid :=
  Claim7.holds_tied_plain_at .later [] _ _ _ _ said (fun _ h => by cases h) (by kernel_rfl) (fun _ h => by cases h) transcriptNilUpto_row_tie rfl ⟨rfl, rfl⟩ (by kernel_rfl) rfl plain (by kernel_rfl)
end TranscriptNil
end Go.Gx

namespace Go.Proofs.YthgclfedhgmpiaaDoor
theorem transcriptNilProved : Rows.TranscriptNilUptoCardSaid := Go.Gx.TranscriptNil.card
end Go.Proofs.YthgclfedhgmpiaaDoor
#print axioms Go.Proofs.YthgclfedhgmpiaaDoor.transcriptNilProved
