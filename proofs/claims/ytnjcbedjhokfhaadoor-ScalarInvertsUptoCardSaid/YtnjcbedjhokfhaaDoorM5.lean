/- Part 5 of the proof: the evaluator of the code, its soundness, and what it shows of the functions. -/
import Derived.Test.YtnjcbedjhokfhaaDoorM4
import Derived.Test.YtnjcbedjhokfhaaDoorCards
import Derived.Test.YtnjcbedjhokfhaaDoorTie
import Derived.WalkKit
import Derived.ProofKit
import Derived.OpenShut
import Derived.Carry
import Derived.Deep.DeepHandedRow
import Derived.Lib.LaidTab

/- Bits of a number. -/
namespace Go.Gx
open Go.Proofs Go.Sp
set_option linter.unusedVariables false

theorem bit_word {n : Int} (hn : 0 ≤ n) (j k : Nat) (hk : k < 64) : n / ((2 ^ (64 * j) : Nat) : Int) % 18446744073709551616 / ((2 ^ k : Nat) : Int) % 2 = n / ((2 ^ (64 * j + k) : Nat) : Int) % 2 := by
  obtain ⟨N, rfl⟩ := Int.eq_ofNat_of_zero_le hn
  have h : N / 2 ^ (64 * j) % 2 ^ 64 / 2 ^ k % 2 = N / 2 ^ (64 * j + k) % 2 := by
    rw [show (2 : Nat) ^ 64 = 2 ^ k * 2 ^ (64 - k) by rw [← Nat.pow_add]; congr 1; omega, Nat.mod_mul_right_div_self, Nat.mod_mod_of_dvd _ (by exact ⟨2 ^ (64 - k - 1), by rw [Nat.mul_comm, ← Nat.pow_succ]; congr 1; omega⟩), Nat.div_div_eq_div_mul, ← Nat.pow_add]
  have e : (18446744073709551616 : Int) = ((2 ^ 64 : Nat) : Int) := by decide
  rw [e]
  exact_mod_cast h

theorem and1 {a : Int} (ha : InR .u64 a) : andI .u64 a 1 = a % 2 := and_mask 1 (by omega) ha

theorem getD_words (n : Int) (j : Nat) (hj : j < 4) : [w0 n, w1 n, w2 n, w3 n].getD j 0 = n / ((2 ^ (64 * j) : Nat) : Int) % 18446744073709551616 := by
  match j, hj with
  | 0, _ => simp [w0]
  | 1, _ => rfl
  | 2, _ => rfl
  | 3, _ => rfl

theorem bit_high {n i : Int} (hn : 0 ≤ n ∧ n < ell) (hi : i ≥ 253) : bitI n i = 0 := by
  unfold bitI
  split
  · rename_i h
    rw [ell_lit] at hn
    obtain ⟨k, rfl⟩ := Int.eq_ofNat_of_zero_le h.1
    have h3 : (2 : Nat) ^ 253 ≤ 2 ^ k := Nat.pow_le_pow_right (by omega) (by omega)
    have : n < ((2 ^ k : Nat) : Int) := by
      have h4 : ((2 ^ 253 : Nat) : Int) ≤ ((2 ^ k : Nat) : Int) := by exact_mod_cast h3
      have h5 : ((2 ^ 253 : Nat) : Int) = 14474011154664524427946373126085988481658748083205070504932198000989141204992 := by decide
      rw [h5] at h4
      omega
    rw [Int.toNat_natCast, Int.ediv_eq_zero_of_lt hn.1 this]; rfl
  · rfl

theorem tdiv64 {i : Int} (h : 0 ≤ i) : i.tdiv 64 = i / 64 := Int.tdiv_eq_ediv_of_nonneg h
theorem tmod64 {i : Int} (h : 0 ≤ i) : i.tmod 64 = i % 64 := Int.tmod_eq_emod_of_nonneg h

/-- A bit, off its word. -/
theorem bit_at {n i x6 x7 x8 x9 x10 : Int} {j : Nat} (hi : 0 ≤ i ∧ i < 256) (hn : 0 ≤ n) (hj : (j : Int) = i / 64) (e6 : x6 = n / ((2 ^ (64 * j) : Nat) : Int) % 18446744073709551616) (e7 : x7 = i % 64) (e8 : x8 = shrI .u64 x6 x7) (r8 : InR .u64 x8) (e9 : x9 = andI .u64 x8 1) (e10 : x10 = IntKind.i64.wrap x9) :
    x10 = bitI n i := by
  obtain ⟨k, hk⟩ : ∃ k : Nat, (k : Int) = x7 := ⟨x7.toNat, by omega⟩
  have hk64 : k < 64 := by omega
  rw [← hk, shrI_u64 x6 k (by omega), e6] at e8
  rw [and1 r8, e8, bit_word hn j k hk64] at e9
  have hb : 0 ≤ x9 ∧ x9 < 2 := by omega
  rw [wrap_i64 (by omega)] at e10
  unfold bitI
  rw [if_pos hi, e10, e9]
  have : 64 * j + k = i.toNat := by omega
  rw [this]

def vc22 (a0 a1 a2 a3 i : Int) (K : SV → Prop) (Q : Nat → List Pv → Prop) : Prop := fnVc Γ7 Tryd.f22 [] [.arr .u64 4 true [a0, a1, a2, a3], .i .i64 ⟨false, i⟩] gh K Q
theorem vc22_eq : ∀ (a0 a1 a2 a3 i : Int) (K : SV → Prop) (Q : Nat → List Pv → Prop), vc22 a0 a1 a2 a3 i K Q = ((decide (i < (0 : Int)) = true → K (SV.i IntKind.i64 { st := true, z := (0 : Int) })) ∧ (decide (i < (0 : Int)) = false → (decide (i ≥ (253 : Int)) = true → K (SV.i IntKind.i64 { st := true, z := (0 : Int) })) ∧ (decide (i ≥ (253 : Int)) = false → ∀ (x1 : Int), x1 = w0 (val4 [a0, a1, a2, a3] % (7237005577332262213973186563042994240857116359379907606001950938285454250989 : Int)) → InR IntKind.u64 x1 → ∀ (x2 : Int), x2 = w1 (val4 [a0, a1, a2, a3] % (7237005577332262213973186563042994240857116359379907606001950938285454250989 : Int)) → InR IntKind.u64 x2 → ∀ (x3 : Int), x3 = w2 (val4 [a0, a1, a2, a3] % (7237005577332262213973186563042994240857116359379907606001950938285454250989 : Int)) → InR IntKind.u64 x3 → ∀ (x4 : Int), x4 = w3 (val4 [a0, a1, a2, a3] % (7237005577332262213973186563042994240857116359379907606001950938285454250989 : Int)) → InR IntKind.u64 x4 → ∀ (x5 : Int), x5 = IntKind.i64.wrap (i.tdiv (64 : Int)) → InR IntKind.i64 x5 → Need ((0 : Int) ≤ x5 ∧ x5 < (4 : Int)) ∧ ∀ (x6 : Int), x6 = [x1, x2, x3, x4].getD x5.toNat (0 : Int) → InR IntKind.u64 x6 → ∀ (x7 : Int), x7 = i.tmod (64 : Int) → InR IntKind.i64 x7 → Need ((0 : Int) ≤ x7) ∧ ∀ (x8 : Int), x8 = shrI IntKind.u64 x6 x7 → InR IntKind.u64 x8 → ∀ (x9 : Int), x9 = andI IntKind.u64 x8 (1 : Int) → InR IntKind.u64 x9 → ∀ (x10 : Int), x10 = IntKind.i64.wrap x9 → InR IntKind.i64 x10 → K (SV.i IntKind.i64 { st := false, z := x10 })))) := by
  intros
  kernel_rfl

def bitTS : List SV → Option (List Prop × SV)
  | [.arr .u64 4 _ l, .i .i64 i] => some ([], .i .i64 ⟨false, bitI (val4 l % ell) i.z⟩)
  | _ => none

theorem bitT_ok : CallOk Tryd.prog gh 22 (pureCtr bitTS) := by
  refine call_pure (fn := Tryd.f22) Γ7_ok rfl (by kernel_rfl) (by kernel_rfl) (by kernel_rfl) bitTS fun args p y hs hp hf => ?_
  unfold bitTS at hs
  split at hs
  · rename_i e1 l i
    simp only [Option.some.injEq, Prod.mk.injEq] at hs
    obtain ⟨rfl, rfl⟩ := hs
    simp only [FactVs, FactV] at hf
    obtain ⟨⟨hl, h1⟩, hi, _⟩ := hf
    obtain ⟨a0, a1, a2, a3, rfl⟩ := len4 hl
    have i0 := h1 a0 (by simp); have i1 := h1 a1 (by simp); have i2 := h1 a2 (by simp); have i3 := h1 a3 (by simp)
    refine ⟨[.arr .u64 4 true [a0, a1, a2, a3], .i .i64 ⟨false, i.z⟩], [], _, ⟨rfl, rfl, trivial⟩, Nat.le_of_ble_eq_true (by kernel_rfl), vc_noloops ?_⟩
    show vc22 a0 a1 a2 a3 i.z _ _
    rw [vc22_eq]
    generalize i.z = i at *
    have hn := mod_bd (val4 [a0, a1, a2, a3])
    refine ⟨fun h => ?_, fun h => ⟨fun h2 => ?_, fun h2 => ?_⟩⟩
    · have h := of_decide_eq_true h
      show (0 : Int) = bitI (val4 [a0, a1, a2, a3] % ell) i
      unfold bitI; rw [if_neg (by omega)]
    · have h2 := of_decide_eq_true h2
      show (0 : Int) = bitI (val4 [a0, a1, a2, a3] % ell) i
      exact (bit_high hn h2).symm
    · have h := of_decide_eq_false h
      have h2 := of_decide_eq_false h2
      intro x1 e1 r1 x2 e2 r2 x3 e3 r3 x4 e4 r4 x5 e5 r5
      rw [tdiv64 (by omega), wrap_i64 (by omega)] at e5
      obtain ⟨j, hj⟩ : ∃ j : Nat, (j : Int) = i / 64 := ⟨(i / 64).toNat, by omega⟩
      have hx5 : x5.toNat = j := by omega
      refine ⟨by unfold Need; omega, fun x6 e6 r6 x7 e7 r7 => ⟨by rw [tmod64 (by omega)] at e7; unfold Need; omega, fun x8 e8 r8 x9 e9 r9 x10 e10 r10 => ?_⟩⟩
      rw [tmod64 (by omega)] at e7
      rw [hx5, e1, e2, e3, e4] at e6
      have e6 := e6.trans (getD_words (val4 [a0, a1, a2, a3] % ell) j (by omega))
      show x10 = bitI (val4 [a0, a1, a2, a3] % ell) i
      exact bit_at (by omega) hn.1 hj e6 e7 e8 r8 e9 e10
  · cases hs

def vc23 (a0 a1 a2 a3 i : Int) (K : SV → Prop) (Q : Nat → List Pv → Prop) : Prop := fnVc Γ7 Tryd.f23 [] [.arr .u64 4 true [a0, a1, a2, a3], .i .i64 ⟨false, i⟩] gh K Q
theorem vc23_eq : ∀ (a0 a1 a2 a3 i : Int) (K : SV → Prop) (Q : Nat → List Pv → Prop), vc23 a0 a1 a2 a3 i K Q = ((decide (i < (0 : Int)) = true → K (SV.i IntKind.i64 { st := true, z := (0 : Int) })) ∧ (decide (i < (0 : Int)) = false → (decide (i ≥ (256 : Int)) = true → K (SV.i IntKind.i64 { st := true, z := (0 : Int) })) ∧ (decide (i ≥ (256 : Int)) = false → ∀ (x1 : Int), x1 = IntKind.i64.wrap (i.tdiv (64 : Int)) → InR IntKind.i64 x1 → Need ((0 : Int) ≤ x1 ∧ x1 < (4 : Int)) ∧ Need ((0 : Int) ≤ x1 ∧ x1 < (4 : Int)) ∧ ∀ (x2 : Int), x2 = [a0, a1, a2, a3].getD x1.toNat (0 : Int) → InR IntKind.u64 x2 → ∀ (x3 : Int), x3 = i.tmod (64 : Int) → InR IntKind.i64 x3 → Need ((0 : Int) ≤ x3) ∧ ∀ (x4 : Int), x4 = shrI IntKind.u64 x2 x3 → InR IntKind.u64 x4 → ∀ (x5 : Int), x5 = andI IntKind.u64 x4 (1 : Int) → InR IntKind.u64 x5 → ∀ (x6 : Int), x6 = IntKind.i64.wrap x5 → InR IntKind.i64 x6 → K (SV.i IntKind.i64 { st := false, z := x6 })))) := by
  intros
  kernel_rfl

def rbitS : List SV → Option (List Prop × SV)
  | [.arr .u64 4 _ l, .i .i64 i] => some ([], .i .i64 ⟨false, bitI (val4 l) i.z⟩)
  | _ => none

theorem rbit_ok : CallOk Tryd.prog gh 23 (pureCtr rbitS) := by
  refine call_pure (fn := Tryd.f23) Γ7_ok rfl (by kernel_rfl) (by kernel_rfl) (by kernel_rfl) rbitS fun args p y hs hp hf => ?_
  unfold rbitS at hs
  split at hs
  · rename_i e1 l i
    simp only [Option.some.injEq, Prod.mk.injEq] at hs
    obtain ⟨rfl, rfl⟩ := hs
    simp only [FactVs, FactV] at hf
    obtain ⟨⟨hl, h1⟩, hi, _⟩ := hf
    obtain ⟨a0, a1, a2, a3, rfl⟩ := len4 hl
    have i0 := h1 a0 (by simp); have i1 := h1 a1 (by simp); have i2 := h1 a2 (by simp); have i3 := h1 a3 (by simp)
    refine ⟨[.arr .u64 4 true [a0, a1, a2, a3], .i .i64 ⟨false, i.z⟩], [], _, ⟨rfl, rfl, trivial⟩, Nat.le_of_ble_eq_true (by kernel_rfl), vc_noloops ?_⟩
    show vc23 a0 a1 a2 a3 i.z _ _
    rw [vc23_eq]
    generalize i.z = i at *
    have hn := val4_bd i0 i1 i2 i3
    refine ⟨fun h => ?_, fun h => ⟨fun h2 => ?_, fun h2 => ?_⟩⟩
    · have h := of_decide_eq_true h
      show (0 : Int) = bitI (val4 [a0, a1, a2, a3]) i
      unfold bitI; rw [if_neg (by omega)]
    · have h2 := of_decide_eq_true h2
      show (0 : Int) = bitI (val4 [a0, a1, a2, a3]) i
      unfold bitI; rw [if_neg (by omega)]
    · have h := of_decide_eq_false h
      have h2 := of_decide_eq_false h2
      intro x5 e5 r5
      rw [tdiv64 (by omega), wrap_i64 (by omega)] at e5
      obtain ⟨j, hj⟩ : ∃ j : Nat, (j : Int) = i / 64 := ⟨(i / 64).toNat, by omega⟩
      have hx5 : x5.toNat = j := by omega
      refine ⟨by unfold Need; omega, by unfold Need; omega, fun x6 e6 r6 x7 e7 r7 => ⟨by rw [tmod64 (by omega)] at e7; unfold Need; omega, fun x8 e8 r8 x9 e9 r9 x10 e10 r10 => ?_⟩⟩
      rw [tmod64 (by omega)] at e7
      rw [hx5, ← words_val i0 i1 i2 i3] at e6
      have e6 := e6.trans (getD_words (val4 [a0, a1, a2, a3]) j (by omega))
      show x10 = bitI (val4 [a0, a1, a2, a3]) i
      exact bit_at (by omega) hn.1 hj e6 e7 e8 r8 e9 e10
  · cases hs

def Γ8 : Tab := ⟨tys, [(17, pureCtr ofS), (18, pureCtr sameS), (19, pureCtr rsameS), (20, pureCtr isZeroS), (21, pureCtr risZeroS), (22, pureCtr bitTS), (23, pureCtr rbitS), (24, pureCtr isTS), (25, pureCtr selS), (26, pureCtr rselS)] ++ Γ7.ctr, [0], gh⟩
theorem Γ8_ok : TabOk Tryd.prog Γ8 := (((((((((Γ7_ok.cons rsel_ok).cons sel_ok).cons isT_ok).cons rbit_ok).cons bitT_ok).cons risZero_ok).cons isZero_ok).cons rsame_ok).cons same_ok).cons of_ok

end Go.Gx

/- From a law's call to what its row asks, for laws that only read. -/
namespace Go.Gx
open Go.ChangeShapes Go.WideShapes Go.ChangeAt Go.RowKit
set_option linter.unusedVariables false

section
variable {P : Program}

/-- All arguments read behind the call as they did. -/
theorem below_trodAll {H : Type} {enc : TypeId × Value → H} {W W' : World} (hl : laidOutB P = true) (hB : Below W.heap.size W W') {sp : Nat → Bool} : ∀ {ts : List TypeId} {vs : List Value} {ds : List (DataW H)} {ps : List MemPlace},
    (∀ t ∈ ts, P.readableRec t = true ∧ t < P.types.size) → DataW.TrodAll enc P W 0 (fun _ => true) true ts vs ds ps → (∀ p ∈ ps, p.block < W.heap.size) → (∀ p ∈ ps, sp p.block = true) → DataW.TrodAll enc P W' 0 sp true ts vs ds ps
  | [], _, _, _, _, h, _, _ => by
    obtain ⟨rfl, rfl, rfl⟩ := trodAll_nil h
    exact trodAll_mk0
  | t :: ts, _, _, _, ht, h, hlt, hs => by
    obtain ⟨v, vs1, d, ds1, p, q, rfl, rfl, rfl, h1, h2⟩ := trodAll_cons h
    have := ht t (by simp)
    exact trodAll_cons_mk (WideElems.Trod_stays hl this.1 this.2 h1 (fun x hx => hB.same (hlt x (by simp [hx]))) fun x hx => hs x (by simp [hx]))
      (below_trodAll hl hB (fun t h => ht t (by simp [h])) h2 (fun x hx => hlt x (by simp [hx])) fun x hx => hs x (by simp [hx]))

/-- What a row asks behind a call that has answered true and turned nothing old. -/
theorem post_true {H : Type} {enc : TypeId × Value → H} {f : Func} {s : ChangeSpec} {tb : TypeId} {W W' : World} {args : Array Value} {ds gs : List (DataW H)} {before : List MemPlace}
    (hl : laidOutB P = true) (hv : s.vars = []) (hr : f.resultTypes = #[tb]) (hb : P.underlying tb = some .bool) (hread : ∀ t ∈ f.params.toList, P.readableRec t = true ∧ t < P.types.size)
    (hfn : ∀ ds : List (DataW H), ds.length = f.params.size → (s.fn H ds).results = [.lit (.bool true)] ∧ (s.fn H ds).args = ds ∧ (s.fn H ds).vars = [])
    (hW : DataW.Whole enc P f.params.toList s.vars false W args.toList ds gs before) (hB : Below W.heap.size W W') : s.post enc P f false true false false W args (.bool true) W' := by
  have hW' := hW
  obtain ⟨p, q, hA0, hV, rfl, hz, hn⟩ := hW
  have hA : DataW.TrodAll enc P W 0 (fun _ => true) true f.params.toList args.toList ds p := hA0
  rw [hv] at hV
  obtain ⟨rfl, rfl⟩ := trodVars_none hV
  have hlen : ds.length = f.params.size := by
    have : ∀ {ts : List TypeId} {vs : List Value} {ds : List (DataW H)} {ps : List MemPlace}, DataW.TrodAll enc P W 0 (fun _ => true) true ts vs ds ps → ds.length = ts.length := by
      intro ts
      induction ts with
      | nil => intro vs ds ps h; obtain ⟨_, rfl, _⟩ := trodAll_nil h; rfl
      | cons t ts ih => intro vs ds ps h; obtain ⟨_, _, _, _, _, _, rfl, rfl, rfl, _, h2⟩ := trodAll_cons h; simp [ih h2]
    simpa using this hA
  obtain ⟨k1, k2, k3⟩ := hfn ds hlen
  have hlt : ∀ x ∈ p, x.block < W.heap.size := fun x hx => hW'.lt x (by simp [hx])
  have hres : ∀ (b : Nat) (sp : Nat → Bool) (hd : Bool), DataW.TrodAll enc P W' b sp hd f.resultTypes.toList ((Value.bool true).resultList f.resultTypes.size) (s.fn H (ds ++ [])).results [] := fun b sp hd => by
    rw [List.append_nil, k1, hr]
    exact trodAll_cons_mk (shut_bool hb _) trodAll_mk0
  have hargs : ∀ sp : Nat → Bool, (∀ x ∈ p, sp x.block = true) → DataW.TrodAll enc P W' 0 sp true f.params.toList args.toList (s.fn H (ds ++ [])).args p := fun sp hs => by
    rw [List.append_nil, k2]
    exact below_trodAll hl hB hread hA hlt hs
  have hvars : ∀ sp : Nat → Bool, DataW.TrodVars enc P W' sp s.vars (s.fn H (ds ++ [])).vars [] := fun sp => by
    rw [List.append_nil, k3, hv]; rfl
  refine ⟨ds, [], p ++ [], [], p, [], hW', hres _ _ _, hargs _ (fun x hx => by simpa using hlt x hx), hvars _, hB.frame _, fun _ => ?_⟩
  refine ⟨ok_one hr rfl (okWide_bool_mk hb _), _, _, ([] ++ p) ++ [], ⟨[] ++ p, [], trodAll_append (hargs _ (fun _ _ => rfl)) (hres _ _ _), hvars _, rfl, ?_, ?_⟩, ?_⟩
  · intro b off hp
    have hp' : MemPlace.cell b off ∈ p := by simpa using hp
    rw [hB.frozen (hlt _ hp')]
    exact hz b off (by simpa using hp')
  · intro ha
    have := hn ha
    simpa using this
  · intro x hx _
    simpa using hx

theorem chunks {α : Type} {n : Nat} : ∀ (m : Nat) (cs : List α) (f : Nat → List α), cs.length = m * n → (∀ i, i < m → (cs.drop (i * n)).take n = f i) → cs = ((List.range m).map f).flatten
  | 0, cs, f, hl, _ => by
    have : cs = [] := List.length_eq_zero_iff.1 (by simpa using hl)
    simp [this]
  | m + 1, cs, f, hl, h => by
    have ih := chunks (n := n) m (cs.drop n) (fun i => f (i + 1)) (by rw [List.length_drop, hl, Nat.succ_mul]; omega) fun i hi => by
      rw [List.drop_drop, ← h (i + 1) (by omega), Nat.succ_mul, Nat.add_comm n]
    have h0 := h 0 (by omega)
    rw [Nat.zero_mul, List.drop_zero] at h0
    rw [List.range_succ_eq_map, List.map_cons, List.flatten_cons, List.map_map]
    conv => lhs; rw [← List.take_append_drop n cs]
    rw [h0, ih]
    rfl

/-- A listed table of rows of numbers: its cells. -/
theorem tab2_of_head {W : World} {name : String} {k : IntKind} {rows : List (List Int)} {rest : List (String × DataW Unit)} {g : Nat} {t e1 e : TypeId} {m n : Nat}
    (hg : P.globalNamed name = some g) (hty : (P.globals[g]?).map (·.type) = some t) (ht : P.underlying t = some (.array m e1)) (ht1 : P.underlying e1 = some (.array n e)) (he : P.underlying e = some (.int k)) (hce : P.cellsOf e = 1) (hc1 : P.cellsOf e1 = n) (hct : P.cellsOf t = m * n)
    (h : laidMet P ((name, .agg (rows.map (Lib.tabData k))) :: rest) W) : W.rangeAt g 0 ((List.range m).map fun i => (rows.getD i []).map (Value.int k)).flatten ∧ g < W.heap.size := by
  obtain ⟨ps, ⟨g', t', cs, fuel, p, q, hg', ht', hvar, hd, _, _⟩, _⟩ := h
  obtain rfl := Option.some.inj (hg.symm.trans hg')
  obtain rfl := Option.some.inj (hty.symm.trans ht')
  have hcs : cs.toList = ((List.range m).map fun i => (rows.getD i []).map (Value.int k)).flatten := by
    cases fuel with
    | zero => simp [DataW.trod] at hd
    | succ fuel =>
      simp only [DataW.trod, ht, hc1, hct] at hd
      split at hd
      · rename_i hl
        obtain ⟨xs, hm, hx⟩ := Option.map_eq_some_iff.1 hd
        have hxs : xs.map (·.1) = rows.map (Lib.tabData k) := by
          have := congrArg Prod.fst hx
          simpa using this
        have hxl : xs.length = m := by simpa using Lib.mapM_length hm
        have hrl : rows.length = m := by
          have := congrArg List.length hxs
          simp at this
          omega
        refine chunks m _ _ hl fun i hi => ?_
        obtain ⟨b, hb, hf⟩ := Lib.mapM_at hm i i (by simp [hi])
        have h2 : (xs.map (·.1))[i]? = some b.1 := by simp [hb]
        rw [hxs] at h2
        simp only [List.getElem?_map, Option.map_eq_some_iff] at h2
        obtain ⟨r, hr, hrb⟩ := h2
        have hf' : DataW.trod (fun _ => ()) P W 0 (fun _ => true) false fuel e1 ((cs.toList.drop (i * n)).take n) = some (Lib.tabData k r, b.2) := by
          rw [hrb]; exact hf
        rw [Lib.cells_of_tab ht1 he hce hc1 hf']
        simp [List.getD, hr]
      · cases hd
  constructor
  · rw [← hcs]
    intro j v hj
    have := World.var?_cell hg hvar j
    rw [Nat.zero_add, this]
    simpa using hj
  · unfold World.var? at hvar
    rw [hg] at hvar
    simp only [Option.bind_some] at hvar
    split at hvar
    · rename_i hh
      exact (Array.getElem?_eq_some_iff.1 hh).1
    · cases hvar

theorem mem_start (W : World) (ρ : Nat → Pl) : Mem W (fun _ => False) ρ (fun _ => none) W :=
  ⟨by constructor <;> (intros; contradiction), FrameW.refl _ _, by intros; contradiction, by intros; contradiction, by intros; contradiction, .none (fun _ _ _ h => by cases h)⟩

end
end Go.Gx

/- The table of the program, and its cells in a row's world; what all rows of this seat ask. -/
namespace Go.Gx
open Go.Proofs Go.Sp Go.Proofs.YtnjcbedjhokfhaaDoor
open Go.ChangeShapes Go.WideShapes Go.ChangeAt Go.RowKit
set_option linter.unusedVariables false

theorem gTab : Tryd.prog.globalNamed "veil/scalar.table" = some 0 := by kernel_rfl
theorem gTabType : (Tryd.prog.globals[0]?).map (·.type) = some 100 := by kernel_rfl
def tabRows : List (List Int) := [[6346243789798364141, 1503914060200516822, 0, 1152921504606846976], [15486807595281847581, 14334777244411350896, 18446744073709551614, 1152921504606846975], [11819153939886771969, 14991950615390032711, 14910419812499177061, 259310039853996605], [6346243789798364139, 1503914060200516822, 0, 1152921504606846976]]

theorem tab_glob {W : World} (h : laidMetH Tryd.prog [("veil/scalar.table", Rows.laid_veil_scalar_table)] W) : Glob gh W fun _ => False := by
  have h' : laidMet Tryd.prog (("veil/scalar.table", .agg (tabRows.map (Lib.tabData .u64))) :: []) W := h
  obtain ⟨h1, h2⟩ := tab2_of_head (m := 4) (n := 4) gTab gTabType (e1 := 25) (e := 22) (by kernel_rfl) (by kernel_rfl) (by kernel_rfl) (by kernel_rfl) (by kernel_rfl) (by kernel_rfl) h'
  intro g b hb
  simp only [gh, List.mem_singleton, Prod.mk.injEq] at hb
  obtain ⟨rfl, rfl⟩ := hb
  refine ⟨_, _, rfl, ?_, h1, fun x => x, h2⟩
  have ok : ∀ r ∈ tabRows, r.length = 4 ∧ AllR .u64 r := by
    intro r hr
    simp only [tabRows, List.mem_cons, List.not_mem_nil, or_false] at hr
    rcases hr with rfl | rfl | rfl | rfl <;> refine ⟨rfl, fun z hz => ?_⟩ <;> simp only [List.mem_cons, List.not_mem_nil, or_false] at hz <;> rcases hz with rfl | rfl | rfl | rfl <;> exact ⟨by decide, by decide⟩
  have o0 := ok _ (List.mem_of_getElem? (show tabRows[0]? = some _ from rfl))
  have o1 := ok _ (List.mem_of_getElem? (show tabRows[1]? = some _ from rfl))
  have o2 := ok _ (List.mem_of_getElem? (show tabRows[2]? = some _ from rfl))
  have o3 := ok _ (List.mem_of_getElem? (show tabRows[3]? = some _ from rfl))
  exact ⟨_, _, ⟨o0.1, o0.2, rfl⟩, rfl, _, _, ⟨o1.1, o1.2, rfl⟩, rfl, _, _, ⟨o2.1, o2.2, rfl⟩, rfl, _, _, ⟨o3.1, o3.2, rfl⟩, rfl, rfl⟩

/-- A world for the witness: the settled one, the table laid. -/
noncomputable def laidWorld (os : Os) : World :=
  { World.holding Tryd.prog os ⟨#[], #[], []⟩ with heap := (World.holding Tryd.prog os ⟨#[], #[], []⟩).heap.modify 0 fun
      | .cells _ t frozen => .cells #[.int .u64 6346243789798364141, .int .u64 1503914060200516822, .int .u64 0, .int .u64 1152921504606846976, .int .u64 15486807595281847581, .int .u64 14334777244411350896, .int .u64 18446744073709551614, .int .u64 1152921504606846975, .int .u64 11819153939886771969, .int .u64 14991950615390032711, .int .u64 14910419812499177061, .int .u64 259310039853996605, .int .u64 6346243789798364139, .int .u64 1503914060200516822, .int .u64 0, .int .u64 1152921504606846976] t frozen
      | o => o }

theorem own : ownKnob Tryd.prog.godebug = none := by kernel_rfl
theorem laidOut : laidOutB Tryd.prog = true := by kernel_rfl

end Go.Gx

/- Numbers: primes, what a power leaves, a proof that the order is a prime. No program in sight. -/
namespace Go.Nt

def Pr (p : Nat) : Prop := 2 ≤ p ∧ ∀ d, d ∣ p → d = 1 ∨ d = p

theorem Pr.cop {p a : Nat} (h : Pr p) (ha : ¬ p ∣ a) : Nat.gcd a p = 1 := by
  rcases h.2 (Nat.gcd a p) (Nat.gcd_dvd_right a p) with e | e
  · exact e
  · exact absurd (e ▸ Nat.gcd_dvd_left a p) ha

theorem perm_of : ∀ (l1 l2 : List Nat), l1.Nodup → (∀ x ∈ l1, x ∈ l2) → l2.length ≤ l1.length → l1.Perm l2
  | [], l2, _, _, hl => by
    have : l2 = [] := List.length_eq_zero_iff.1 (by simpa using hl)
    rw [this]
  | a :: l1, l2, hn, hs, hl => by
    have ha : a ∈ l2 := hs a (by simp)
    have hp := List.perm_cons_erase ha
    rw [List.nodup_cons] at hn
    have h1 : l1.Perm (l2.erase a) := perm_of l1 (l2.erase a) hn.2 (fun x hx => (List.mem_erase_of_ne (fun e => hn.1 (by rw [← e]; exact hx))).2 (hs x (by simp [hx]))) (by
      rw [List.length_erase_of_mem ha]; simp at hl; omega)
    exact (h1.cons a).trans hp.symm

def prod : List Nat → Nat
  | [] => 1
  | a :: l => a * prod l

theorem prod_perm {l1 l2 : List Nat} (h : l1.Perm l2) : prod l1 = prod l2 := by
  induction h with
  | nil => rfl
  | cons x _ ih => simp [prod, ih]
  | swap x y l => simp [prod, Nat.mul_left_comm]
  | trans _ _ a b => rw [a, b]

theorem prod_map (a p : Nat) : ∀ l : List Nat, prod (l.map fun i => a * i % p) % p = a ^ l.length * prod l % p
  | [] => by simp [prod]
  | i :: l => by
    have ih := prod_map a p l
    simp only [List.map_cons, prod, List.length_cons]
    rw [Nat.mul_mod, ih, Nat.mod_mod, ← Nat.mul_mod]
    congr 1
    rw [Nat.pow_succ]; simp only [Nat.mul_assoc, Nat.mul_left_comm, Nat.mul_comm]

theorem cop_prod {p : Nat} (h : Pr p) : ∀ l : List Nat, (∀ x ∈ l, ¬ p ∣ x) → Nat.gcd (prod l) p = 1
  | [], _ => by simp [prod]
  | a :: l, hl => by
    simp only [prod]
    exact Nat.Coprime.mul_left (h.cop (hl a (by simp))) (cop_prod h l fun x hx => hl x (by simp [hx]))

theorem cancel_mod {a b c p : Nat} (hc : Nat.gcd c p = 1) (h : a * c % p = b * c % p) : a % p = b % p := by
  rcases Nat.le_total b a with hab | hab
  · have h2 : p ∣ (a - b) * c := by
      rw [Nat.sub_mul]
      exact Nat.dvd_of_mod_eq_zero (Nat.sub_mod_eq_zero_of_mod_eq h)
    have h3 : p ∣ a - b := Nat.Coprime.dvd_of_dvd_mul_right (Nat.Coprime.symm hc) h2
    obtain ⟨k, hk⟩ := h3
    have : a = b + p * k := by omega
    rw [this, Nat.add_mul_mod_self_left]
  · have h2 : p ∣ (b - a) * c := by
      rw [Nat.sub_mul]
      exact Nat.dvd_of_mod_eq_zero (Nat.sub_mod_eq_zero_of_mod_eq h.symm)
    have h3 : p ∣ b - a := Nat.Coprime.dvd_of_dvd_mul_right (Nat.Coprime.symm hc) h2
    obtain ⟨k, hk⟩ := h3
    have : b = a + p * k := by omega
    rw [this, Nat.add_mul_mod_self_left]

theorem Pr.dvd_mul {p a b : Nat} (h : Pr p) (hd : p ∣ a * b) : p ∣ a ∨ p ∣ b := by
  by_cases ha : p ∣ a
  · exact .inl ha
  · exact .inr (Nat.Coprime.dvd_of_dvd_mul_left (Nat.Coprime.symm (h.cop ha)) hd)

/-- A power to the order is one. -/
theorem fermat {p a : Nat} (h : Pr p) (ha : ¬ p ∣ a) : a ^ (p - 1) % p = 1 := by
  have hp := h.1
  let l := List.range' 1 (p - 1)
  have hl : ∀ x ∈ l, ¬ p ∣ x := fun x hx hd => by
    simp only [l, List.mem_range'_1] at hx
    have := Nat.le_of_dvd (by omega) hd
    omega
  have hper : (l.map fun i => a * i % p).Perm l := by
    apply perm_of
    · unfold List.Nodup
      rw [List.pairwise_map]
      have hnd : l.Nodup := List.nodup_range'
      refine List.Pairwise.imp_of_mem (fun {x y} hx hy hxy he => hxy ?_) hnd
      have e : x % p = y % p := by
        apply cancel_mod (h.cop ha)
        rw [Nat.mul_comm x, Nat.mul_comm y]; exact he
      simp only [l, List.mem_range'_1] at hx hy
      rwa [Nat.mod_eq_of_lt (by omega), Nat.mod_eq_of_lt (by omega)] at e
    · intro x hx
      obtain ⟨i, hi, rfl⟩ := List.mem_map.1 hx
      have h0 : a * i % p ≠ 0 := fun e => by
        rcases h.dvd_mul (Nat.dvd_of_mod_eq_zero e) with e | e
        · exact ha e
        · exact hl i hi e
      have h1 := Nat.mod_lt (a * i) (show 0 < p by omega)
      simp only [l, List.mem_range'_1]
      omega
    · simp
  have e1 := prod_map a p l
  rw [prod_perm hper] at e1
  have e2 : a ^ (p - 1) * prod l % p = 1 * prod l % p := by
    rw [Nat.one_mul, e1]
    congr 2
    simp [l]
  have := cancel_mod (cop_prod h l hl) e2
  rw [this]
  exact Nat.mod_eq_of_lt (by omega)

theorem pow_gcd {q c : Nat} (hq : 1 < q) : ∀ m n : Nat, c ^ m % q = 1 → c ^ n % q = 1 → c ^ Nat.gcd m n % q = 1 := by
  intro m
  induction m using Nat.strongRecOn with
  | ind m ih =>
    intro n hm hn
    by_cases h0 : m = 0
    · subst h0; simpa using hn
    · rw [Nat.gcd_rec]
      refine ih (n % m) (Nat.mod_lt _ (by omega)) m ?_ hm
      have e : c ^ n = (c ^ m) ^ (n / m) * c ^ (n % m) := by
        rw [← Nat.pow_mul, ← Nat.pow_add, Nat.div_add_mod]
      rw [e, Nat.mul_mod, Nat.pow_mod, hm, Nat.one_pow, Nat.mod_eq_of_lt hq, Nat.one_mul, Nat.mod_mod] at hn
      exact hn

/-- Power by squarings, modulo n: for the kernel. -/
def pm (n : Nat) : Nat → Nat → Nat → Nat
  | 0, _, _ => 1 % n
  | k + 1, a, e => if e % 2 = 1 then a * pm n k (a * a % n) (e / 2) % n else pm n k (a * a % n) (e / 2)

theorem pm_eq (n : Nat) : ∀ k a e, e < 2 ^ k → pm n k a e = a ^ e % n
  | 0, a, e, h => by
    have : e = 0 := by simpa using h
    subst this; rfl
  | k + 1, a, e, h => by
    have ih := pm_eq n k (a * a % n) (e / 2) (by rw [Nat.pow_succ] at h; omega)
    have e2 : (a * a % n) ^ (e / 2) % n = (a ^ 2) ^ (e / 2) % n := by rw [← Nat.pow_mod, Nat.pow_two]
    rw [← Nat.pow_mul] at e2
    unfold pm
    rw [ih, e2]
    split
    · rename_i ho
      rw [Nat.mul_mod, Nat.mod_mod, ← Nat.mul_mod, ← Nat.pow_succ']
      congr 2; omega
    · congr 2; omega

/-- Any number from two on has a prime divisor. -/
theorem exists_pr : ∀ n : Nat, 2 ≤ n → ∃ q, Pr q ∧ q ∣ n := by
  intro n
  induction n using Nat.strongRecOn with
  | ind n ih =>
    intro hn
    by_cases hp : Pr n
    · exact ⟨n, hp, Nat.dvd_refl n⟩
    · have : ∃ d, d ∣ n ∧ d ≠ 1 ∧ d ≠ n := by
        refine Classical.byContradiction fun hc => hp ⟨hn, fun d hd => ?_⟩
        refine Classical.byContradiction fun h2 => hc ⟨d, hd, fun e => h2 (.inl e), fun e => h2 (.inr e)⟩
      obtain ⟨d, hd, h1, h2⟩ := this
      have hle := Nat.le_of_dvd (by omega) hd
      have h0 : d ≠ 0 := fun e => by subst e; have := Nat.eq_zero_of_zero_dvd hd; omega
      obtain ⟨q, hq, hqd⟩ := ih d (by omega) (by omega)
      exact ⟨q, hq, Nat.dvd_trans hqd hd⟩

theorem pr_of_big {n : Nat} (hn : 2 ≤ n) (h : ∀ q, Pr q → q ∣ n → n < q * q) : Pr n := by
  refine ⟨hn, fun d hd => ?_⟩
  refine Classical.byContradiction fun hc => ?_
  have h1 : d ≠ 1 := fun e => hc (.inl e)
  have h2 : d ≠ n := fun e => hc (.inr e)
  obtain ⟨k, hk⟩ := hd
  have hd0 : d ≠ 0 := fun e => by subst e; omega
  have hk1 : k ≠ 1 := fun e => by subst e; omega
  have hk0 : k ≠ 0 := fun e => by subst e; omega
  obtain ⟨q, hq, hqd⟩ := exists_pr d (by omega)
  obtain ⟨r, hr, hrd⟩ := exists_pr k (by omega)
  have a1 := h q hq (Nat.dvd_trans hqd ⟨k, hk⟩)
  have a2 := h r hr (Nat.dvd_trans hrd ⟨d, by rw [hk, Nat.mul_comm]⟩)
  have b1 := Nat.le_of_dvd (by omega) hqd
  have b2 := Nat.le_of_dvd (by omega) hrd
  have c1 : q * r ≤ n := by rw [hk]; exact Nat.mul_le_mul b1 b2
  rcases Nat.le_total q r with hqr | hqr
  · have := Nat.mul_le_mul_left q hqr; omega
  · have := Nat.mul_le_mul_right r hqr; omega

/-- What a prime factor p of n - 1 says of n's prime divisors (b: a power that is told by its root). -/
theorem step {n p a : Nat} (hp : Pr p) (hd : p * ((n - 1) / p) = n - 1) (hn : 2 ≤ n) (h1 : a ^ (n - 1) % n = 1) (h2 : Nat.gcd (a ^ ((n - 1) / p) % n + (n - 1)) n = 1) {q : Nat} (hq : Pr q) (hqn : q ∣ n) : q % p = 1 := by
  have hq2 := hq.1
  have hmod : ∀ x, x % n % q = x % q := fun x => Nat.mod_mod_of_dvd x hqn
  have hc1 : (a ^ ((n - 1) / p)) ^ p % q = 1 := by
    rw [← Nat.pow_mul, Nat.mul_comm, hd, ← hmod, h1]; exact Nat.mod_eq_of_lt (by omega)
  have hnc : (a ^ ((n - 1) / p)) % q ≠ 1 := fun e => by
    have : q ∣ a ^ ((n - 1) / p) % n + (n - 1) := by
      apply Nat.dvd_of_mod_eq_zero
      rw [Nat.add_mod, hmod, e]
      obtain ⟨k, hk⟩ := hqn
      have hk0 : k ≠ 0 := fun e => by subst e; omega
      obtain ⟨j, rfl⟩ : ∃ j, k = j + 1 := ⟨k - 1, by omega⟩
      have e3 : n - 1 = q * j + (q - 1) := by rw [hk, Nat.mul_succ]; omega
      rw [e3, Nat.mul_add_mod, Nat.mod_eq_of_lt (show q - 1 < q by omega)]
      rw [show 1 + (q - 1) = q by omega, Nat.mod_self]
    have h4 := Nat.dvd_gcd this hqn
    rw [h2] at h4
    have := Nat.le_of_dvd (by omega) h4
    omega
  have hqa : ¬ q ∣ a ^ ((n - 1) / p) := fun e => by
    obtain ⟨k, hk⟩ := e
    have hp2 := hp.1
    have : (a ^ ((n - 1) / p)) ^ p % q = 0 := by
      rw [Nat.pow_mod, hk, Nat.mul_mod_right, Nat.zero_pow (by omega), Nat.zero_mod]
    omega
  have hf := fermat hq hqa
  have hg := pow_gcd (by omega) _ _ hc1 hf
  rcases hp.2 (Nat.gcd p (q - 1)) (Nat.gcd_dvd_left _ _) with e | e
  · rw [e, Nat.pow_one] at hg; exact absurd hg hnc
  · have : p ∣ q - 1 := e ▸ Nat.gcd_dvd_right p (q - 1)
    obtain ⟨k, hk⟩ := this
    have : q = 1 + p * k := by omega
    rw [this, Nat.add_mul_mod_self_left]
    exact Nat.mod_eq_of_lt hp.1

theorem big_of {p q n : Nat} (hq : Pr q) (h : q % p = 1) (hn : n < (p + 1) * (p + 1)) : n < q * q := by
  have : p + 1 ≤ q := by
    have := Nat.div_add_mod q p
    have h2 := hq.1
    rcases Nat.eq_zero_or_pos (q / p) with e | e
    · rw [e, Nat.mul_zero] at this; omega
    · have := Nat.le_mul_of_pos_right p e; omega
  exact Nat.lt_of_lt_of_le hn (Nat.mul_le_mul this this)

/-- One link: n is a prime, as p is (the checks are for the kernel). -/
theorem link {n p a k : Nat} (hp : Pr p) (hc : (p * ((n - 1) / p) == n - 1 && Nat.ble 2 n && Nat.blt n ((p + 1) * (p + 1)) && Nat.blt n (2 ^ k) && pm n k a (n - 1) == 1 && Nat.gcd (pm n k a ((n - 1) / p) + (n - 1)) n == 1) = true) : Pr n := by
  simp only [Bool.and_eq_true, beq_iff_eq] at hc
  obtain ⟨⟨⟨⟨⟨h1, h2⟩, h3⟩, h4⟩, h5⟩, h6⟩ := hc
  replace h2 := Nat.le_of_ble_eq_true h2
  simp only [Nat.blt_eq] at h3 h4
  have hlt : n - 1 < 2 ^ k := by omega
  rw [pm_eq n k a _ hlt] at h5
  rw [pm_eq n k a _ (Nat.lt_of_le_of_lt (Nat.div_le_self _ _) hlt)] at h6
  exact pr_of_big h2 fun q hq hd => big_of hq (step hp h1 h2 h5 h6 hq hd) h3

/-- Two primes together. -/
theorem link2 {n p r a b k : Nat} (hp : Pr p) (hr : Pr r) (hc : (p * ((n - 1) / p) == n - 1 && r * ((n - 1) / r) == n - 1 && Nat.ble 2 n && Nat.blt n ((p * r) * (p * r)) && Nat.blt n (2 ^ k) && pm n k a (n - 1) == 1 && Nat.gcd (pm n k a ((n - 1) / p) + (n - 1)) n == 1 && pm n k b (n - 1) == 1 && Nat.gcd (pm n k b ((n - 1) / r) + (n - 1)) n == 1 && Nat.gcd p r == 1) = true) : Pr n := by
  simp only [Bool.and_eq_true, beq_iff_eq] at hc
  obtain ⟨⟨⟨⟨⟨⟨⟨⟨⟨h1, h1'⟩, h2⟩, h3⟩, h4⟩, h5⟩, h6⟩, h7⟩, h8⟩, h9⟩ := hc
  replace h2 := Nat.le_of_ble_eq_true h2
  simp only [Nat.blt_eq] at h3 h4
  have hlt : n - 1 < 2 ^ k := by omega
  have hle : ∀ x, (n - 1) / x < 2 ^ k := fun x => Nat.lt_of_le_of_lt (Nat.div_le_self _ _) hlt
  rw [pm_eq n k _ _ hlt] at h5 h7
  rw [pm_eq n k _ _ (hle _)] at h6 h8
  refine pr_of_big h2 fun q hq hd => ?_
  have a1 := step hp h1 h2 h5 h6 hq hd
  have a2 := step hr h1' h2 h7 h8 hq hd
  have d1 : p ∣ q - 1 := by
    have := Nat.div_add_mod q p
    exact ⟨q / p, by omega⟩
  have d2 : r ∣ q - 1 := by
    have := Nat.div_add_mod q r
    exact ⟨q / r, by omega⟩
  have d3 : p * r ∣ q - 1 := Nat.Coprime.mul_dvd_of_dvd_of_dvd h9 d1 d2
  have hq2 := hq.1
  have := Nat.le_of_dvd (by omega) d3
  exact Nat.lt_of_lt_of_le h3 (Nat.mul_le_mul (by omega) (by omega))

/-- A small prime, by trial. -/
theorem small {n m : Nat} (hc : (Nat.ble 2 n && Nat.blt n (m * m) && (List.range m).all fun d => Nat.ble d 1 || n % d != 0 || d == n) = true) : Pr n := by
  simp only [Bool.and_eq_true] at hc
  obtain ⟨⟨h1, h2⟩, h3⟩ := hc
  replace h1 := Nat.le_of_ble_eq_true h1
  simp only [Nat.blt_eq] at h2
  rw [List.all_eq_true] at h3
  refine ⟨h1, fun d hd => Classical.byContradiction fun hc => ?_⟩
  have e1 : d ≠ 1 := fun e => hc (.inl e)
  have e2 : d ≠ n := fun e => hc (.inr e)
  obtain ⟨k, hk⟩ := hd
  have hd0 : d ≠ 0 := fun e => by subst e; omega
  have hk1 : k ≠ 1 := fun e => by subst e; omega
  have hk0 : k ≠ 0 := fun e => by subst e; omega
  have hkn : k ≠ n := fun e => by
    have : d * k = 1 * k := by omega
    exact e1 (Nat.eq_of_mul_eq_mul_right (by omega) this)
  have key : ∀ x, x ∣ n → x ≠ 0 → x ≠ 1 → x ≠ n → m ≤ x := fun x hx x0 x1 xn => Nat.le_of_not_lt fun hlt => by
    have := h3 x (List.mem_range.2 hlt)
    simp only [Bool.or_eq_true, bne_iff_ne, beq_iff_eq] at this
    rcases this with (t | t) | t
    · have := Nat.le_of_ble_eq_true t; omega
    · exact t (Nat.mod_eq_zero_of_dvd hx)
    · exact xn t
  have k1 := key d ⟨k, hk⟩ hd0 e1 e2
  have k2 := key k ⟨d, by rw [hk, Nat.mul_comm]⟩ hk0 hk1 hkn
  have := Nat.mul_le_mul k1 k2
  omega

theorem pr1 : Pr 531581 := small (m := 730) (by decide +kernel)
theorem pr2 : Pr 1224481 := small (m := 1107) (by decide +kernel)
theorem pr3 : Pr 1257559732178653 := link2 (a := 2) (b := 2) (k := 51) pr1 pr2 (by decide +kernel)
theorem pr4 : Pr 4434155615661930479 := link (a := 2) (k := 62) pr3 (by decide +kernel)
theorem pr5 : Pr 172054593956031949258510691 := link (a := 2) (k := 88) pr4 (by decide +kernel)
theorem pr6 : Pr 19757330305831588566944191468367130476339 := link (a := 2) (k := 134) pr5 (by decide +kernel)
theorem pr7 : Pr 276602624281642239937218680557139826668747 := link (a := 2) (k := 138) pr6 (by decide +kernel)
/-- The order is a prime. -/
theorem prL : Pr 7237005577332262213973186563042994240857116359379907606001950938285454250989 := link (a := 2) (k := 253) pr7 (by decide +kernel)
end Go.Nt

/- Numbers modulo the order. -/
namespace Go.Gx
open Go.Proofs Go.Sp
set_option linter.unusedVariables false

/-- 1 / 2^256 modulo the order. -/
def _root_.Go.Sp.rinv : Int := 4458503529701987551646482192314240623644693141688353256590997718326214331684
open Go.Sp (rinv)
/-- a b / 2^256 modulo the order. -/
def _root_.Go.Sp.prI (a b : Int) : Int := a * b * rinv % ell
def _root_.Go.Sp.mlL (a b : Int) : Int := a * b % ell
def _root_.Go.Sp.adL (a b : Int) : Int := (a + b) % ell
def _root_.Go.Sp.sbL (a b : Int) : Int := (a - b) % ell
def _root_.Go.Sp.pwL (a e : Int) : Int := a ^ e.toNat % ell
open Go.Sp (prI mlL adL sbL pwL)

theorem ell_pos : (0 : Int) < ell := by decide
theorem rr : (115792089237316195423570985008687907853269984665640564039457584007913129639936 * rinv) % ell = 1 := by decide

theorem bd (x : Int) : 0 ≤ x % ell ∧ x % ell < ell := ⟨Int.emod_nonneg _ (by decide), Int.emod_lt_of_pos _ ell_pos⟩

theorem pr_of {a b t k : Int} (h : 115792089237316195423570985008687907853269984665640564039457584007913129639936 * t = a * b + k * ell) : t % ell = prI a b := by
  unfold prI
  have h1 : a * b * rinv = t * (115792089237316195423570985008687907853269984665640564039457584007913129639936 * rinv) - k * rinv * ell := by
    have : a * b = 115792089237316195423570985008687907853269984665640564039457584007913129639936 * t - k * ell := by omega
    rw [this, Int.sub_mul, Int.mul_assoc k, Int.mul_comm ell, ← Int.mul_assoc k]
    congr 1
    rw [Int.mul_comm _ t, Int.mul_assoc]
  rw [h1, Int.sub_mul_emod_self_right, Int.mul_emod, rr, Int.mul_one, Int.emod_emod_of_dvd _ (Int.dvd_refl _)]

theorem mm (a b : Int) : (a % ell) * b % ell = a * b % ell := by rw [Int.mul_emod, Int.emod_emod, ← Int.mul_emod]
theorem mm2 (a b : Int) : a * (b % ell) % ell = a * b % ell := by rw [Int.mul_emod, Int.emod_emod, ← Int.mul_emod]
theorem mm3 (u v w : Int) : (u % ell) * (v % ell) * w % ell = u * v * w % ell := by rw [Int.mul_emod, ← Int.mul_emod u v, ← Int.mul_emod]
theorem one_r {x c : Int} (hc : c % ell = 1) : x * c % ell = x % ell := by rw [Int.mul_emod, hc, Int.mul_one, Int.emod_emod]

/-- 2^256 and 2^512 modulo the order: the table's. -/
def r1 : Int := 7237005577332262213973186563042994240413239274941949949428319933631315875101
def r2 : Int := 1627715501170711445284395025044413883736156588369414752970002579683115011841
theorem r1_one : (r1 * rinv) % ell = 1 := by decide
theorem r2_one : (r2 * rinv) % ell = r1 := by decide
theorem r2_two : (rinv * r2 * rinv) % ell = 1 := by decide

theorem mul_mont (a b : Int) : prI (prI a b) r2 = mlL a b := by
  unfold prI mlL
  rw [Int.mul_assoc (a * b * rinv % ell), mm, show a * b * rinv * (r2 * rinv) = a * b * (rinv * r2 * rinv) by ac_rfl, one_r r2_two]

theorem to_mont (a : Int) : prI a r2 = a * r1 % ell := by
  unfold prI
  rw [Int.mul_assoc, ← mm2, r2_one]
theorem mont_mul (x y : Int) : prI (x * r1 % ell) (y * r1 % ell) = x * y * r1 % ell := by
  unfold prI
  rw [mm3, show x * r1 * (y * r1) * rinv = x * y * r1 * (r1 * rinv) by ac_rfl, one_r r1_one]
theorem from_mont (x : Int) : prI (x * r1 % ell) 1 = x % ell := by
  unfold prI
  rw [Int.mul_one, mm, Int.mul_assoc, one_r r1_one]

/-- A sum's word and what is carried. -/
theorem split_w {s lo hi : Int} (h1 : lo = s % 18446744073709551616) (h2 : hi = s / 18446744073709551616) : s = lo + 18446744073709551616 * hi ∧ 0 ≤ lo ∧ lo < 18446744073709551616 := by omega

/-- One round of the product. -/
theorem round_law {p0 p1 p2 p3 t0 t1 t2 t3 t4 u0 u1 u2 u3 u4 c1 c2 c3 c4 k1 m d1 d2 d3 d4 v0 v1 v2 v3 v4 k2 : Int}
    (h0 : p0 + t0 = u0 + 18446744073709551616 * c1) (h1 : p1 + t1 + c1 = u1 + 18446744073709551616 * c2) (h2 : p2 + t2 + c2 = u2 + 18446744073709551616 * c3) (h3 : p3 + t3 + c3 = u3 + 18446744073709551616 * c4)
    (h4 : t4 + c4 = u4 + 18446744073709551616 * k1) (g0 : m * 6346243789798364141 + u0 = 18446744073709551616 * d1) (g1 : m * 1503914060200516822 + u1 + d1 = v0 + 18446744073709551616 * d2) (g2 : u2 + d2 = v1 + 18446744073709551616 * d3)
    (g3 : m * 1152921504606846976 + u3 + d3 = v2 + 18446744073709551616 * d4) (g4 : u4 + d4 = v3 + 18446744073709551616 * k2) (g5 : v4 = k1 + k2) :
    18446744073709551616 * (v0 + 18446744073709551616 * v1 + 340282366920938463463374607431768211456 * v2 + 6277101735386680763835789423207666416102355444464034512896 * v3 + 115792089237316195423570985008687907853269984665640564039457584007913129639936 * v4) =
      t0 + 18446744073709551616 * t1 + 340282366920938463463374607431768211456 * t2 + 6277101735386680763835789423207666416102355444464034512896 * t3 + 115792089237316195423570985008687907853269984665640564039457584007913129639936 * t4 +
      (p0 + 18446744073709551616 * p1 + 340282366920938463463374607431768211456 * p2 + 6277101735386680763835789423207666416102355444464034512896 * p3) + m * 7237005577332262213973186563042994240857116359379907606001950938285454250989 := by
  omega

theorem low_zero {u m s d : Int} (hu : 0 ≤ u ∧ u < 18446744073709551616) (hm : m = u * 15183074304973897243 % 18446744073709551616) (hs : s = m * 6346243789798364141 + u) (hd : d = s / 18446744073709551616) : s = 18446744073709551616 * d := by
  omega
end Go.Gx

/- Products in Montgomery's form. -/
namespace Go.Gx
open Go.Proofs Go.Sp
set_option linter.unusedVariables false

def vc89 (x y z w : Int) (K : SV → Prop) (Q : Nat → List Pv → Prop) : Prop := fnVc Γ8 Tryd.f89 [] [.i .u64 ⟨false, x⟩, .i .u64 ⟨false, y⟩, .i .u64 ⟨false, z⟩, .i .u64 ⟨false, w⟩] gh K Q
theorem vc89_eq : ∀ (x y z w : Int) (K : SV → Prop) (Q : Nat → List Pv → Prop), vc89 x y z w K Q = ∀ (x1 : Int), x1 = x * y / (18446744073709551616 : Int) → InR IntKind.u64 x1 → ∀ (x2 : Int), x2 = x * y % (18446744073709551616 : Int) → InR IntKind.u64 x2 → Need ((0 : Int) ≤ (1 : Int)) ∧ ∀ (x3 : Int), x3 = (x2 + z + (0 : Int)) % (18446744073709551616 : Int) → InR IntKind.u64 x3 → ∀ (x4 : Int), x4 = (x2 + z + (0 : Int)) / (18446744073709551616 : Int) → InR IntKind.u64 x4 → ∀ (x5 : Int), x5 = IntKind.u64.wrap (x1 + x4) → InR IntKind.u64 x5 → Need ((0 : Int) ≤ (1 : Int)) ∧ ∀ (x6 : Int), x6 = (x3 + w + (0 : Int)) % (18446744073709551616 : Int) → InR IntKind.u64 x6 → ∀ (x7 : Int), x7 = (x3 + w + (0 : Int)) / (18446744073709551616 : Int) → InR IntKind.u64 x7 → ∀ (x8 : Int), x8 = IntKind.u64.wrap (x5 + x7) → InR IntKind.u64 x8 → K (SV.tup [SV.i IntKind.u64 { st := false, z := x6 }, SV.i IntKind.u64 { st := false, z := x8 }]) := by
  intros
  kernel_rfl

def intoS : List SV → Option (List Prop × SV)
  | [.i .u64 xV, .i .u64 yV, .i .u64 zV, .i .u64 wV] => some ([], .tup [.i .u64 ⟨false, (xV.z * yV.z + zV.z + wV.z) % 18446744073709551616⟩, .i .u64 ⟨false, (xV.z * yV.z + zV.z + wV.z) / 18446744073709551616⟩])
  | _ => none

theorem into_ok : CallOk Tryd.prog gh 89 (pureCtr intoS) := by
  refine call_pure (fn := Tryd.f89) Γ8_ok rfl (by kernel_rfl) (by kernel_rfl) (by kernel_rfl) intoS fun args P0 Y0 hs hp hf => ?_
  unfold intoS at hs
  split at hs
  · rename_i xV yV zV wV
    simp only [Option.some.injEq, Prod.mk.injEq] at hs
    obtain ⟨rfl, rfl⟩ := hs
    simp only [FactVs, FactV] at hf
    obtain ⟨hx, hy, hz, hw, _⟩ := hf
    refine ⟨[.i .u64 ⟨false, xV.z⟩, .i .u64 ⟨false, yV.z⟩, .i .u64 ⟨false, zV.z⟩, .i .u64 ⟨false, wV.z⟩], [], _, ⟨rfl, rfl, rfl, rfl, trivial⟩, Nat.le_of_ble_eq_true (by kernel_rfl), vc_noloops ?_⟩
    show vc89 xV.z yV.z zV.z wV.z _ _
    rw [vc89_eq]
    generalize xV.z = x at *
    generalize yV.z = y at *
    generalize zV.z = z at *
    generalize wV.z = w at *
    have hp : 0 ≤ x * y ∧ x * y ≤ 340282366920938463426481119284349108225 := ⟨Int.mul_nonneg hx.1 hy.1, Int.le_trans (Int.mul_le_mul (show x ≤ 18446744073709551615 by have := hx.2; omega) (show y ≤ 18446744073709551615 by have := hy.2; omega) hy.1 (by omega)) (by decide)⟩
    simp only [InR] at hz hw
    generalize x * y = q at *
    intro x1 e1 r1 x2 e2 r2
    refine ⟨by unfold Need; omega, fun x3 e3 r3 x4 e4 r4 x5 e5 r5 => ⟨by unfold Need; omega, fun x6 e6 r6 x7 e7 r7 x8 e8 r8 => ?_⟩⟩
    rw [wrap_u64] at e5 e8
    have k6 : x6 = (q + z + w) % 18446744073709551616 := by omega
    have k8 : x8 = (q + z + w) / 18446744073709551616 := by omega
    exact ⟨k6, k8, trivial⟩
  · cases hs

def Γ9 : Tab := ⟨tys, (89, pureCtr intoS) :: Γ8.ctr, [0], gh⟩
theorem Γ9_ok : TabOk Tryd.prog Γ9 := Γ8_ok.cons into_ok
end Go.Gx

/- The product in Montgomery's form. -/
namespace Go.Gx
open Go.Proofs Go.Sp
set_option linter.unusedVariables false

theorem round_full {a0 a1 a2 a3 b t0 t1 t2 t3 t4 x1 x2 x3 x4 x5 x6 x7 x8 x9 x10 x11 x13 x14 x15 x16 x17 x18 x19 x20 x21 x22 : Int} (e1 : x1 = (a0 * b + t0 + 0) % 18446744073709551616) (e2 : x2 = (a0 * b + t0 + 0) / 18446744073709551616) (e3 : x3 = (a1 * b + t1 + x2) % 18446744073709551616) (e4 : x4 = (a1 * b + t1 + x2) / 18446744073709551616) (e5 : x5 = (a2 * b + t2 + x4) % 18446744073709551616) (e6 : x6 = (a2 * b + t2 + x4) / 18446744073709551616) (e7 : x7 = (a3 * b + t3 + x6) % 18446744073709551616) (e8 : x8 = (a3 * b + t3 + x6) / 18446744073709551616) (e9 : x9 = (t4 + x8 + 0) % 18446744073709551616) (e10 : x10 = (t4 + x8 + 0) / 18446744073709551616) (e11 : x11 = IntKind.u64.wrap (x1 * 15183074304973897243)) (e13 : x13 = (x11 * 6346243789798364141 + x1 + 0) / 18446744073709551616) (e14 : x14 = (x11 * 1503914060200516822 + x3 + x13) % 18446744073709551616) (e15 : x15 = (x11 * 1503914060200516822 + x3 + x13) / 18446744073709551616) (e16 : x16 = (x11 * 0 + x5 + x15) % 18446744073709551616) (e17 : x17 = (x11 * 0 + x5 + x15) / 18446744073709551616) (e18 : x18 = (x11 * 1152921504606846976 + x7 + x17) % 18446744073709551616) (e19 : x19 = (x11 * 1152921504606846976 + x7 + x17) / 18446744073709551616) (e20 : x20 = (x9 + x19 + 0) % 18446744073709551616) (e21 : x21 = (x9 + x19 + 0) / 18446744073709551616) (e22 : x22 = IntKind.u64.wrap (x10 + x21))
    (hb : InR .u64 b) (h4 : InR .u64 t4) (r1 : InR .u64 x1) (r3 : InR .u64 x3) (r5 : InR .u64 x5) (r7 : InR .u64 x7) (r8 : InR .u64 x8) (r9 : InR .u64 x9) (r11 : InR .u64 x11) (r14 : InR .u64 x14) (r16 : InR .u64 x16) (r18 : InR .u64 x18) (r19 : InR .u64 x19) (r20 : InR .u64 x20) (r22 : InR .u64 x22) (hA : val4 [a0, a1, a2, a3] < 7237005577332262213973186563042994240857116359379907606001950938285454250989) (hA0 : 0 ≤ val4 [a0, a1, a2, a3]) (hT : (t0 + 18446744073709551616 * t1 + 340282366920938463463374607431768211456 * t2 + 6277101735386680763835789423207666416102355444464034512896 * t3 + 115792089237316195423570985008687907853269984665640564039457584007913129639936 * t4) < 2 * 7237005577332262213973186563042994240857116359379907606001950938285454250989) (hT0 : 0 ≤ (t0 + 18446744073709551616 * t1 + 340282366920938463463374607431768211456 * t2 + 6277101735386680763835789423207666416102355444464034512896 * t3 + 115792089237316195423570985008687907853269984665640564039457584007913129639936 * t4)) :
    18446744073709551616 * (x14 + 18446744073709551616 * x16 + 340282366920938463463374607431768211456 * x18 + 6277101735386680763835789423207666416102355444464034512896 * x20 + 115792089237316195423570985008687907853269984665640564039457584007913129639936 * x22) = (t0 + 18446744073709551616 * t1 + 340282366920938463463374607431768211456 * t2 + 6277101735386680763835789423207666416102355444464034512896 * t3 + 115792089237316195423570985008687907853269984665640564039457584007913129639936 * t4) + val4 [a0, a1, a2, a3] * b + x11 * 7237005577332262213973186563042994240857116359379907606001950938285454250989 ∧ (x14 + 18446744073709551616 * x16 + 340282366920938463463374607431768211456 * x18 + 6277101735386680763835789423207666416102355444464034512896 * x20 + 115792089237316195423570985008687907853269984665640564039457584007913129639936 * x22) < 2 * 7237005577332262213973186563042994240857116359379907606001950938285454250989 ∧ 0 ≤ (x14 + 18446744073709551616 * x16 + 340282366920938463463374607431768211456 * x18 + 6277101735386680763835789423207666416102355444464034512896 * x20 + 115792089237316195423570985008687907853269984665640564039457584007913129639936 * x22) := by
  simp only [InR] at hb h4 r1 r3 r5 r7 r8 r9 r11 r14 r16 r18 r19 r20 r22
  rw [wrap_u64] at e11 e22
  have s0 := split_w e1 e2
  have s1 := split_w e3 e4
  have s2 := split_w e5 e6
  have s3 := split_w e7 e8
  have s4 := split_w e9 e10
  have m0 := low_zero r1 e11 rfl (show x13 = (x11 * 6346243789798364141 + x1) / 18446744073709551616 by rw [e13, Int.add_zero])
  have m1 := split_w e14 e15
  have m2 := split_w e16 e17
  have m3 := split_w e18 e19
  have m4 := split_w e20 e21
  have k1 : 0 ≤ x10 ∧ x10 ≤ 1 := by clear e1 e2 e3 e4 e5 e6 e7 e8 e11 e13 e14 e15 e16 e17 e18 e19 hA hA0 hT hT0 m0; omega
  have k2 : 0 ≤ x21 ∧ x21 ≤ 1 := by clear e1 e2 e3 e4 e5 e6 e7 e8 e11 e13 e14 e15 e16 e17 e18 e19 hA hA0 hT hT0 m0; omega
  have k3 : x22 = x10 + x21 := by clear e1 e2 e3 e4 e5 e6 e7 e8 e11 e13 e14 e15 e16 e17 e18 e19 hA hA0 hT hT0 m0; omega
  have hAb : val4 [a0, a1, a2, a3] * b = a0 * b + 18446744073709551616 * (a1 * b) + 340282366920938463463374607431768211456 * (a2 * b) + 6277101735386680763835789423207666416102355444464034512896 * (a3 * b) := by
    simp only [val4, Int.add_mul, Int.mul_assoc]
  have key := round_law (p0 := a0 * b) (p1 := a1 * b) (p2 := a2 * b) (p3 := a3 * b) (t0 := t0) (t1 := t1) (t2 := t2) (t3 := t3) (t4 := t4) (by rw [← s0.1, Int.add_zero]) s1.1 s2.1 s3.1 (by rw [← s4.1, Int.add_zero]) m0 m1.1 (by rw [← m2.1, Int.mul_zero, Int.zero_add]) m3.1 (by rw [← m4.1, Int.add_zero]) k3
  rw [← hAb] at key
  have hbd : val4 [a0, a1, a2, a3] * b ≤ (7237005577332262213973186563042994240857116359379907606001950938285454250989 - 1) * 18446744073709551615 := Int.mul_le_mul (by omega) (by omega) hb.1 (by decide)
  have hbd0 : 0 ≤ val4 [a0, a1, a2, a3] * b := Int.mul_nonneg hA0 hb.1
  generalize val4 [a0, a1, a2, a3] * b = Q at *
  clear e1 e2 e3 e4 e5 e6 e7 e8 e9 e10 e11 e13 e14 e15 e16 e17 e18 e19 e20 e21 e22 s0 s1 s2 s3 s4 m0 m1 m2 m3 m4 hAb k1 k2 k3
  omega

def vc78 (a0 a1 a2 a3 b0 b1 b2 b3 : Int) (K : SV → Prop) (Q : Nat → List Pv → Prop) : Prop := fnVc Γ9 Tryd.f78 [] [.arr .u64 4 true [a0, a1, a2, a3], .arr .u64 4 true [b0, b1, b2, b3]] gh K Q
theorem vc78_eq : ∀ (a0 a1 a2 a3 b0 b1 b2 b3 : Int) (K : SV → Prop) (Q : Nat → List Pv → Prop), vc78 a0 a1 a2 a3 b0 b1 b2 b3 K Q = ∀ (x1 : Int), x1 = (a0 * b0 + (0 : Int) + (0 : Int)) % (18446744073709551616 : Int) → InR IntKind.u64 x1 → ∀ (x2 : Int), x2 = (a0 * b0 + (0 : Int) + (0 : Int)) / (18446744073709551616 : Int) → InR IntKind.u64 x2 → ∀ (x3 : Int), x3 = (a1 * b0 + (0 : Int) + x2) % (18446744073709551616 : Int) → InR IntKind.u64 x3 → ∀ (x4 : Int), x4 = (a1 * b0 + (0 : Int) + x2) / (18446744073709551616 : Int) → InR IntKind.u64 x4 → ∀ (x5 : Int), x5 = (a2 * b0 + (0 : Int) + x4) % (18446744073709551616 : Int) → InR IntKind.u64 x5 → ∀ (x6 : Int), x6 = (a2 * b0 + (0 : Int) + x4) / (18446744073709551616 : Int) → InR IntKind.u64 x6 → ∀ (x7 : Int), x7 = (a3 * b0 + (0 : Int) + x6) % (18446744073709551616 : Int) → InR IntKind.u64 x7 → ∀ (x8 : Int), x8 = (a3 * b0 + (0 : Int) + x6) / (18446744073709551616 : Int) → InR IntKind.u64 x8 → Need ((0 : Int) ≤ (1 : Int)) ∧ ∀ (x9 : Int), x9 = ((0 : Int) + x8 + (0 : Int)) % (18446744073709551616 : Int) → InR IntKind.u64 x9 → ∀ (x10 : Int), x10 = ((0 : Int) + x8 + (0 : Int)) / (18446744073709551616 : Int) → InR IntKind.u64 x10 → ∀ (x11 : Int), x11 = IntKind.u64.wrap (x1 * (15183074304973897243 : Int)) → InR IntKind.u64 x11 → ∀ (x12 : Int), x12 = (x11 * (6346243789798364141 : Int) + x1 + (0 : Int)) % (18446744073709551616 : Int) → InR IntKind.u64 x12 → ∀ (x13 : Int), x13 = (x11 * (6346243789798364141 : Int) + x1 + (0 : Int)) / (18446744073709551616 : Int) → InR IntKind.u64 x13 → ∀ (x14 : Int), x14 = (x11 * (1503914060200516822 : Int) + x3 + x13) % (18446744073709551616 : Int) → InR IntKind.u64 x14 → ∀ (x15 : Int), x15 = (x11 * (1503914060200516822 : Int) + x3 + x13) / (18446744073709551616 : Int) → InR IntKind.u64 x15 → ∀ (x16 : Int), x16 = (x11 * (0 : Int) + x5 + x15) % (18446744073709551616 : Int) → InR IntKind.u64 x16 → ∀ (x17 : Int), x17 = (x11 * (0 : Int) + x5 + x15) / (18446744073709551616 : Int) → InR IntKind.u64 x17 → ∀ (x18 : Int), x18 = (x11 * (1152921504606846976 : Int) + x7 + x17) % (18446744073709551616 : Int) → InR IntKind.u64 x18 → ∀ (x19 : Int), x19 = (x11 * (1152921504606846976 : Int) + x7 + x17) / (18446744073709551616 : Int) → InR IntKind.u64 x19 → Need ((0 : Int) ≤ (1 : Int)) ∧ ∀ (x20 : Int), x20 = (x9 + x19 + (0 : Int)) % (18446744073709551616 : Int) → InR IntKind.u64 x20 → ∀ (x21 : Int), x21 = (x9 + x19 + (0 : Int)) / (18446744073709551616 : Int) → InR IntKind.u64 x21 → ∀ (x22 : Int), x22 = IntKind.u64.wrap (x10 + x21) → InR IntKind.u64 x22 → ∀ (x23 : Int), x23 = (a0 * b1 + x14 + (0 : Int)) % (18446744073709551616 : Int) → InR IntKind.u64 x23 → ∀ (x24 : Int), x24 = (a0 * b1 + x14 + (0 : Int)) / (18446744073709551616 : Int) → InR IntKind.u64 x24 → ∀ (x25 : Int), x25 = (a1 * b1 + x16 + x24) % (18446744073709551616 : Int) → InR IntKind.u64 x25 → ∀ (x26 : Int), x26 = (a1 * b1 + x16 + x24) / (18446744073709551616 : Int) → InR IntKind.u64 x26 → ∀ (x27 : Int), x27 = (a2 * b1 + x18 + x26) % (18446744073709551616 : Int) → InR IntKind.u64 x27 → ∀ (x28 : Int), x28 = (a2 * b1 + x18 + x26) / (18446744073709551616 : Int) → InR IntKind.u64 x28 → ∀ (x29 : Int), x29 = (a3 * b1 + x20 + x28) % (18446744073709551616 : Int) → InR IntKind.u64 x29 → ∀ (x30 : Int), x30 = (a3 * b1 + x20 + x28) / (18446744073709551616 : Int) → InR IntKind.u64 x30 → Need ((0 : Int) ≤ (1 : Int)) ∧ ∀ (x31 : Int), x31 = (x22 + x30 + (0 : Int)) % (18446744073709551616 : Int) → InR IntKind.u64 x31 → ∀ (x32 : Int), x32 = (x22 + x30 + (0 : Int)) / (18446744073709551616 : Int) → InR IntKind.u64 x32 → ∀ (x33 : Int), x33 = IntKind.u64.wrap (x23 * (15183074304973897243 : Int)) → InR IntKind.u64 x33 → ∀ (x34 : Int), x34 = (x33 * (6346243789798364141 : Int) + x23 + (0 : Int)) % (18446744073709551616 : Int) → InR IntKind.u64 x34 → ∀ (x35 : Int), x35 = (x33 * (6346243789798364141 : Int) + x23 + (0 : Int)) / (18446744073709551616 : Int) → InR IntKind.u64 x35 → ∀ (x36 : Int), x36 = (x33 * (1503914060200516822 : Int) + x25 + x35) % (18446744073709551616 : Int) → InR IntKind.u64 x36 → ∀ (x37 : Int), x37 = (x33 * (1503914060200516822 : Int) + x25 + x35) / (18446744073709551616 : Int) → InR IntKind.u64 x37 → ∀ (x38 : Int), x38 = (x33 * (0 : Int) + x27 + x37) % (18446744073709551616 : Int) → InR IntKind.u64 x38 → ∀ (x39 : Int), x39 = (x33 * (0 : Int) + x27 + x37) / (18446744073709551616 : Int) → InR IntKind.u64 x39 → ∀ (x40 : Int), x40 = (x33 * (1152921504606846976 : Int) + x29 + x39) % (18446744073709551616 : Int) → InR IntKind.u64 x40 → ∀ (x41 : Int), x41 = (x33 * (1152921504606846976 : Int) + x29 + x39) / (18446744073709551616 : Int) → InR IntKind.u64 x41 → Need ((0 : Int) ≤ (1 : Int)) ∧ ∀ (x42 : Int), x42 = (x31 + x41 + (0 : Int)) % (18446744073709551616 : Int) → InR IntKind.u64 x42 → ∀ (x43 : Int), x43 = (x31 + x41 + (0 : Int)) / (18446744073709551616 : Int) → InR IntKind.u64 x43 → ∀ (x44 : Int), x44 = IntKind.u64.wrap (x32 + x43) → InR IntKind.u64 x44 → ∀ (x45 : Int), x45 = (a0 * b2 + x36 + (0 : Int)) % (18446744073709551616 : Int) → InR IntKind.u64 x45 → ∀ (x46 : Int), x46 = (a0 * b2 + x36 + (0 : Int)) / (18446744073709551616 : Int) → InR IntKind.u64 x46 → ∀ (x47 : Int), x47 = (a1 * b2 + x38 + x46) % (18446744073709551616 : Int) → InR IntKind.u64 x47 → ∀ (x48 : Int), x48 = (a1 * b2 + x38 + x46) / (18446744073709551616 : Int) → InR IntKind.u64 x48 → ∀ (x49 : Int), x49 = (a2 * b2 + x40 + x48) % (18446744073709551616 : Int) → InR IntKind.u64 x49 → ∀ (x50 : Int), x50 = (a2 * b2 + x40 + x48) / (18446744073709551616 : Int) → InR IntKind.u64 x50 → ∀ (x51 : Int), x51 = (a3 * b2 + x42 + x50) % (18446744073709551616 : Int) → InR IntKind.u64 x51 → ∀ (x52 : Int), x52 = (a3 * b2 + x42 + x50) / (18446744073709551616 : Int) → InR IntKind.u64 x52 → Need ((0 : Int) ≤ (1 : Int)) ∧ ∀ (x53 : Int), x53 = (x44 + x52 + (0 : Int)) % (18446744073709551616 : Int) → InR IntKind.u64 x53 → ∀ (x54 : Int), x54 = (x44 + x52 + (0 : Int)) / (18446744073709551616 : Int) → InR IntKind.u64 x54 → ∀ (x55 : Int), x55 = IntKind.u64.wrap (x45 * (15183074304973897243 : Int)) → InR IntKind.u64 x55 → ∀ (x56 : Int), x56 = (x55 * (6346243789798364141 : Int) + x45 + (0 : Int)) % (18446744073709551616 : Int) → InR IntKind.u64 x56 → ∀ (x57 : Int), x57 = (x55 * (6346243789798364141 : Int) + x45 + (0 : Int)) / (18446744073709551616 : Int) → InR IntKind.u64 x57 → ∀ (x58 : Int), x58 = (x55 * (1503914060200516822 : Int) + x47 + x57) % (18446744073709551616 : Int) → InR IntKind.u64 x58 → ∀ (x59 : Int), x59 = (x55 * (1503914060200516822 : Int) + x47 + x57) / (18446744073709551616 : Int) → InR IntKind.u64 x59 → ∀ (x60 : Int), x60 = (x55 * (0 : Int) + x49 + x59) % (18446744073709551616 : Int) → InR IntKind.u64 x60 → ∀ (x61 : Int), x61 = (x55 * (0 : Int) + x49 + x59) / (18446744073709551616 : Int) → InR IntKind.u64 x61 → ∀ (x62 : Int), x62 = (x55 * (1152921504606846976 : Int) + x51 + x61) % (18446744073709551616 : Int) → InR IntKind.u64 x62 → ∀ (x63 : Int), x63 = (x55 * (1152921504606846976 : Int) + x51 + x61) / (18446744073709551616 : Int) → InR IntKind.u64 x63 → Need ((0 : Int) ≤ (1 : Int)) ∧ ∀ (x64 : Int), x64 = (x53 + x63 + (0 : Int)) % (18446744073709551616 : Int) → InR IntKind.u64 x64 → ∀ (x65 : Int), x65 = (x53 + x63 + (0 : Int)) / (18446744073709551616 : Int) → InR IntKind.u64 x65 → ∀ (x66 : Int), x66 = IntKind.u64.wrap (x54 + x65) → InR IntKind.u64 x66 → ∀ (x67 : Int), x67 = (a0 * b3 + x58 + (0 : Int)) % (18446744073709551616 : Int) → InR IntKind.u64 x67 → ∀ (x68 : Int), x68 = (a0 * b3 + x58 + (0 : Int)) / (18446744073709551616 : Int) → InR IntKind.u64 x68 → ∀ (x69 : Int), x69 = (a1 * b3 + x60 + x68) % (18446744073709551616 : Int) → InR IntKind.u64 x69 → ∀ (x70 : Int), x70 = (a1 * b3 + x60 + x68) / (18446744073709551616 : Int) → InR IntKind.u64 x70 → ∀ (x71 : Int), x71 = (a2 * b3 + x62 + x70) % (18446744073709551616 : Int) → InR IntKind.u64 x71 → ∀ (x72 : Int), x72 = (a2 * b3 + x62 + x70) / (18446744073709551616 : Int) → InR IntKind.u64 x72 → ∀ (x73 : Int), x73 = (a3 * b3 + x64 + x72) % (18446744073709551616 : Int) → InR IntKind.u64 x73 → ∀ (x74 : Int), x74 = (a3 * b3 + x64 + x72) / (18446744073709551616 : Int) → InR IntKind.u64 x74 → Need ((0 : Int) ≤ (1 : Int)) ∧ ∀ (x75 : Int), x75 = (x66 + x74 + (0 : Int)) % (18446744073709551616 : Int) → InR IntKind.u64 x75 → ∀ (x76 : Int), x76 = (x66 + x74 + (0 : Int)) / (18446744073709551616 : Int) → InR IntKind.u64 x76 → ∀ (x77 : Int), x77 = IntKind.u64.wrap (x67 * (15183074304973897243 : Int)) → InR IntKind.u64 x77 → ∀ (x78 : Int), x78 = (x77 * (6346243789798364141 : Int) + x67 + (0 : Int)) % (18446744073709551616 : Int) → InR IntKind.u64 x78 → ∀ (x79 : Int), x79 = (x77 * (6346243789798364141 : Int) + x67 + (0 : Int)) / (18446744073709551616 : Int) → InR IntKind.u64 x79 → ∀ (x80 : Int), x80 = (x77 * (1503914060200516822 : Int) + x69 + x79) % (18446744073709551616 : Int) → InR IntKind.u64 x80 → ∀ (x81 : Int), x81 = (x77 * (1503914060200516822 : Int) + x69 + x79) / (18446744073709551616 : Int) → InR IntKind.u64 x81 → ∀ (x82 : Int), x82 = (x77 * (0 : Int) + x71 + x81) % (18446744073709551616 : Int) → InR IntKind.u64 x82 → ∀ (x83 : Int), x83 = (x77 * (0 : Int) + x71 + x81) / (18446744073709551616 : Int) → InR IntKind.u64 x83 → ∀ (x84 : Int), x84 = (x77 * (1152921504606846976 : Int) + x73 + x83) % (18446744073709551616 : Int) → InR IntKind.u64 x84 → ∀ (x85 : Int), x85 = (x77 * (1152921504606846976 : Int) + x73 + x83) / (18446744073709551616 : Int) → InR IntKind.u64 x85 → Need ((0 : Int) ≤ (1 : Int)) ∧ ∀ (x86 : Int), x86 = (x75 + x85 + (0 : Int)) % (18446744073709551616 : Int) → InR IntKind.u64 x86 → ∀ (x87 : Int), x87 = (x75 + x85 + (0 : Int)) / (18446744073709551616 : Int) → InR IntKind.u64 x87 → ∀ (x88 : Int), x88 = IntKind.u64.wrap (x76 + x87) → InR IntKind.u64 x88 → ∀ (x89 : Int), x89 = w0 (lowI (val4 [x80, x82, x84, x86])) → InR IntKind.u64 x89 → ∀ (x90 : Int), x90 = w1 (lowI (val4 [x80, x82, x84, x86])) → InR IntKind.u64 x90 → ∀ (x91 : Int), x91 = w2 (lowI (val4 [x80, x82, x84, x86])) → InR IntKind.u64 x91 → ∀ (x92 : Int), x92 = w3 (lowI (val4 [x80, x82, x84, x86])) → InR IntKind.u64 x92 → K (SV.arr IntKind.u64 (4 : Nat) true [x89, x90, x91, x92]) := by
  intros
  kernel_rfl

open Go.Sp (prI)
def prodS : List SV → Option (List Prop × SV)
  | [.arr .u64 4 _ aL, .arr .u64 4 _ bL] => some ([val4 aL < ell], .arr .u64 4 true (words4 (prI (val4 aL) (val4 bL))))
  | _ => none

theorem prod_ok : CallOk Tryd.prog gh 78 (pureCtr prodS) := by
  refine call_pure (fn := Tryd.f78) Γ9_ok rfl (by kernel_rfl) (by kernel_rfl) (by kernel_rfl) prodS fun args P0 Y0 hs hp hf => ?_
  unfold prodS at hs
  split at hs
  · rename_i ea aL eb bL
    simp only [Option.some.injEq, Prod.mk.injEq] at hs
    obtain ⟨rfl, rfl⟩ := hs
    simp only [FactVs, FactV] at hf
    obtain ⟨⟨hal, ha⟩, ⟨hbl, hb⟩, _⟩ := hf
    obtain ⟨hpre, _⟩ := hp
    obtain ⟨a0, a1, a2, a3, rfl⟩ := len4 hal
    have ia0 := ha a0 (by simp); have ia1 := ha a1 (by simp); have ia2 := ha a2 (by simp); have ia3 := ha a3 (by simp)
    obtain ⟨b0, b1, b2, b3, rfl⟩ := len4 hbl
    have ib0 := hb b0 (by simp); have ib1 := hb b1 (by simp); have ib2 := hb b2 (by simp); have ib3 := hb b3 (by simp)
    refine ⟨[.arr .u64 4 true [a0, a1, a2, a3], .arr .u64 4 true [b0, b1, b2, b3]], [], _, ⟨rfl, rfl, trivial⟩, Nat.le_of_ble_eq_true (by kernel_rfl), vc_noloops ?_⟩
    show vc78 a0 a1 a2 a3 b0 b1 b2 b3 _ _
    rw [vc78_eq]
    intro x1 e1 r1 x2 e2 r2 x3 e3 r3 x4 e4 r4 x5 e5 r5 x6 e6 r6 x7 e7 r7 x8 e8 r8
    refine ⟨by unfold Need; omega, ?_⟩
    intro x9 e9 r9 x10 e10 r10 x11 e11 r11 x12 e12 r12 x13 e13 r13 x14 e14 r14 x15 e15 r15 x16 e16 r16 x17 e17 r17 x18 e18 r18 x19 e19 r19
    refine ⟨by unfold Need; omega, ?_⟩
    intro x20 e20 r20 x21 e21 r21 x22 e22 r22
    intro x23 e23 r23 x24 e24 r24 x25 e25 r25 x26 e26 r26 x27 e27 r27 x28 e28 r28 x29 e29 r29 x30 e30 r30
    refine ⟨by unfold Need; omega, ?_⟩
    intro x31 e31 r31 x32 e32 r32 x33 e33 r33 x34 e34 r34 x35 e35 r35 x36 e36 r36 x37 e37 r37 x38 e38 r38 x39 e39 r39 x40 e40 r40 x41 e41 r41
    refine ⟨by unfold Need; omega, ?_⟩
    intro x42 e42 r42 x43 e43 r43 x44 e44 r44
    intro x45 e45 r45 x46 e46 r46 x47 e47 r47 x48 e48 r48 x49 e49 r49 x50 e50 r50 x51 e51 r51 x52 e52 r52
    refine ⟨by unfold Need; omega, ?_⟩
    intro x53 e53 r53 x54 e54 r54 x55 e55 r55 x56 e56 r56 x57 e57 r57 x58 e58 r58 x59 e59 r59 x60 e60 r60 x61 e61 r61 x62 e62 r62 x63 e63 r63
    refine ⟨by unfold Need; omega, ?_⟩
    intro x64 e64 r64 x65 e65 r65 x66 e66 r66
    intro x67 e67 r67 x68 e68 r68 x69 e69 r69 x70 e70 r70 x71 e71 r71 x72 e72 r72 x73 e73 r73 x74 e74 r74
    refine ⟨by unfold Need; omega, ?_⟩
    intro x75 e75 r75 x76 e76 r76 x77 e77 r77 x78 e78 r78 x79 e79 r79 x80 e80 r80 x81 e81 r81 x82 e82 r82 x83 e83 r83 x84 e84 r84 x85 e85 r85
    refine ⟨by unfold Need; omega, ?_⟩
    intro x86 e86 r86 x87 e87 r87 x88 e88 r88
    intro x89 e89 _ x90 e90 _ x91 e91 _ x92 e92 _
    have hA0 : 0 ≤ val4 [a0, a1, a2, a3] := by simp only [InR] at ia0 ia1 ia2 ia3; simp only [val4]; omega
    have z0 : InR .u64 0 := ⟨by omega, by omega⟩
    have R0 := round_full (t0 := 0) (t1 := 0) (t2 := 0) (t3 := 0) (t4 := 0) e1 e2 e3 e4 e5 e6 e7 e8 e9 e10 e11 e13 e14 e15 e16 e17 e18 e19 e20 e21 e22 ib0 z0 r1 r3 r5 r7 r8 r9 r11 r14 r16 r18 r19 r20 r22 hpre hA0 (by decide) (by decide)
    have R1 := round_full (t0 := x14) (t1 := x16) (t2 := x18) (t3 := x20) (t4 := x22) e23 e24 e25 e26 e27 e28 e29 e30 e31 e32 e33 e35 e36 e37 e38 e39 e40 e41 e42 e43 e44 ib1 r22 r23 r25 r27 r29 r30 r31 r33 r36 r38 r40 r41 r42 r44 hpre hA0 R0.2.1 R0.2.2
    have R2 := round_full (t0 := x36) (t1 := x38) (t2 := x40) (t3 := x42) (t4 := x44) e45 e46 e47 e48 e49 e50 e51 e52 e53 e54 e55 e57 e58 e59 e60 e61 e62 e63 e64 e65 e66 ib2 r44 r45 r47 r49 r51 r52 r53 r55 r58 r60 r62 r63 r64 r66 hpre hA0 R1.2.1 R1.2.2
    have R3 := round_full (t0 := x58) (t1 := x60) (t2 := x62) (t3 := x64) (t4 := x66) e67 e68 e69 e70 e71 e72 e73 e74 e75 e76 e77 e79 e80 e81 e82 e83 e84 e85 e86 e87 e88 ib3 r66 r67 r69 r71 r73 r74 r75 r77 r80 r82 r84 r85 r86 r88 hpre hA0 R2.2.1 R2.2.2
    have hx : 18446744073709551616 * (18446744073709551616 * (18446744073709551616 * (18446744073709551616 * (x80 + 18446744073709551616 * x82 + 340282366920938463463374607431768211456 * x84 + 6277101735386680763835789423207666416102355444464034512896 * x86 + 115792089237316195423570985008687907853269984665640564039457584007913129639936 * x88)))) = val4 [a0, a1, a2, a3] * val4 [b0, b1, b2, b3] + (x11 + 18446744073709551616 * x33 + 340282366920938463463374607431768211456 * x55 + 6277101735386680763835789423207666416102355444464034512896 * x77) * 7237005577332262213973186563042994240857116359379907606001950938285454250989 := by
      have hB : val4 [a0, a1, a2, a3] * val4 [b0, b1, b2, b3] = val4 [a0, a1, a2, a3] * b0 + 18446744073709551616 * (val4 [a0, a1, a2, a3] * b1) + 340282366920938463463374607431768211456 * (val4 [a0, a1, a2, a3] * b2) + 6277101735386680763835789423207666416102355444464034512896 * (val4 [a0, a1, a2, a3] * b3) := by
        rw [show val4 [b0, b1, b2, b3] = b0 + 18446744073709551616 * b1 + 340282366920938463463374607431768211456 * b2 + 6277101735386680763835789423207666416102355444464034512896 * b3 from rfl]
        simp only [Int.mul_add, Int.mul_left_comm (val4 [a0, a1, a2, a3]) 18446744073709551616, Int.mul_left_comm (val4 [a0, a1, a2, a3]) 340282366920938463463374607431768211456, Int.mul_left_comm (val4 [a0, a1, a2, a3]) 6277101735386680763835789423207666416102355444464034512896]
      rw [hB]
      have q0 := R0.1; have q1 := R1.1; have q2 := R2.1; have q3 := R3.1
      generalize val4 [a0, a1, a2, a3] * b0 = Q0 at *
      generalize val4 [a0, a1, a2, a3] * b1 = Q1 at *
      generalize val4 [a0, a1, a2, a3] * b2 = Q2 at *
      generalize val4 [a0, a1, a2, a3] * b3 = Q3 at *
      clear R0 R1 R2 R3 e1 e2 e3 e4 e5 e6 e7 e8 e9 e10 e11 e12 e13 e14 e15 e16 e17 e18 e19 e20 e21 e22 e23 e24 e25 e26 e27 e28 e29 e30 e31 e32 e33 e34 e35 e36 e37 e38 e39 e40 e41 e42 e43 e44 e45 e46 e47 e48 e49 e50 e51 e52 e53 e54 e55 e56 e57 e58 e59 e60 e61 e62 e63 e64 e65 e66 e67 e68 e69 e70 e71 e72 e73 e74 e75 e76 e77 e78 e79 e80 e81 e82 e83 e84 e85 e86 e87 e88 e89 e90 e91 e92
      omega
    have hlt := R3.2.1
    have h0 := R3.2.2
    simp only [InR] at r80 r82 r84 r86 r88
    have h88 : x88 = 0 := by clear hx R0 R1 R2 R3 e1 e2 e3 e4 e5 e6 e7 e8 e9 e10 e11 e12 e13 e14 e15 e16 e17 e18 e19 e20 e21 e22 e23 e24 e25 e26 e27 e28 e29 e30 e31 e32 e33 e34 e35 e36 e37 e38 e39 e40 e41 e42 e43 e44 e45 e46 e47 e48 e49 e50 e51 e52 e53 e54 e55 e56 e57 e58 e59 e60 e61 e62 e63 e64 e65 e66 e67 e68 e69 e70 e71 e72 e73 e74 e75 e76 e77 e78 e79 e80 e81 e82 e83 e84 e85 e86 e87 e88 e89 e90 e91 e92; omega
    have hv : val4 [x80, x82, x84, x86] = (x80 + 18446744073709551616 * x82 + 340282366920938463463374607431768211456 * x84 + 6277101735386680763835789423207666416102355444464034512896 * x86 + 115792089237316195423570985008687907853269984665640564039457584007913129639936 * x88) := by rw [h88]; simp only [val4]; omega
    rw [← hv] at hx hlt h0
    have hl : lowI (val4 [x80, x82, x84, x86]) = prI (val4 [a0, a1, a2, a3]) (val4 [b0, b1, b2, b3]) := by
      rw [← pr_of (t := val4 [x80, x82, x84, x86]) (k := x11 + 18446744073709551616 * x33 + 340282366920938463463374607431768211456 * x55 + 6277101735386680763835789423207666416102355444464034512896 * x77) (by rw [ell_lit, ← hx]; omega)]
      unfold lowI
      have he := ell_lit
      split
      · rename_i hh
        rw [Int.emod_eq_of_lt h0 hh]
      · rename_i hh
        rw [← Int.sub_emod_right (val4 [x80, x82, x84, x86]) ell, Int.emod_eq_of_lt (by omega) (by rw [he] at hh ⊢; omega)]
    show [x89, x90, x91, x92] = words4 (prI (val4 [a0, a1, a2, a3]) (val4 [b0, b1, b2, b3]))
    rw [e89, e90, e91, e92, hl]; rfl
  · cases hs

def Γ10 : Tab := ⟨tys, (78, pureCtr prodS) :: Γ9.ctr, [0], gh⟩
theorem Γ10_ok : TabOk Tryd.prog Γ10 := Γ9_ok.cons prod_ok
end Go.Gx

/- Sums, differences, products, halves. -/
namespace Go.Gx
open Go.Proofs Go.Sp
open Go.Sp (prI mlL adL sbL pwL)
set_option linter.unusedVariables false

theorem arr_eq {a b c d n : Int} (ha : InR .u64 a) (hb : InR .u64 b) (hc : InR .u64 c) (hd : InR .u64 d) (h : val4 [a, b, c, d] = n) : [a, b, c, d] = words4 n := by rw [← h, words_val ha hb hc hd]
theorem val_in {n x y z t : Int} (h0 : x = w0 n) (h1 : y = w1 n) (h2 : z = w2 n) (h3 : t = w3 n) (hn : 0 ≤ n) (hn' : n < 115792089237316195423570985008687907853269984665640564039457584007913129639936) : val4 [x, y, z, t] = n := by
  rw [val_of h0 h1 h2 h3, Int.emod_eq_of_lt hn hn']
theorem val_ell {n x y z t : Int} (h0 : x = w0 (n % ell)) (h1 : y = w1 (n % ell)) (h2 : z = w2 (n % ell)) (h3 : t = w3 (n % ell)) : val4 [x, y, z, t] = n % ell := by
  have := mod_bd n
  rw [ell_lit] at this
  exact val_in h0 h1 h2 h3 this.1 (by rw [ell_lit]; omega)
theorem val_pos {a b c d : Int} (ha : InR .u64 a) (hb : InR .u64 b) (hc : InR .u64 c) (hd : InR .u64 d) : 0 ≤ val4 [a, b, c, d] ∧ val4 [a, b, c, d] < 115792089237316195423570985008687907853269984665640564039457584007913129639936 := by
  simp only [InR] at ha hb hc hd
  simp only [val4]
  omega
theorem low_add {a b : Int} (ha : 0 ≤ a ∧ a < ell) (hb : 0 ≤ b ∧ b < ell) : lowI (a + b) = (a + b) % ell := by
  have he := ell_lit
  unfold lowI
  split
  · rename_i h; rw [Int.emod_eq_of_lt (by omega) h]
  · rename_i h; rw [← Int.sub_emod_right (a + b) ell, Int.emod_eq_of_lt (by omega) (by omega)]
theorem add_ell (a b : Int) : adL (a % ell) (b % ell) = adL a b := by unfold adL; rw [← Int.add_emod]
theorem sub_ell (a b : Int) : sbL (a % ell) (b % ell) = sbL a b := by unfold sbL; rw [← Int.sub_emod]
theorem mul_ell (a b : Int) : mlL (a % ell) (b % ell) = mlL a b := by unfold mlL; rw [← Int.mul_emod]
theorem sub_bd (a b : Int) : 0 ≤ sbL a b ∧ sbL a b < ell := bd _
theorem mul_bd (a b : Int) : 0 ≤ mlL a b ∧ mlL a b < ell := bd _
theorem pow_bd (a b : Int) : 0 ≤ pwL a b ∧ pwL a b < ell := bd _
theorem pr_bd (a b : Int) : 0 ≤ prI a b ∧ prI a b < ell := bd _
theorem sub_eq {a b : Int} (ha : 0 ≤ a ∧ a < ell) (hb : 0 ≤ b ∧ b < ell) : sbL a b = if a < b then a - b + ell else a - b := by
  have he := ell_lit
  unfold sbL
  split
  · rw [← Int.add_emod_right (a - b) ell, Int.emod_eq_of_lt (by omega) (by omega)]
  · rw [Int.emod_eq_of_lt (by omega) (by omega)]
theorem lt_r {n : Int} (h : n < ell) : n < 115792089237316195423570985008687907853269984665640564039457584007913129639936 := by rw [ell_lit] at h; omega
theorem orI_comm (a b : Int) : orI .u64 a b = orI .u64 b a := by
  unfold orI
  rw [BitVec.or_comm]
/-- A half. -/
def _root_.Go.Sp.halfI (a : Int) : Int := if a % 2 = 0 then a / 2 else (a + ell) / 2
open Go.Sp (halfI)
theorem half_word {x y u v w : Int} (hx : InR .u64 x) (hy : InR .u64 y) (e1 : u = shrI .u64 x 1) (e2 : v = shlI .u64 y 63) (r1 : InR .u64 u) (r2 : InR .u64 v) (e3 : w = orI .u64 u v) : w = x / 2 + y % 2 * 9223372036854775808 := by
  have h1 := shrI_u64 x 1 (by omega)
  have h2 := shlI_u64 y 63 (by omega)
  have k1 : u = x / 2 := by rw [e1]; exact h1
  have k2 : v = y * 9223372036854775808 % 18446744073709551616 := by rw [e2]; exact h2
  have k3 : v = y % 2 * 9223372036854775808 := by omega
  simp only [InR] at hx
  have := or_add 63 (x := v) (y := u) (z := y % 2) r2 r1 k3 (by rw [k1]; show x / 2 < 9223372036854775808; omega)
  rw [e3, orI_comm, this, k1, k3]
  omega
theorem shr1_word {x u : Int} (e1 : u = shrI .u64 x 1) : u = x / 2 := by
  have h1 := shrI_u64 x 1 (by omega)
  rw [e1]; exact h1

def vc32 (a0 a1 a2 a3 b0 b1 b2 b3 : Int) (K : SV → Prop) (Q : Nat → List Pv → Prop) : Prop := fnVc Γ10 Tryd.f32 [] [.arr .u64 4 true [a0, a1, a2, a3], .arr .u64 4 true [b0, b1, b2, b3]] gh K Q
theorem vc32_eq : ∀ (a0 a1 a2 a3 b0 b1 b2 b3 : Int) (K : SV → Prop) (Q : Nat → List Pv → Prop), vc32 a0 a1 a2 a3 b0 b1 b2 b3 K Q = ∀ (x1 : Int), x1 = w0 (val4 [a0, a1, a2, a3] % (7237005577332262213973186563042994240857116359379907606001950938285454250989 : Int)) → InR IntKind.u64 x1 → ∀ (x2 : Int), x2 = w1 (val4 [a0, a1, a2, a3] % (7237005577332262213973186563042994240857116359379907606001950938285454250989 : Int)) → InR IntKind.u64 x2 → ∀ (x3 : Int), x3 = w2 (val4 [a0, a1, a2, a3] % (7237005577332262213973186563042994240857116359379907606001950938285454250989 : Int)) → InR IntKind.u64 x3 → ∀ (x4 : Int), x4 = w3 (val4 [a0, a1, a2, a3] % (7237005577332262213973186563042994240857116359379907606001950938285454250989 : Int)) → InR IntKind.u64 x4 → ∀ (x5 : Int), x5 = w0 (val4 [b0, b1, b2, b3] % (7237005577332262213973186563042994240857116359379907606001950938285454250989 : Int)) → InR IntKind.u64 x5 → ∀ (x6 : Int), x6 = w1 (val4 [b0, b1, b2, b3] % (7237005577332262213973186563042994240857116359379907606001950938285454250989 : Int)) → InR IntKind.u64 x6 → ∀ (x7 : Int), x7 = w2 (val4 [b0, b1, b2, b3] % (7237005577332262213973186563042994240857116359379907606001950938285454250989 : Int)) → InR IntKind.u64 x7 → ∀ (x8 : Int), x8 = w3 (val4 [b0, b1, b2, b3] % (7237005577332262213973186563042994240857116359379907606001950938285454250989 : Int)) → InR IntKind.u64 x8 → ∀ (x9 : Int), x9 = w0 (val4 [x1, x2, x3, x4] + val4 [x5, x6, x7, x8]) → InR IntKind.u64 x9 → ∀ (x10 : Int), x10 = w1 (val4 [x1, x2, x3, x4] + val4 [x5, x6, x7, x8]) → InR IntKind.u64 x10 → ∀ (x11 : Int), x11 = w2 (val4 [x1, x2, x3, x4] + val4 [x5, x6, x7, x8]) → InR IntKind.u64 x11 → ∀ (x12 : Int), x12 = w3 (val4 [x1, x2, x3, x4] + val4 [x5, x6, x7, x8]) → InR IntKind.u64 x12 → ∀ (x13 : Int), x13 = (val4 [x1, x2, x3, x4] + val4 [x5, x6, x7, x8]) / (115792089237316195423570985008687907853269984665640564039457584007913129639936 : Int) → InR IntKind.u64 x13 → ∀ (x14 : Int), x14 = w0 (lowI (val4 [x9, x10, x11, x12])) → InR IntKind.u64 x14 → ∀ (x15 : Int), x15 = w1 (lowI (val4 [x9, x10, x11, x12])) → InR IntKind.u64 x15 → ∀ (x16 : Int), x16 = w2 (lowI (val4 [x9, x10, x11, x12])) → InR IntKind.u64 x16 → ∀ (x17 : Int), x17 = w3 (lowI (val4 [x9, x10, x11, x12])) → InR IntKind.u64 x17 → K (SV.arr IntKind.u64 (4 : Nat) true [x14, x15, x16, x17]) := by
  intros
  kernel_rfl

def addS : List SV → Option (List Prop × SV)
  | [.arr .u64 4 _ aL, .arr .u64 4 _ bL] => some ([], .arr .u64 4 true (words4 (adL (val4 aL) (val4 bL))))
  | _ => none

theorem add_ok : CallOk Tryd.prog gh 32 (pureCtr addS) := by
  refine call_pure (fn := Tryd.f32) Γ10_ok rfl (by kernel_rfl) (by kernel_rfl) (by kernel_rfl) addS fun args P0 Y0 hs hp hf => ?_
  unfold addS at hs
  split at hs
  · rename_i ea aL eb bL
    simp only [Option.some.injEq, Prod.mk.injEq] at hs
    obtain ⟨rfl, rfl⟩ := hs
    simp only [FactVs, FactV] at hf
    obtain ⟨⟨hal, ha⟩, ⟨hbl, hb⟩, _⟩ := hf
    obtain ⟨a0, a1, a2, a3, rfl⟩ := len4 hal
    have ia0 := ha a0 (by simp); have ia1 := ha a1 (by simp); have ia2 := ha a2 (by simp); have ia3 := ha a3 (by simp)
    obtain ⟨b0, b1, b2, b3, rfl⟩ := len4 hbl
    have ib0 := hb b0 (by simp); have ib1 := hb b1 (by simp); have ib2 := hb b2 (by simp); have ib3 := hb b3 (by simp)
    refine ⟨[.arr .u64 4 true [a0, a1, a2, a3], .arr .u64 4 true [b0, b1, b2, b3]], [], _, ⟨rfl, rfl, trivial⟩, Nat.le_of_ble_eq_true (by kernel_rfl), vc_noloops ?_⟩
    show vc32 a0 a1 a2 a3 b0 b1 b2 b3 _ _
    rw [vc32_eq]
    rw [← ell_lit]
    intro x1 e1 r1 x2 e2 r2 x3 e3 r3 x4 e4 r4 x5 e5 r5 x6 e6 r6 x7 e7 r7 x8 e8 r8 x9 e9 r9 x10 e10 r10 x11 e11 r11 x12 e12 r12 x13 e13 r13 x14 e14 r14 x15 e15 r15 x16 e16 r16 x17 e17 r17
    have hA := val_ell e1 e2 e3 e4
    have hB := val_ell e5 e6 e7 e8
    have bA := mod_bd (val4 [a0, a1, a2, a3])
    have bB := mod_bd (val4 [b0, b1, b2, b3])
    rw [hA, hB] at e9 e10 e11 e12
    have hS := val_in e9 e10 e11 e12 (by omega) (by rw [ell_lit] at *; omega)
    rw [hS, low_add bA bB, show (val4 [a0, a1, a2, a3] % ell + val4 [b0, b1, b2, b3] % ell) % ell = adL (val4 [a0, a1, a2, a3]) (val4 [b0, b1, b2, b3]) from add_ell _ _] at e14 e15 e16 e17
    show [x14, x15, x16, x17] = words4 (adL (val4 [a0, a1, a2, a3]) (val4 [b0, b1, b2, b3]))
    rw [e14, e15, e16, e17]; rfl
  · cases hs

def vc34 (a0 a1 a2 a3 b0 b1 b2 b3 : Int) (K : SV → Prop) (Q : Nat → List Pv → Prop) : Prop := fnVc Γ10 Tryd.f34 [] [.arr .u64 4 true [a0, a1, a2, a3], .arr .u64 4 true [b0, b1, b2, b3]] gh K Q
theorem vc34_eq : ∀ (a0 a1 a2 a3 b0 b1 b2 b3 : Int) (K : SV → Prop) (Q : Nat → List Pv → Prop), vc34 a0 a1 a2 a3 b0 b1 b2 b3 K Q = ∀ (x1 : Int), x1 = w0 (val4 [a0, a1, a2, a3] % (7237005577332262213973186563042994240857116359379907606001950938285454250989 : Int)) → InR IntKind.u64 x1 → ∀ (x2 : Int), x2 = w1 (val4 [a0, a1, a2, a3] % (7237005577332262213973186563042994240857116359379907606001950938285454250989 : Int)) → InR IntKind.u64 x2 → ∀ (x3 : Int), x3 = w2 (val4 [a0, a1, a2, a3] % (7237005577332262213973186563042994240857116359379907606001950938285454250989 : Int)) → InR IntKind.u64 x3 → ∀ (x4 : Int), x4 = w3 (val4 [a0, a1, a2, a3] % (7237005577332262213973186563042994240857116359379907606001950938285454250989 : Int)) → InR IntKind.u64 x4 → ∀ (x5 : Int), x5 = w0 (val4 [b0, b1, b2, b3] % (7237005577332262213973186563042994240857116359379907606001950938285454250989 : Int)) → InR IntKind.u64 x5 → ∀ (x6 : Int), x6 = w1 (val4 [b0, b1, b2, b3] % (7237005577332262213973186563042994240857116359379907606001950938285454250989 : Int)) → InR IntKind.u64 x6 → ∀ (x7 : Int), x7 = w2 (val4 [b0, b1, b2, b3] % (7237005577332262213973186563042994240857116359379907606001950938285454250989 : Int)) → InR IntKind.u64 x7 → ∀ (x8 : Int), x8 = w3 (val4 [b0, b1, b2, b3] % (7237005577332262213973186563042994240857116359379907606001950938285454250989 : Int)) → InR IntKind.u64 x8 → ∀ (x9 : Int), x9 = w0 (val4 [x1, x2, x3, x4] - val4 [x5, x6, x7, x8]) → InR IntKind.u64 x9 → ∀ (x10 : Int), x10 = w1 (val4 [x1, x2, x3, x4] - val4 [x5, x6, x7, x8]) → InR IntKind.u64 x10 → ∀ (x11 : Int), x11 = w2 (val4 [x1, x2, x3, x4] - val4 [x5, x6, x7, x8]) → InR IntKind.u64 x11 → ∀ (x12 : Int), x12 = w3 (val4 [x1, x2, x3, x4] - val4 [x5, x6, x7, x8]) → InR IntKind.u64 x12 → ∀ (x13 : Int), x13 = ltI (val4 [x1, x2, x3, x4]) (val4 [x5, x6, x7, x8]) → InR IntKind.u64 x13 → ∀ (x14 : Int), x14 = w0 (val4 [x9, x10, x11, x12] + (7237005577332262213973186563042994240857116359379907606001950938285454250989 : Int)) → InR IntKind.u64 x14 → ∀ (x15 : Int), x15 = w1 (val4 [x9, x10, x11, x12] + (7237005577332262213973186563042994240857116359379907606001950938285454250989 : Int)) → InR IntKind.u64 x15 → ∀ (x16 : Int), x16 = w2 (val4 [x9, x10, x11, x12] + (7237005577332262213973186563042994240857116359379907606001950938285454250989 : Int)) → InR IntKind.u64 x16 → ∀ (x17 : Int), x17 = w3 (val4 [x9, x10, x11, x12] + (7237005577332262213973186563042994240857116359379907606001950938285454250989 : Int)) → InR IntKind.u64 x17 → ∀ (x18 : Int), x18 = (val4 [x9, x10, x11, x12] + (7237005577332262213973186563042994240857116359379907606001950938285454250989 : Int)) / (115792089237316195423570985008687907853269984665640564039457584007913129639936 : Int) → InR IntKind.u64 x18 → ∀ (x19 : Int), x19 = IntKind.u64.wrap ((0 : Int) - x13) → InR IntKind.u64 x19 → Need (x19 = (0 : Int) ∨ x19 = (18446744073709551615 : Int)) ∧ ∀ (x20 : Int), x20 = chI x19 x14 x9 → InR IntKind.u64 x20 → ∀ (x21 : Int), x21 = chI x19 x15 x10 → InR IntKind.u64 x21 → ∀ (x22 : Int), x22 = chI x19 x16 x11 → InR IntKind.u64 x22 → ∀ (x23 : Int), x23 = chI x19 x17 x12 → InR IntKind.u64 x23 → K (SV.arr IntKind.u64 (4 : Nat) true [x20, x21, x22, x23]) := by
  intros
  kernel_rfl

def subS : List SV → Option (List Prop × SV)
  | [.arr .u64 4 _ aL, .arr .u64 4 _ bL] => some ([], .arr .u64 4 true (words4 (sbL (val4 aL) (val4 bL))))
  | _ => none

theorem sub_ok : CallOk Tryd.prog gh 34 (pureCtr subS) := by
  refine call_pure (fn := Tryd.f34) Γ10_ok rfl (by kernel_rfl) (by kernel_rfl) (by kernel_rfl) subS fun args P0 Y0 hs hp hf => ?_
  unfold subS at hs
  split at hs
  · rename_i ea aL eb bL
    simp only [Option.some.injEq, Prod.mk.injEq] at hs
    obtain ⟨rfl, rfl⟩ := hs
    simp only [FactVs, FactV] at hf
    obtain ⟨⟨hal, ha⟩, ⟨hbl, hb⟩, _⟩ := hf
    obtain ⟨a0, a1, a2, a3, rfl⟩ := len4 hal
    have ia0 := ha a0 (by simp); have ia1 := ha a1 (by simp); have ia2 := ha a2 (by simp); have ia3 := ha a3 (by simp)
    obtain ⟨b0, b1, b2, b3, rfl⟩ := len4 hbl
    have ib0 := hb b0 (by simp); have ib1 := hb b1 (by simp); have ib2 := hb b2 (by simp); have ib3 := hb b3 (by simp)
    refine ⟨[.arr .u64 4 true [a0, a1, a2, a3], .arr .u64 4 true [b0, b1, b2, b3]], [], _, ⟨rfl, rfl, trivial⟩, Nat.le_of_ble_eq_true (by kernel_rfl), vc_noloops ?_⟩
    show vc34 a0 a1 a2 a3 b0 b1 b2 b3 _ _
    rw [vc34_eq]
    rw [← ell_lit]
    intro x1 e1 r1 x2 e2 r2 x3 e3 r3 x4 e4 r4 x5 e5 r5 x6 e6 r6 x7 e7 r7 x8 e8 r8 x9 e9 r9 x10 e10 r10 x11 e11 r11 x12 e12 r12 x13 e13 r13 x14 e14 r14 x15 e15 r15 x16 e16 r16 x17 e17 r17 x18 e18 r18 x19 e19 r19
    have hA := val_ell e1 e2 e3 e4
    have hB := val_ell e5 e6 e7 e8
    have bA := mod_bd (val4 [a0, a1, a2, a3])
    have bB := mod_bd (val4 [b0, b1, b2, b3])
    have he := ell_lit
    rw [hA, hB] at e9 e10 e11 e12 e13
    have hD := val_of e9 e10 e11 e12
    have hE := val_of e14 e15 e16 e17
    have hm := mask_ok (by rw [e13]; exact ltI_bit _ _) e19
    refine ⟨by unfold Need; omega, fun x20 e20 r20 x21 e21 r21 x22 e22 r22 x23 e23 r23 => ?_⟩
    show [x20, x21, x22, x23] = words4 (sbL (val4 [a0, a1, a2, a3]) (val4 [b0, b1, b2, b3]))
    refine arr_eq r20 r21 r22 r23 ?_
    rw [← sub_ell, sub_eq bA bB]
    rw [e20, e21, e22, e23]
    generalize val4 [a0, a1, a2, a3] % ell = a at *
    generalize val4 [b0, b1, b2, b3] % ell = b at *
    unfold ltI at e13
    rcases hm with ⟨h0, hm⟩ | ⟨h0, hm⟩
    · have hlt : ¬ a < b := fun h => by rw [if_pos h] at e13; omega
      rw [if_neg hlt]
      simp only [chI, hm, if_true]
      rw [hD]; omega
    · have hlt : a < b := by
        rcases Int.lt_or_le a b with h | h
        · exact h
        · rw [if_neg (Int.not_lt.2 h)] at e13; omega
      rw [if_pos hlt]
      have : ¬ (x19 = 0) := by omega
      simp only [chI, this, if_false]
      rw [hE, hD]; omega
  · cases hs

def vc37 (a0 a1 a2 a3 b0 b1 b2 b3 : Int) (K : SV → Prop) (Q : Nat → List Pv → Prop) : Prop := fnVc Γ10 Tryd.f37 [] [.arr .u64 4 true [a0, a1, a2, a3], .arr .u64 4 true [b0, b1, b2, b3]] gh K Q
theorem vc37_eq : ∀ (a0 a1 a2 a3 b0 b1 b2 b3 : Int) (K : SV → Prop) (Q : Nat → List Pv → Prop), vc37 a0 a1 a2 a3 b0 b1 b2 b3 K Q = ∀ (x1 : Int), x1 = w0 (val4 [a0, a1, a2, a3] % (7237005577332262213973186563042994240857116359379907606001950938285454250989 : Int)) → InR IntKind.u64 x1 → ∀ (x2 : Int), x2 = w1 (val4 [a0, a1, a2, a3] % (7237005577332262213973186563042994240857116359379907606001950938285454250989 : Int)) → InR IntKind.u64 x2 → ∀ (x3 : Int), x3 = w2 (val4 [a0, a1, a2, a3] % (7237005577332262213973186563042994240857116359379907606001950938285454250989 : Int)) → InR IntKind.u64 x3 → ∀ (x4 : Int), x4 = w3 (val4 [a0, a1, a2, a3] % (7237005577332262213973186563042994240857116359379907606001950938285454250989 : Int)) → InR IntKind.u64 x4 → ∀ (x5 : Int), x5 = w0 (val4 [b0, b1, b2, b3] % (7237005577332262213973186563042994240857116359379907606001950938285454250989 : Int)) → InR IntKind.u64 x5 → ∀ (x6 : Int), x6 = w1 (val4 [b0, b1, b2, b3] % (7237005577332262213973186563042994240857116359379907606001950938285454250989 : Int)) → InR IntKind.u64 x6 → ∀ (x7 : Int), x7 = w2 (val4 [b0, b1, b2, b3] % (7237005577332262213973186563042994240857116359379907606001950938285454250989 : Int)) → InR IntKind.u64 x7 → ∀ (x8 : Int), x8 = w3 (val4 [b0, b1, b2, b3] % (7237005577332262213973186563042994240857116359379907606001950938285454250989 : Int)) → InR IntKind.u64 x8 → Need (val4 [x1, x2, x3, x4] < (7237005577332262213973186563042994240857116359379907606001950938285454250989 : Int)) ∧ ∀ (x9 : Int), x9 = w0 (prI (val4 [x1, x2, x3, x4]) (val4 [x5, x6, x7, x8])) → InR IntKind.u64 x9 → ∀ (x10 : Int), x10 = w1 (prI (val4 [x1, x2, x3, x4]) (val4 [x5, x6, x7, x8])) → InR IntKind.u64 x10 → ∀ (x11 : Int), x11 = w2 (prI (val4 [x1, x2, x3, x4]) (val4 [x5, x6, x7, x8])) → InR IntKind.u64 x11 → ∀ (x12 : Int), x12 = w3 (prI (val4 [x1, x2, x3, x4]) (val4 [x5, x6, x7, x8])) → InR IntKind.u64 x12 → Need (val4 [x9, x10, x11, x12] < (7237005577332262213973186563042994240857116359379907606001950938285454250989 : Int)) ∧ ∀ (x13 : Int), x13 = w0 (prI (val4 [x9, x10, x11, x12]) (1627715501170711445284395025044413883736156588369414752970002579683115011841 : Int)) → InR IntKind.u64 x13 → ∀ (x14 : Int), x14 = w1 (prI (val4 [x9, x10, x11, x12]) (1627715501170711445284395025044413883736156588369414752970002579683115011841 : Int)) → InR IntKind.u64 x14 → ∀ (x15 : Int), x15 = w2 (prI (val4 [x9, x10, x11, x12]) (1627715501170711445284395025044413883736156588369414752970002579683115011841 : Int)) → InR IntKind.u64 x15 → ∀ (x16 : Int), x16 = w3 (prI (val4 [x9, x10, x11, x12]) (1627715501170711445284395025044413883736156588369414752970002579683115011841 : Int)) → InR IntKind.u64 x16 → K (SV.arr IntKind.u64 (4 : Nat) true [x13, x14, x15, x16]) := by
  intros
  kernel_rfl

def mulS : List SV → Option (List Prop × SV)
  | [.arr .u64 4 _ aL, .arr .u64 4 _ bL] => some ([], .arr .u64 4 true (words4 (mlL (val4 aL) (val4 bL))))
  | _ => none

theorem mul_ok : CallOk Tryd.prog gh 37 (pureCtr mulS) := by
  refine call_pure (fn := Tryd.f37) Γ10_ok rfl (by kernel_rfl) (by kernel_rfl) (by kernel_rfl) mulS fun args P0 Y0 hs hp hf => ?_
  unfold mulS at hs
  split at hs
  · rename_i ea aL eb bL
    simp only [Option.some.injEq, Prod.mk.injEq] at hs
    obtain ⟨rfl, rfl⟩ := hs
    simp only [FactVs, FactV] at hf
    obtain ⟨⟨hal, ha⟩, ⟨hbl, hb⟩, _⟩ := hf
    obtain ⟨a0, a1, a2, a3, rfl⟩ := len4 hal
    have ia0 := ha a0 (by simp); have ia1 := ha a1 (by simp); have ia2 := ha a2 (by simp); have ia3 := ha a3 (by simp)
    obtain ⟨b0, b1, b2, b3, rfl⟩ := len4 hbl
    have ib0 := hb b0 (by simp); have ib1 := hb b1 (by simp); have ib2 := hb b2 (by simp); have ib3 := hb b3 (by simp)
    refine ⟨[.arr .u64 4 true [a0, a1, a2, a3], .arr .u64 4 true [b0, b1, b2, b3]], [], _, ⟨rfl, rfl, trivial⟩, Nat.le_of_ble_eq_true (by kernel_rfl), vc_noloops ?_⟩
    show vc37 a0 a1 a2 a3 b0 b1 b2 b3 _ _
    rw [vc37_eq]
    rw [← ell_lit]
    intro x1 e1 r1 x2 e2 r2 x3 e3 r3 x4 e4 r4 x5 e5 r5 x6 e6 r6 x7 e7 r7 x8 e8 r8
    have hA := val_ell e1 e2 e3 e4
    have hB := val_ell e5 e6 e7 e8
    rw [hA, hB]
    refine ⟨(mod_bd _).2, fun x9 e9 r9 x10 e10 r10 x11 e11 r11 x12 e12 r12 => ?_⟩
    have hP := val_in e9 e10 e11 e12 (pr_bd _ _).1 (lt_r (pr_bd _ _).2)
    rw [hP]
    refine ⟨(pr_bd _ _).2, fun x13 e13 r13 x14 e14 r14 x15 e15 r15 x16 e16 r16 => ?_⟩
    rw [show (1627715501170711445284395025044413883736156588369414752970002579683115011841 : Int) = Go.Gx.r2 from rfl, mul_mont, mul_ell] at e13 e14 e15 e16
    show [x13, x14, x15, x16] = words4 (mlL (val4 [a0, a1, a2, a3]) (val4 [b0, b1, b2, b3]))
    rw [e13, e14, e15, e16]; rfl
  · cases hs

def vc33 (a0 a1 a2 a3 b0 b1 b2 b3 : Int) (K : SV → Prop) (Q : Nat → List Pv → Prop) : Prop := fnVc Γ10 Tryd.f33 [] [.arr .u64 4 true [a0, a1, a2, a3], .arr .u64 4 true [b0, b1, b2, b3]] gh K Q
theorem vc33_eq : ∀ (a0 a1 a2 a3 b0 b1 b2 b3 : Int) (K : SV → Prop) (Q : Nat → List Pv → Prop), vc33 a0 a1 a2 a3 b0 b1 b2 b3 K Q = ∀ (x1 : Int), x1 = w0 (val4 [a0, a1, a2, a3] + val4 [b0, b1, b2, b3]) → InR IntKind.u64 x1 → ∀ (x2 : Int), x2 = w1 (val4 [a0, a1, a2, a3] + val4 [b0, b1, b2, b3]) → InR IntKind.u64 x2 → ∀ (x3 : Int), x3 = w2 (val4 [a0, a1, a2, a3] + val4 [b0, b1, b2, b3]) → InR IntKind.u64 x3 → ∀ (x4 : Int), x4 = w3 (val4 [a0, a1, a2, a3] + val4 [b0, b1, b2, b3]) → InR IntKind.u64 x4 → ∀ (x5 : Int), x5 = (val4 [a0, a1, a2, a3] + val4 [b0, b1, b2, b3]) / (115792089237316195423570985008687907853269984665640564039457584007913129639936 : Int) → InR IntKind.u64 x5 → ∀ (x6 : Int), x6 = (6346243789798364141 : Int) → InR IntKind.u64 x6 → ∀ (x7 : Int), x7 = (1503914060200516822 : Int) → InR IntKind.u64 x7 → ∀ (x8 : Int), x8 = (0 : Int) → InR IntKind.u64 x8 → ∀ (x9 : Int), x9 = (1152921504606846976 : Int) → InR IntKind.u64 x9 → ∀ (x10 : Bool), x10 = decide (val4 [x1, x2, x3, x4] < val4 [x6, x7, x8, x9]) → ((!x10) = true → ∀ (x11 : Int), x11 = (6346243789798364141 : Int) → InR IntKind.u64 x11 → ∀ (x12 : Int), x12 = (1503914060200516822 : Int) → InR IntKind.u64 x12 → ∀ (x13 : Int), x13 = (0 : Int) → InR IntKind.u64 x13 → ∀ (x14 : Int), x14 = (1152921504606846976 : Int) → InR IntKind.u64 x14 → ∀ (x15 : Int), x15 = w0 (val4 [x1, x2, x3, x4] - val4 [x11, x12, x13, x14]) → InR IntKind.u64 x15 → ∀ (x16 : Int), x16 = w1 (val4 [x1, x2, x3, x4] - val4 [x11, x12, x13, x14]) → InR IntKind.u64 x16 → ∀ (x17 : Int), x17 = w2 (val4 [x1, x2, x3, x4] - val4 [x11, x12, x13, x14]) → InR IntKind.u64 x17 → ∀ (x18 : Int), x18 = w3 (val4 [x1, x2, x3, x4] - val4 [x11, x12, x13, x14]) → InR IntKind.u64 x18 → ∀ (x19 : Int), x19 = ltI (val4 [x1, x2, x3, x4]) (val4 [x11, x12, x13, x14]) → InR IntKind.u64 x19 → K (SV.arr IntKind.u64 (4 : Nat) true [x15, x16, x17, x18])) ∧ ((!x10) = false → K (SV.arr IntKind.u64 (4 : Nat) true [x1, x2, x3, x4])) := by
  intros
  kernel_rfl

def raddS : List SV → Option (List Prop × SV)
  | [.arr .u64 4 _ aL, .arr .u64 4 _ bL] => some ([val4 aL < ell, val4 bL < ell], .arr .u64 4 true (words4 (adL (val4 aL) (val4 bL))))
  | _ => none

theorem radd_ok : CallOk Tryd.prog gh 33 (pureCtr raddS) := by
  refine call_pure (fn := Tryd.f33) Γ10_ok rfl (by kernel_rfl) (by kernel_rfl) (by kernel_rfl) raddS fun args P0 Y0 hs hp hf => ?_
  unfold raddS at hs
  split at hs
  · rename_i ea aL eb bL
    simp only [Option.some.injEq, Prod.mk.injEq] at hs
    obtain ⟨rfl, rfl⟩ := hs
    simp only [FactVs, FactV] at hf
    obtain ⟨⟨hal, ha⟩, ⟨hbl, hb⟩, _⟩ := hf
    obtain ⟨hpa, hpb, _⟩ := hp
    obtain ⟨a0, a1, a2, a3, rfl⟩ := len4 hal
    have ia0 := ha a0 (by simp); have ia1 := ha a1 (by simp); have ia2 := ha a2 (by simp); have ia3 := ha a3 (by simp)
    obtain ⟨b0, b1, b2, b3, rfl⟩ := len4 hbl
    have ib0 := hb b0 (by simp); have ib1 := hb b1 (by simp); have ib2 := hb b2 (by simp); have ib3 := hb b3 (by simp)
    refine ⟨[.arr .u64 4 true [a0, a1, a2, a3], .arr .u64 4 true [b0, b1, b2, b3]], [], _, ⟨rfl, rfl, trivial⟩, Nat.le_of_ble_eq_true (by kernel_rfl), vc_noloops ?_⟩
    show vc33 a0 a1 a2 a3 b0 b1 b2 b3 _ _
    rw [vc33_eq]
    have pA := val_pos ia0 ia1 ia2 ia3
    have pB := val_pos ib0 ib1 ib2 ib3
    have he := ell_lit
    have hlow := low_add ⟨pA.1, hpa⟩ ⟨pB.1, hpb⟩
    generalize val4 [a0, a1, a2, a3] = a at *
    generalize val4 [b0, b1, b2, b3] = b at *
    intro x1 e1 r1 x2 e2 r2 x3 e3 r3 x4 e4 r4 x5 e5 r5 x6 e6 r6 x7 e7 r7 x8 e8 r8 x9 e9 r9 x10 e10
    have hS := val_in e1 e2 e3 e4 (by omega) (by omega)
    have hL : val4 [x6, x7, x8, x9] = ell := by rw [e6, e7, e8, e9]; rfl
    rw [hS, hL] at e10
    unfold lowI at hlow
    refine ⟨fun h => ?_, fun h => ?_⟩
    · intro x11 e11 r11 x12 e12 r12 x13 e13 r13 x14 e14 r14 x15 e15 r15 x16 e16 r16 x17 e17 r17 x18 e18 r18 x19 e19 r19
      have hL' : val4 [x11, x12, x13, x14] = ell := by rw [e11, e12, e13, e14]; rfl
      rw [hS, hL'] at e15 e16 e17 e18
      have hn : ¬ a + b < ell := by rw [e10] at h; simpa using h
      rw [if_neg hn] at hlow
      show [x15, x16, x17, x18] = words4 (adL a b)
      unfold adL
      rw [← hlow, e15, e16, e17, e18]; rfl
    · have hn : a + b < ell := by rw [e10] at h; simpa using h
      rw [if_pos hn] at hlow
      show [x1, x2, x3, x4] = words4 (adL a b)
      unfold adL
      rw [← hlow, e1, e2, e3, e4]; rfl
  · cases hs

def vc36 (a0 a1 a2 a3 : Int) (K : SV → Prop) (Q : Nat → List Pv → Prop) : Prop := fnVc Γ10 Tryd.f36 [] [.arr .u64 4 true [a0, a1, a2, a3]] gh K Q
theorem vc36_eq : ∀ (a0 a1 a2 a3 : Int) (K : SV → Prop) (Q : Nat → List Pv → Prop), vc36 a0 a1 a2 a3 K Q = ∀ (x1 : Bool), x1 = ([a0, a1, a2, a3] == [(0 : Int), (0 : Int), (0 : Int), (0 : Int)]) → (x1 = true → K (SV.arr IntKind.u64 (4 : Nat) true [a0, a1, a2, a3])) ∧ (x1 = false → ∀ (x2 : Int), x2 = (6346243789798364141 : Int) → InR IntKind.u64 x2 → ∀ (x3 : Int), x3 = (1503914060200516822 : Int) → InR IntKind.u64 x3 → ∀ (x4 : Int), x4 = (0 : Int) → InR IntKind.u64 x4 → ∀ (x5 : Int), x5 = (1152921504606846976 : Int) → InR IntKind.u64 x5 → ∀ (x6 : Int), x6 = w0 (val4 [x2, x3, x4, x5] - val4 [a0, a1, a2, a3]) → InR IntKind.u64 x6 → ∀ (x7 : Int), x7 = w1 (val4 [x2, x3, x4, x5] - val4 [a0, a1, a2, a3]) → InR IntKind.u64 x7 → ∀ (x8 : Int), x8 = w2 (val4 [x2, x3, x4, x5] - val4 [a0, a1, a2, a3]) → InR IntKind.u64 x8 → ∀ (x9 : Int), x9 = w3 (val4 [x2, x3, x4, x5] - val4 [a0, a1, a2, a3]) → InR IntKind.u64 x9 → ∀ (x10 : Int), x10 = ltI (val4 [x2, x3, x4, x5]) (val4 [a0, a1, a2, a3]) → InR IntKind.u64 x10 → K (SV.arr IntKind.u64 (4 : Nat) true [x6, x7, x8, x9])) := by
  intros
  kernel_rfl

def rnegS : List SV → Option (List Prop × SV)
  | [.arr .u64 4 _ aL] => some ([val4 aL < ell], .arr .u64 4 true (words4 (sbL 0 (val4 aL))))
  | _ => none

theorem rneg_ok : CallOk Tryd.prog gh 36 (pureCtr rnegS) := by
  refine call_pure (fn := Tryd.f36) Γ10_ok rfl (by kernel_rfl) (by kernel_rfl) (by kernel_rfl) rnegS fun args P0 Y0 hs hp hf => ?_
  unfold rnegS at hs
  split at hs
  · rename_i ea aL
    simp only [Option.some.injEq, Prod.mk.injEq] at hs
    obtain ⟨rfl, rfl⟩ := hs
    simp only [FactVs, FactV] at hf
    obtain ⟨⟨hal, ha⟩, _⟩ := hf
    obtain ⟨hpa, _⟩ := hp
    obtain ⟨a0, a1, a2, a3, rfl⟩ := len4 hal
    have ia0 := ha a0 (by simp); have ia1 := ha a1 (by simp); have ia2 := ha a2 (by simp); have ia3 := ha a3 (by simp)
    refine ⟨[.arr .u64 4 true [a0, a1, a2, a3]], [], _, ⟨rfl, trivial⟩, Nat.le_of_ble_eq_true (by kernel_rfl), vc_noloops ?_⟩
    show vc36 a0 a1 a2 a3 _ _
    rw [vc36_eq]
    have pA := val_pos ia0 ia1 ia2 ia3
    have he := ell_lit
    have hz : ([a0, a1, a2, a3] == [0, 0, 0, 0]) = true ↔ val4 [a0, a1, a2, a3] = 0 := by
      simp only [InR] at ia0 ia1 ia2 ia3
      rw [beq_iff_eq]
      simp only [List.cons.injEq, and_true, val4]
      omega
    have hsub := sub_eq (a := 0) (b := val4 [a0, a1, a2, a3]) ⟨by omega, by rw [he]; decide⟩ ⟨pA.1, hpa⟩
    intro x1 e1
    refine ⟨fun h => ?_, fun h => ?_⟩
    · have h0 := hz.1 (by rw [← e1]; exact h)
      refine arr_eq ia0 ia1 ia2 ia3 ?_
      rw [hsub, if_neg (by omega)]; omega
    · have h0 : ¬ val4 [a0, a1, a2, a3] = 0 := fun e => by rw [e1, hz.2 e] at h; cases h
      intro x2 e2 r2 x3 e3 r3 x4 e4 r4 x5 e5 r5 x6 e6 r6 x7 e7 r7 x8 e8 r8 x9 e9 r9 x10 e10 r10
      have hL : val4 [x2, x3, x4, x5] = ell := by rw [e2, e3, e4, e5]; rfl
      rw [hL] at e6 e7 e8 e9
      have hS := val_in e6 e7 e8 e9 (by omega) (by omega)
      refine arr_eq r6 r7 r8 r9 ?_
      rw [hS, hsub, if_pos (by omega)]; omega
  · cases hs

def vc79 (a0 a1 a2 a3 : Int) (K : SV → Prop) (Q : Nat → List Pv → Prop) : Prop := fnVc Γ10 Tryd.f79 [] [.arr .u64 4 true [a0, a1, a2, a3]] gh K Q
theorem vc79_eq : ∀ (a0 a1 a2 a3 : Int) (K : SV → Prop) (Q : Nat → List Pv → Prop), vc79 a0 a1 a2 a3 K Q = ∀ (x1 : Int), x1 = andI IntKind.u64 a0 (4294967295 : Int) → InR IntKind.u64 x1 → ∀ (x2 : Int), x2 = shrI IntKind.u64 a0 (32 : Int) → InR IntKind.u64 x2 → ∀ (x3 : Int), x3 = andI IntKind.u64 a1 (4294967295 : Int) → InR IntKind.u64 x3 → ∀ (x4 : Int), x4 = shrI IntKind.u64 a1 (32 : Int) → InR IntKind.u64 x4 → ∀ (x5 : Int), x5 = andI IntKind.u64 a2 (4294967295 : Int) → InR IntKind.u64 x5 → ∀ (x6 : Int), x6 = shrI IntKind.u64 a2 (32 : Int) → InR IntKind.u64 x6 → ∀ (x7 : Int), x7 = andI IntKind.u64 a3 (4294967295 : Int) → InR IntKind.u64 x7 → ∀ (x8 : Int), x8 = shrI IntKind.u64 a3 (32 : Int) → InR IntKind.u64 x8 → K (SV.arr IntKind.u64 (8 : Nat) true [x1, x2, x3, x4, x5, x6, x7, x8]) := by
  intros
  kernel_rfl

def halvesS : List SV → Option (List Prop × SV)
  | [.arr .u64 4 _ aL] => some ([], .arr .u64 8 true [ge aL 0 % 4294967296, ge aL 0 / 4294967296, ge aL 1 % 4294967296, ge aL 1 / 4294967296, ge aL 2 % 4294967296, ge aL 2 / 4294967296, ge aL 3 % 4294967296, ge aL 3 / 4294967296])
  | _ => none

theorem halves_ok : CallOk Tryd.prog gh 79 (pureCtr halvesS) := by
  refine call_pure (fn := Tryd.f79) Γ10_ok rfl (by kernel_rfl) (by kernel_rfl) (by kernel_rfl) halvesS fun args P0 Y0 hs hp hf => ?_
  unfold halvesS at hs
  split at hs
  · rename_i ea aL
    simp only [Option.some.injEq, Prod.mk.injEq] at hs
    obtain ⟨rfl, rfl⟩ := hs
    simp only [FactVs, FactV] at hf
    obtain ⟨⟨hal, ha⟩, _⟩ := hf
    obtain ⟨a0, a1, a2, a3, rfl⟩ := len4 hal
    have ia0 := ha a0 (by simp); have ia1 := ha a1 (by simp); have ia2 := ha a2 (by simp); have ia3 := ha a3 (by simp)
    refine ⟨[.arr .u64 4 true [a0, a1, a2, a3]], [], _, ⟨rfl, trivial⟩, Nat.le_of_ble_eq_true (by kernel_rfl), vc_noloops ?_⟩
    show vc79 a0 a1 a2 a3 _ _
    rw [vc79_eq]
    intro x1 e1 r1 x2 e2 r2 x3 e3 r3 x4 e4 r4 x5 e5 r5 x6 e6 r6 x7 e7 r7 x8 e8 r8
    rw [and32 ia0] at e1
    rw [and32 ia1] at e3
    rw [and32 ia2] at e5
    rw [and32 ia3] at e7
    rw [shr32] at e2 e4 e6 e8
    show [x1, x2, x3, x4, x5, x6, x7, x8] = [a0 % 4294967296, a0 / 4294967296, a1 % 4294967296, a1 / 4294967296, a2 % 4294967296, a2 / 4294967296, a3 % 4294967296, a3 / 4294967296]
    rw [e1, e2, e3, e4, e5, e6, e7, e8]
  · cases hs

def vc52 (x : Int) (K : SV → Prop) (Q : Nat → List Pv → Prop) : Prop := fnVc Γ10 Tryd.f52 [] [.i .u64 ⟨false, x⟩] gh K Q
theorem vc52_eq : ∀ (x : Int) (K : SV → Prop) (Q : Nat → List Pv → Prop), vc52 x K Q = K (SV.arr IntKind.u64 (4 : Nat) true [x, (0 : Int), (0 : Int), (0 : Int)]) := by
  intros
  kernel_rfl

def intS : List SV → Option (List Prop × SV)
  | [.i .u64 xV] => some ([], .arr .u64 4 true [xV.z, 0, 0, 0])
  | _ => none

theorem int_ok : CallOk Tryd.prog gh 52 (pureCtr intS) := by
  refine call_pure (fn := Tryd.f52) Γ10_ok rfl (by kernel_rfl) (by kernel_rfl) (by kernel_rfl) intS fun args P0 Y0 hs hp hf => ?_
  unfold intS at hs
  split at hs
  · rename_i xV
    simp only [Option.some.injEq, Prod.mk.injEq] at hs
    obtain ⟨rfl, rfl⟩ := hs
    simp only [FactVs, FactV] at hf
    obtain ⟨hx, _⟩ := hf
    refine ⟨[.i .u64 ⟨false, xV.z⟩], [], _, ⟨rfl, trivial⟩, Nat.le_of_ble_eq_true (by kernel_rfl), vc_noloops ?_⟩
    show vc52 xV.z _ _
    rw [vc52_eq]
    generalize xV.z = x at *
    exact rfl
  · cases hs

def vc53 (x : Int) (K : SV → Prop) (Q : Nat → List Pv → Prop) : Prop := fnVc Γ10 Tryd.f53 [] [.i .u64 ⟨false, x⟩] gh K Q
theorem vc53_eq : ∀ (x : Int) (K : SV → Prop) (Q : Nat → List Pv → Prop), vc53 x K Q = K (SV.arr IntKind.u64 (4 : Nat) true [x, (0 : Int), (0 : Int), (0 : Int)]) := by
  intros
  kernel_rfl

def rintS : List SV → Option (List Prop × SV)
  | [.i .u64 xV] => some ([], .arr .u64 4 true [xV.z, 0, 0, 0])
  | _ => none

theorem rint_ok : CallOk Tryd.prog gh 53 (pureCtr rintS) := by
  refine call_pure (fn := Tryd.f53) Γ10_ok rfl (by kernel_rfl) (by kernel_rfl) (by kernel_rfl) rintS fun args P0 Y0 hs hp hf => ?_
  unfold rintS at hs
  split at hs
  · rename_i xV
    simp only [Option.some.injEq, Prod.mk.injEq] at hs
    obtain ⟨rfl, rfl⟩ := hs
    simp only [FactVs, FactV] at hf
    obtain ⟨hx, _⟩ := hf
    refine ⟨[.i .u64 ⟨false, xV.z⟩], [], _, ⟨rfl, trivial⟩, Nat.le_of_ble_eq_true (by kernel_rfl), vc_noloops ?_⟩
    show vc53 xV.z _ _
    rw [vc53_eq]
    generalize xV.z = x at *
    exact rfl
  · cases hs

def vc51 (a0 a1 a2 a3 : Int) (K : SV → Prop) (Q : Nat → List Pv → Prop) : Prop := fnVc Γ10 Tryd.f51 [] [.arr .u64 4 true [a0, a1, a2, a3]] gh K Q
theorem vc51_eq : ∀ (a0 a1 a2 a3 : Int) (K : SV → Prop) (Q : Nat → List Pv → Prop), vc51 a0 a1 a2 a3 K Q = K (SV.arr IntKind.u64 (4 : Nat) true [(1 : Int), (0 : Int), (0 : Int), (0 : Int)]) := by
  intros
  kernel_rfl

def oneS : List SV → Option (List Prop × SV)
  | [.arr .u64 4 _ aL] => some ([], .arr .u64 4 true [1, 0, 0, 0])
  | _ => none

theorem one_ok : CallOk Tryd.prog gh 51 (pureCtr oneS) := by
  refine call_pure (fn := Tryd.f51) Γ10_ok rfl (by kernel_rfl) (by kernel_rfl) (by kernel_rfl) oneS fun args P0 Y0 hs hp hf => ?_
  unfold oneS at hs
  split at hs
  · rename_i ea aL
    simp only [Option.some.injEq, Prod.mk.injEq] at hs
    obtain ⟨rfl, rfl⟩ := hs
    simp only [FactVs, FactV] at hf
    obtain ⟨⟨hal, ha⟩, _⟩ := hf
    obtain ⟨a0, a1, a2, a3, rfl⟩ := len4 hal
    have ia0 := ha a0 (by simp); have ia1 := ha a1 (by simp); have ia2 := ha a2 (by simp); have ia3 := ha a3 (by simp)
    refine ⟨[.arr .u64 4 true [a0, a1, a2, a3]], [], _, ⟨rfl, trivial⟩, Nat.le_of_ble_eq_true (by kernel_rfl), vc_noloops ?_⟩
    show vc51 a0 a1 a2 a3 _ _
    rw [vc51_eq]
    exact rfl
  · cases hs

def vc82 (a0 a1 a2 a3 : Int) (K : SV → Prop) (Q : Nat → List Pv → Prop) : Prop := fnVc Γ10 Tryd.f82 [] [.arr .u64 4 true [a0, a1, a2, a3]] gh K Q
theorem vc82_eq : ∀ (a0 a1 a2 a3 : Int) (K : SV → Prop) (Q : Nat → List Pv → Prop), vc82 a0 a1 a2 a3 K Q = ∀ (x1 : Int), x1 = andI IntKind.u64 a0 (1 : Int) → InR IntKind.u64 x1 → ((x1 == (1 : Int)) = true → ∀ (x2 : Int), x2 = (6346243789798364141 : Int) → InR IntKind.u64 x2 → ∀ (x3 : Int), x3 = (1503914060200516822 : Int) → InR IntKind.u64 x3 → ∀ (x4 : Int), x4 = (0 : Int) → InR IntKind.u64 x4 → ∀ (x5 : Int), x5 = (1152921504606846976 : Int) → InR IntKind.u64 x5 → ∀ (x6 : Int), x6 = w0 (val4 [a0, a1, a2, a3] + val4 [x2, x3, x4, x5]) → InR IntKind.u64 x6 → ∀ (x7 : Int), x7 = w1 (val4 [a0, a1, a2, a3] + val4 [x2, x3, x4, x5]) → InR IntKind.u64 x7 → ∀ (x8 : Int), x8 = w2 (val4 [a0, a1, a2, a3] + val4 [x2, x3, x4, x5]) → InR IntKind.u64 x8 → ∀ (x9 : Int), x9 = w3 (val4 [a0, a1, a2, a3] + val4 [x2, x3, x4, x5]) → InR IntKind.u64 x9 → ∀ (x10 : Int), x10 = (val4 [a0, a1, a2, a3] + val4 [x2, x3, x4, x5]) / (115792089237316195423570985008687907853269984665640564039457584007913129639936 : Int) → InR IntKind.u64 x10 → ∀ (x11 : Int), x11 = shrI IntKind.u64 x6 (1 : Int) → InR IntKind.u64 x11 → ∀ (x12 : Int), x12 = shlI IntKind.u64 x7 (63 : Int) → InR IntKind.u64 x12 → ∀ (x13 : Int), x13 = orI IntKind.u64 x11 x12 → InR IntKind.u64 x13 → ∀ (x14 : Int), x14 = shrI IntKind.u64 x7 (1 : Int) → InR IntKind.u64 x14 → ∀ (x15 : Int), x15 = shlI IntKind.u64 x8 (63 : Int) → InR IntKind.u64 x15 → ∀ (x16 : Int), x16 = orI IntKind.u64 x14 x15 → InR IntKind.u64 x16 → ∀ (x17 : Int), x17 = shrI IntKind.u64 x8 (1 : Int) → InR IntKind.u64 x17 → ∀ (x18 : Int), x18 = shlI IntKind.u64 x9 (63 : Int) → InR IntKind.u64 x18 → ∀ (x19 : Int), x19 = orI IntKind.u64 x17 x18 → InR IntKind.u64 x19 → ∀ (x20 : Int), x20 = shrI IntKind.u64 x9 (1 : Int) → InR IntKind.u64 x20 → ∀ (x21 : Int), x21 = shlI IntKind.u64 x10 (63 : Int) → InR IntKind.u64 x21 → ∀ (x22 : Int), x22 = orI IntKind.u64 x20 x21 → InR IntKind.u64 x22 → K (SV.arr IntKind.u64 (4 : Nat) true [x13, x16, x19, x22])) ∧ ((x1 == (1 : Int)) = false → ∀ (x23 : Int), x23 = shrI IntKind.u64 a0 (1 : Int) → InR IntKind.u64 x23 → ∀ (x24 : Int), x24 = shlI IntKind.u64 a1 (63 : Int) → InR IntKind.u64 x24 → ∀ (x25 : Int), x25 = orI IntKind.u64 x23 x24 → InR IntKind.u64 x25 → ∀ (x26 : Int), x26 = shrI IntKind.u64 a1 (1 : Int) → InR IntKind.u64 x26 → ∀ (x27 : Int), x27 = shlI IntKind.u64 a2 (63 : Int) → InR IntKind.u64 x27 → ∀ (x28 : Int), x28 = orI IntKind.u64 x26 x27 → InR IntKind.u64 x28 → ∀ (x29 : Int), x29 = shrI IntKind.u64 a2 (1 : Int) → InR IntKind.u64 x29 → ∀ (x30 : Int), x30 = shlI IntKind.u64 a3 (63 : Int) → InR IntKind.u64 x30 → ∀ (x31 : Int), x31 = orI IntKind.u64 x29 x30 → InR IntKind.u64 x31 → ∀ (x32 : Int), x32 = shrI IntKind.u64 a3 (1 : Int) → InR IntKind.u64 x32 → ∀ (x33 : Int), x33 = orI IntKind.u64 x32 (0 : Int) → InR IntKind.u64 x33 → K (SV.arr IntKind.u64 (4 : Nat) true [x25, x28, x31, x33])) := by
  intros
  kernel_rfl

def halfS : List SV → Option (List Prop × SV)
  | [.arr .u64 4 _ aL] => some ([], .arr .u64 4 true (words4 (halfI (val4 aL))))
  | _ => none

theorem half_ok : CallOk Tryd.prog gh 82 (pureCtr halfS) := by
  refine call_pure (fn := Tryd.f82) Γ10_ok rfl (by kernel_rfl) (by kernel_rfl) (by kernel_rfl) halfS fun args P0 Y0 hs hp hf => ?_
  unfold halfS at hs
  split at hs
  · rename_i ea aL
    simp only [Option.some.injEq, Prod.mk.injEq] at hs
    obtain ⟨rfl, rfl⟩ := hs
    simp only [FactVs, FactV] at hf
    obtain ⟨⟨hal, ha⟩, _⟩ := hf
    obtain ⟨a0, a1, a2, a3, rfl⟩ := len4 hal
    have ia0 := ha a0 (by simp); have ia1 := ha a1 (by simp); have ia2 := ha a2 (by simp); have ia3 := ha a3 (by simp)
    refine ⟨[.arr .u64 4 true [a0, a1, a2, a3]], [], _, ⟨rfl, trivial⟩, Nat.le_of_ble_eq_true (by kernel_rfl), vc_noloops ?_⟩
    show vc82 a0 a1 a2 a3 _ _
    rw [vc82_eq]
    have he := ell_lit
    have hodd : a0 % 2 = val4 [a0, a1, a2, a3] % 2 := by simp only [val4]; omega
    intro x1 e1 r1
    rw [and1 ia0, hodd] at e1
    refine ⟨fun h => ?_, fun h => ?_⟩
    · have h1 : x1 = 1 := by simpa using h
      intro x2 e2 r2 x3 e3 r3 x4 e4 r4 x5 e5 r5 x6 e6 r6 x7 e7 r7 x8 e8 r8 x9 e9 r9 x10 e10 r10 x11 e11 r11 x12 e12 r12 x13 e13 r13 x14 e14 r14 x15 e15 r15 x16 e16 r16 x17 e17 r17 x18 e18 r18 x19 e19 r19 x20 e20 r20 x21 e21 r21 x22 e22 r22
      have hL : val4 [x2, x3, x4, x5] = ell := by rw [e2, e3, e4, e5]; rfl
      rw [hL] at e6 e7 e8 e9 e10
      have hS := val_of e6 e7 e8 e9
      have q13 := half_word r6 r7 e11 e12 r11 r12 e13
      have q16 := half_word r7 r8 e14 e15 r14 r15 e16
      have q19 := half_word r8 r9 e17 e18 r17 r18 e19
      have q22 := half_word r9 r10 e20 e21 r20 r21 e22
      refine arr_eq r13 r16 r19 r22 ?_
      unfold halfI
      rw [if_neg (by omega)]
      have pA := val_pos ia0 ia1 ia2 ia3
      simp only [InR] at r6 r7 r8 r9 r10
      generalize val4 [a0, a1, a2, a3] = a at *
      simp only [val4] at hS ⊢
      clear e1 e2 e3 e4 e5 e6 e7 e8 e9 e11 e12 e13 e14 e15 e16 e17 e18 e19 e20 e21 e22 hL
      omega
    · have h1 : ¬ x1 = 1 := by simpa using h
      intro x23 e23 r23 x24 e24 r24 x25 e25 r25 x26 e26 r26 x27 e27 r27 x28 e28 r28 x29 e29 r29 x30 e30 r30 x31 e31 r31 x32 e32 r32 x33 e33 r33
      have q25 := half_word ia0 ia1 e23 e24 r23 r24 e25
      have q28 := half_word ia1 ia2 e26 e27 r26 r27 e28
      have q31 := half_word ia2 ia3 e29 e30 r29 r30 e31
      have q32 := shr1_word e32
      have q33 : x33 = x32 := by
        rw [e33]
        have := or_add 64 (x := 0) (y := x32) (z := 0) ⟨by omega, by omega⟩ r32 (by omega) r32.2
        rw [orI_comm, this]; omega
      refine arr_eq r25 r28 r31 r33 ?_
      unfold halfI
      rw [if_pos (by omega)]
      simp only [val4]
      omega
  · cases hs

def Γ11 : Tab := ⟨tys, [(32, pureCtr addS), (34, pureCtr subS), (37, pureCtr mulS), (33, pureCtr raddS), (36, pureCtr rnegS), (79, pureCtr halvesS), (52, pureCtr intS), (53, pureCtr rintS), (51, pureCtr oneS), (82, pureCtr halfS)] ++ Γ10.ctr, [0], gh⟩
theorem Γ11_ok : TabOk Tryd.prog Γ11 := (((((((((Γ10_ok.cons half_ok).cons one_ok).cons rint_ok).cons int_ok).cons halves_ok).cons rneg_ok).cons radd_ok).cons mul_ok).cons sub_ok).cons add_ok
end Go.Gx
