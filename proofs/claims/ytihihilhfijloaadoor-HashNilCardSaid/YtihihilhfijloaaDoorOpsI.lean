/- append, copy, clear; bytes and texts. -/
import Derived.Test.YtihihilhfijloaaDoorOpsH
namespace Go.Gx
open Go.RowKit
set_option linter.unusedVariables false

def conCells : Con → List Value
  | .ints k l => l.map (Value.int k)
  | .arrs k n l => l.flatten.map (Value.int k)

def conOk : Con → Prop
  | .ints k l => AllR k l
  | .arrs k n l => AllA k n l

theorem conCells_length {q : Con} (h : conOk q) : (conCells q).length = conLen q * conSize q := by
  cases q with
  | ints k l => simp [conCells, conLen, conSize]
  | arrs k n l => simp only [conCells, conLen, conSize, List.length_map]; rw [flatten_len h, Nat.mul_comm]

theorem conCells_one {q : Con} : ∀ v ∈ conCells q, v.oneCell' = true := by
  cases q <;> (intro v hv; simp only [conCells, List.mem_map] at hv; obtain ⟨z, _, rfl⟩ := hv; rfl)

theorem AllR.drop_take {k : IntKind} {l : List Int} (h : AllR k l) (a b : Nat) : AllR k ((l.drop a).take b) := fun z hz => h z (List.mem_of_mem_drop (List.mem_of_mem_take hz))
theorem AllA.drop_take {k : IntKind} {n : Nat} {l : List (List Int)} (h : AllA k n l) (a b : Nat) : AllA k n ((l.drop a).take b) := fun z hz => h z (List.mem_of_mem_drop (List.mem_of_mem_take hz))

theorem drop_len_add {α : Type} (x y : List α) (m : Nat) : (x ++ y).drop (x.length + m) = y.drop m := by
  induction x with
  | nil => simp
  | cons a r ih => simp only [List.length_cons, List.cons_append]; rw [show r.length + 1 + m = (r.length + m) + 1 by omega, List.drop_succ_cons, ih]
theorem take_len_add {α : Type} (x y : List α) (m : Nat) : (x ++ y).take (x.length + m) = x ++ y.take m := by
  induction x with
  | nil => simp
  | cons a r ih => simp only [List.length_cons, List.cons_append]; rw [show r.length + 1 + m = (r.length + m) + 1 by omega, List.take_succ_cons, ih]

theorem flatten_drop {k : IntKind} {n : Nat} : ∀ {l : List (List Int)} (h : AllA k n l) (a : Nat), (l.drop a).flatten = l.flatten.drop (n * a)
  | [], _, a => by simp
  | x :: r, h, 0 => by simp
  | x :: r, h, a + 1 => by
    have hx := (h x (by simp)).1
    have e : n * (a + 1) = x.length + n * a := by rw [hx, Nat.mul_add]; omega
    simp only [List.drop_succ_cons, List.flatten_cons]
    rw [flatten_drop (fun y hy => h y (by simp [hy])) a, e]
    exact (drop_len_add x _ _).symm
theorem flatten_take {k : IntKind} {n : Nat} : ∀ {l : List (List Int)} (h : AllA k n l) (a : Nat), (l.take a).flatten = l.flatten.take (n * a)
  | [], _, a => by simp
  | x :: r, h, 0 => by simp
  | x :: r, h, a + 1 => by
    have hx := (h x (by simp)).1
    have e : n * (a + 1) = x.length + n * a := by rw [hx, Nat.mul_add]; omega
    simp only [List.take_succ_cons, List.flatten_cons]
    rw [flatten_take (fun y hy => h y (by simp [hy])) a, e]
    exact (take_len_add x _ _).symm

/-- What a slice or text holds, as the model reads it. -/
structure ConAt (P : Program) (w : World) (v : Value) (q : Con) : Prop where
  ok : conOk q
  len : ∀ w' : World, (Builtin.lenOf v).run P w' = .ok (conLen q) w'
  at_ : ∀ ad n cap, v = .slice ad n cap → n = conLen q ∧ n ≤ cap ∧ ((conLen q = 0 ∧ cap = 0) ∨ ∃ b o, ad = some ⟨b, o, none⟩ ∧ (0 < conSize q * cap → b < w.heap.size) ∧ w.rangeAt b o (conCells q))
  cells : ∀ w' : World, (∀ a u, w.cell? a = some u → w'.cell? a = some u) → ∀ m, m ≤ conLen q → (Builtin.firstCells (conSize q) m v).run P w' = .ok ((conCells q).take (m * conSize q)).toArray w'

theorem conSeg_sound {dm : Nat → Prop} {ρ : Nat → Pl} {g : Seg} {est : Nat} {off len : SI} {p : List Prop} {q : Con} {cs : List Value} (h : conSeg g est off len = some (p, q)) (hg : SegD dm ρ g cs) (hp : AllP p) (ho : 0 ≤ off.z) (hl : 0 ≤ len.z) :
    conOk q ∧ conLen q = len.z.toNat ∧ conSize q = est ∧ conCells q = (cs.drop (est * off.z.toNat)).take (est * len.z.toNat) ∧ est * off.z.toNat + est * len.z.toNat ≤ cs.length := by
  cases g with
  | one x => simp [conSeg] at h
  | rowI k l =>
    obtain ⟨h1, h2⟩ := hg
    simp only [conSeg] at h
    split at h
    · rename_i hb
      have e := Nat.eq_of_beq_eq_true hb
      simp only [Option.some.injEq, Prod.mk.injEq] at h
      obtain ⟨rfl, rfl⟩ := h
      subst e
      have hb2 := hp.1
      refine ⟨h1.drop_take _ _, by simp [conLen]; omega, rfl, ?_, by rw [h2]; simp; omega⟩
      simp only [conCells, h2, Nat.one_mul, List.map_take, List.map_drop]
    · cases h
  | arr k n ex l =>
    obtain ⟨h0, h1, h2⟩ := hg
    simp only [conSeg] at h
    split at h
    · rename_i p' hb hpp
      have e := Nat.eq_of_beq_eq_true hb
      simp only [Option.some.injEq, Prod.mk.injEq] at h
      obtain ⟨rfl, rfl⟩ := h
      subst e
      have hb2 : off.z + len.z ≤ (n : Int) := by
        split at hpp
        · have := (tst_some hpp).1; simpa using this
        · simp only [Option.some.injEq] at hpp; subst hpp; exact hp.1
      refine ⟨h1.drop_take _ _, by simp [conLen]; omega, rfl, ?_, by rw [h2]; simp; omega⟩
      simp only [conCells, h2, Nat.one_mul, List.map_take, List.map_drop]
    · cases h
  | rowA k n l =>
    obtain ⟨h1, h2⟩ := hg
    simp only [conSeg] at h
    split at h
    · rename_i hb
      have e := Nat.eq_of_beq_eq_true hb
      simp only [Option.some.injEq, Prod.mk.injEq] at h
      obtain ⟨rfl, rfl⟩ := h
      subst e
      have hb2 := hp.1
      have hle : off.z.toNat + len.z.toNat ≤ l.length := by omega
      refine ⟨h1.drop_take _ _, by simp [conLen]; omega, rfl, ?_, ?_⟩
      · have h1d : AllA k est (l.drop off.z.toNat) := fun y hy => h1 y (List.mem_of_mem_drop hy)
        simp only [conCells, h2]
        rw [flatten_take h1d, flatten_drop h1, List.map_take, List.map_drop]
      · rw [h2, List.length_map, flatten_len h1, ← Nat.mul_add]
        exact Nat.mul_le_mul_left _ hle
    · cases h

theorem bytesI_ok (s : ByteArray) : AllR .u8 (bytesI s) := fun z hz => by
  simp only [bytesI, List.mem_map] at hz
  obtain ⟨b, _, rfl⟩ := hz
  have := UInt8.toNat_lt b
  simp only [InR]; omega

theorem bytesI_length (s : ByteArray) : (bytesI s).length = s.size := by simp [bytesI]

section
variable {P : Program} {w0 : World} {M : Nat → Prop} {ρ : Nat → Pl} {H : Nat → Option SB} {w : World}

theorem firstCells_some {w' : World} (es n : Nat) (a : Addr) (len cap : Nat) (cs : List Value) (hl : cs.length = n * es) (h : ∀ j v, cs[j]? = some v → w'.cell? (a.add j) = some v) :
    (Builtin.firstCells es n (.slice (some a) len cap)).run P w' = .ok cs.toArray w' := by
  have := run_loadCells_list (P := P) w' a cs h
  rw [hl] at this
  exact this

theorem ConAt.all {v : Value} {q : Con} (h : ConAt P w v q) (w' : World) (hw : ∀ a u, w.cell? a = some u → w'.cell? a = some u) : (Builtin.firstCells (conSize q) (conLen q) v).run P w' = .ok (conCells q).toArray w' := by
  have := h.cells w' hw (conLen q) (Nat.le_refl _)
  rwa [← conCells_length h.ok, List.take_length] at this

/-- 'withCon': what it hands on is what the value holds. -/
theorem withCon_sound (hm : Mem w0 M ρ H w) {x : SV} {v : Value} (hx : D (dmOf H) ρ x v) {f : List Prop → Con → RP Delta} {d : Delta} {rs rs' : List Nat} (h : (withCon x f).run H rs = some (d, rs')) :
    ∃ p q rs1, (f p q).run H rs1 = some (d, rs') ∧ (AllP p → ConAt P w v q) := by
  unfold withCon at h
  split at h
  · rename_i key c est off len
    simp only [D] at hx
    obtain ⟨hk, ho, hl, hr, ad, cap, rfl, hlc, hdis⟩ := hx
    simp only [RP.run] at h
    split at h
    · rename_i ro l hkey
      split at h
      · rename_i g hs
        split at h
        · rename_i p q hq
          refine ⟨p, q, _, h, fun hp => ?_⟩
          obtain ⟨vs, h1, h2, h3, _⟩ := hm.segs hkey
          obtain ⟨pre, cs, post, e1, e2, e3, _, _⟩ := segAt_D l c vs g 0 h1 hs
          obtain ⟨a1, a2, a3, a4, a5⟩ := conSeg_sound hq e2 hp ho hl
          refine ⟨a1, fun w' => by rw [a2]; rfl, ?_, fun w' hw' m hm' => ?_⟩
          · rintro ad' n' cap' hv
            cases hv
            refine ⟨a2.symm, hlc, ?_⟩
            rcases hdis with ⟨rfl, hcap⟩ | ⟨q1, q2⟩
            · right
              refine ⟨(ρ key).blk, (ρ key).off + (c + est * off.z.toNat), rfl, fun h0 => hm.heap.lt key ro l hkey ?_, ?_⟩
              · rw [a3] at h0; omega
              · have hra := rangeAt_part h3 (c + est * off.z.toNat) (est * len.z.toNat)
                have heq : conCells q = (vs.drop (c + est * off.z.toNat)).take (est * len.z.toNat) := by
                  rw [a4, e1, show c + est * off.z.toNat = pre.length + est * off.z.toNat by omega, drop_mid _ _ _ _ _ a5]
                rw [heq]; exact hra
            · left
              exact ⟨by rw [a2]; omega, q2⟩
          rw [a3]
          have hcl := conCells_length a1
          rw [a3] at hcl
          have hml : m * est ≤ conLen q * est := Nat.mul_le_mul_right _ hm'
          rcases hdis with ⟨rfl, hcap⟩ | ⟨q1, q2⟩
          · refine firstCells_some est m _ _ _ _ (by rw [List.length_take, hcl]; omega) (fun j u hu => hw' _ _ ?_)
            rw [addr_add]
            have hra := rangeAt_part h3 (c + est * off.z.toNat) (est * len.z.toNat)
            have heq : conCells q = (vs.drop (c + est * off.z.toNat)).take (est * len.z.toNat) := by
              rw [a4, e1, show c + est * off.z.toNat = pre.length + est * off.z.toNat by omega, drop_mid _ _ _ _ _ a5]
            rw [← heq] at hra
            rw [List.getElem?_take] at hu
            split at hu
            · have := hra j u hu
              simpa [at_, Nat.add_assoc] using this
            · cases hu
          · have hz : len.z.toNat = 0 := by omega
            have hm0 : m = 0 := by omega
            rw [hm0]
            cases ad <;> simp [Builtin.firstCells, loadCells, loadCellsFrom]
        · simp [RP.run] at h
      · simp [RP.run] at h
    · simp [RP.run] at h
  · rename_i s
    simp only [D] at hx
    obtain ⟨rfl, hs⟩ := hx
    refine ⟨[], _, _, h, fun _ => ⟨bytesI_ok s, fun w' => by simp [Builtin.lenOf, conLen, bytesI_length], (fun ad n cap hv => by cases hv), fun w' _ m hm' => ?_⟩⟩
    simp only [conLen, bytesI_length] at hm'
    simp only [Builtin.firstCells, conSize, conCells, Nat.mul_one, Sem.run_pure]
    congr 1
    apply Array.ext'
    simp [bytesI, Function.comp_def, ByteArray.extract, ByteArray.copySlice]
  · rename_i key sh dd
    simp only [D] at hx
    obtain ⟨hk, hrel, hF, ad, cap, rfl, hlc, hl63, hdis⟩ := hx
    simp only [RP.run] at h
    split at h
    · rename_i hkey
      split at h
      · rename_i k
        have hr := hm.view key hkey
        rw [hr] at hrel
        have hrel := RoD.mono hm.keeps _ _ _ hrel
        simp only [RoD] at hrel
        obtain ⟨a0, cap', q1, q2, q3, q4, q5⟩ := hrel
        simp only [Value.slice.injEq, roLen] at q1
        obtain ⟨rfl, _, rfl⟩ := q1
        refine ⟨[], _, _, h, fun _ => ⟨q4, fun w' => rfl, ?_, fun w' hw' m hm' => ?_⟩⟩
        · rintro ad' n' cap' hv
          cases hv
          refine ⟨rfl, hlc, ?_⟩
          rcases q5 with ⟨b, o, rfl, r1, r2⟩ | ⟨r1, r2⟩
          · exact .inr ⟨b, o, rfl, fun _ => Nat.lt_of_lt_of_le r1.1 hm.frame.size, r2⟩
          · exact .inl ⟨r1, r2⟩
        · simp only [conLen] at hm'
          simp only [conSize, conCells, Nat.mul_one]
          rcases q5 with ⟨b, o, rfl, r1, r2⟩ | ⟨r1, r2⟩
          · refine firstCells_some 1 m _ _ _ _ (by rw [List.length_take, List.length_map]; omega) (fun j u hu => hw' _ _ ?_)
            have hadd : ∀ m, (⟨b, o, none⟩ : Addr).add m = ⟨b, o + m, none⟩ := fun m => by by_cases h : m = 0 <;> simp [Addr.add, h]
            rw [hadd]
            rw [List.getElem?_take] at hu
            split at hu
            · exact r2 j u hu
            · cases hu
          · have hm0 : m = 0 := by omega
            rw [hm0]
            cases ad <;> simp [Builtin.firstCells, loadCells, loadCellsFrom]
      · simp [RP.run] at h
    · simp [RP.run] at h
  · simp [RP.run] at h

/-- Has a type no zeros to append? -/
def NoInt (P : Program) (T2 : TypeId) : Prop := ∀ w : World, (do pure ((← underlying T2) matches .int _) : Sem Bool).run P w = .ok false w

theorem noInt_of {T2 : TypeId} {ti : TInfo} (hT : RowOk P T2 ti) (h : (match ti.ty with | .slice => true | .str => true | _ => false) = true) : (∃ e, P.underlying T2 = some (.slice e)) ∨ P.underlying T2 = some .string := by
  have h1 := hT.ty
  revert h1 h
  generalize ti.ty = t
  intro h h1
  cases t <;> simp at h <;> unfold tyB at h1 <;> split at h1 <;> first
    | (rename_i hu; exact .inr hu)
    | (rename_i hu; exact .inl ⟨_, hu⟩)
    | cases h1

/-- The model's append, as far as it grows nothing. -/
theorem append_room {T T2 ty e : TypeId} {i : TypeInfo} (ht : P.underlying T = some (.slice e)) (hi : P.info? e = some i) (h2 : (∃ e, P.underlying T2 = some (.slice e)) ∨ P.underlying T2 = some .string)
    {base : Option Addr} {sLen sCap : Nat} {v : Value} {q : Con} (hq : ConAt P w v q) (hes : conSize q = i.size) (hroom : sLen + conLen q ≤ sCap) {w' : World}
    (hst : ∀ a, base = some a → (storeCells (a.add (sLen * i.size)) (conCells q)).run P w = .ok () w') (hst' : base = none → w' = w) :
    (Builtin.append_ #[T, T2] ty #[.slice base sLen sCap, v]).run P w = .ok (.slice base (sLen + conLen q) sCap) w' := by
  have hf := hq.all w (fun _ _ h => h)
  rw [hes] at hf
  have hl := hq.len
  cases base with
  | none =>
    have hw := hst' rfl
    subst hw
    rcases h2 with ⟨e2, h2⟩ | h2 <;> simp [Builtin.append_, run_underlying ht, run_underlying h2, sizeOf, typeInfo, hi, hl, hroom, hf]
  | some a =>
    have hs := hst a rfl
    rcases h2 with ⟨e2, h2⟩ | h2 <;> simp [Builtin.append_, run_underlying ht, run_underlying h2, sizeOf, typeInfo, hi, hl, hroom, hf, hs]

theorem append_grow {T T2 ty e : TypeId} {i : TypeInfo} {z : Value} (ht : P.underlying T = some (.slice e)) (hi : P.info? e = some i) (hz0 : i.zero = some z) (h2 : (∃ e, P.underlying T2 = some (.slice e)) ∨ P.underlying T2 = some .string)
    {base : Option Addr} {sLen sCap : Nat} {v : Value} {q : Con} (hq : ConAt P w v q) (hes : conSize q = i.size) (hroom : sCap < sLen + conLen q) {xs : List Value}
    (hold : (Builtin.firstCells i.size sLen (.slice base sLen sCap)).run P w.drew = .ok xs.toArray w.drew) (h63 : ((sLen + conLen q : Nat) : Int) ≤ 9223372036854775807) (hfit : Builtin.nextslicecap (sLen + conLen q) sCap * i.bytes ≤ 281474976710656) :
    (Builtin.append_ #[T, T2] ty #[.slice base sLen sCap, v]).run P w = .ok (.slice (some ⟨w.heap.size, 0, none⟩) (sLen + conLen q) (grownCap w (sLen + conLen q) sCap e))
      (w.drew.alloc (.cells (xs.toArray ++ (conCells q).toArray ++ Builtin.zeroCells z.cells (grownCap w (sLen + conLen q) sCap e - (sLen + conLen q))) e)) := by
  have hf := hq.all w.drew (fun _ _ h => by simpa using h)
  rw [hes] at hf
  have hl := hq.len
  have hn : ¬ (sLen + conLen q ≤ sCap) := by omega
  have h63' : ¬ (9223372036854775807 < ((sLen : Int) + (conLen q : Int))) := by omega
  have h48' : ¬ (281474976710656 < Builtin.nextslicecap (sLen + conLen q) sCap * i.bytes) := by omega
  rcases h2 with ⟨e2, h2⟩ | h2 <;> simp [Builtin.append_, run_underlying ht, run_underlying h2, sizeOf, typeInfo, zeroValue, hi, hz0, hl, hn, h63', h48', Question.forced, hf, hold, newRow, grownCap] <;>
    (congr 2; apply Array.ext'; simp [List.append_assoc])

/-! ### append -/

theorem conRow_D {dm : Nat → Prop} {q : Con} (h : conOk q) : SegD dm ρ (conRow q) (conCells q) := by
  cases q <;> exact ⟨h, rfl⟩

theorem conJoin_sound {a b r : Con} (h : conJoin a b = some r) (ha : conOk a) (hb : conOk b) :
    conOk r ∧ conCells r = conCells a ++ conCells b ∧ conLen r = conLen a + conLen b ∧ conSize r = conSize a ∧ conSize b = conSize a := by
  cases a with
  | ints k l =>
    cases b with
    | ints k' y =>
      simp only [conJoin] at h
      split at h
      · rename_i e
        have := keq_eq e
        subst this
        simp only [Option.some.injEq] at h; subst h
        exact ⟨fun z hz => (List.mem_append.1 hz).elim (ha z) (hb z), by simp [conCells], by simp [conLen], rfl, rfl⟩
      · cases h
    | arrs => simp [conJoin] at h
  | arrs k n l =>
    cases b with
    | ints => simp [conJoin] at h
    | arrs k' m y =>
      simp only [conJoin] at h
      split at h
      · rename_i e
        simp only [Bool.and_eq_true] at e
        have e1 := keq_eq e.1
        have e2 := Nat.eq_of_beq_eq_true e.2
        subst e1 e2
        simp only [Option.some.injEq] at h; subst h
        exact ⟨fun z hz => (List.mem_append.1 hz).elim (ha z) (hb z), by simp [conCells], by simp [conLen], rfl, rfl⟩
      · cases h

theorem Mem.virtual (h : Mem w0 M ρ H w) {key : Nat} (hn : H key = none) {l : List Seg} (hl : SegsD (dmOf H) ρ l []) : Mem w0 M (updP ρ key ({ blk := 0, off := 0, cap := 0 } : Pl)) (updH H key (.segs false l)) w := by
  have hk := updP_keeps (ρ := ρ) (p := ({ blk := 0, off := 0, cap := 0 } : Pl)) hn
  refine ⟨⟨fun k b hb => ?_, fun k k' ro ro' l1 l2 h1 h2 hkk hr c1 c2 => ?_, fun k ro l1 h1 c1 => ?_⟩, h.frame, fun k l1 h1 c1 => ?_, view_up h.view (by simp)⟩
  · by_cases e : k = key
    · subst e
      rw [updH_same] at hb
      simp only [Option.some.injEq] at hb; subst hb
      exact ⟨[], SegsD.mono (dm_updH _ _ _) hk l [] hl, by simp, rangeAt_nil _ _ _, fun _ => by rw [updP_same]; exact there_zero _ _ _⟩
    · rw [updH_ne e] at hb
      exact (h.heap.blk k b hb).of_block (dm_updH _ _ _) hk (updP_ne e) (fun _ _ _ _ => rfl)
  · have n1 : k ≠ key := fun e => by subst e; rw [updP_same] at c1; exact absurd c1 (by simp)
    have n2 : k' ≠ key := fun e => by subst e; rw [updP_same] at c2; exact absurd c2 (by simp)
    rw [updH_ne n1] at h1; rw [updH_ne n2] at h2
    rw [updP_ne n1] at c1 ⊢; rw [updP_ne n2] at c2 ⊢
    exact h.heap.sep k k' ro ro' l1 l2 h1 h2 hkk hr c1 c2
  · have n1 : k ≠ key := fun e => by subst e; rw [updP_same] at c1; exact absurd c1 (by simp)
    rw [updH_ne n1] at h1; rw [updP_ne n1] at c1 ⊢
    exact h.heap.lt k ro l1 h1 c1
  · have n1 : k ≠ key := fun e => by subst e; rw [updP_same] at c1; exact absurd c1 (by simp)
    rw [updH_ne n1] at h1; rw [updP_ne n1] at c1 ⊢
    exact h.own k l1 h1 c1

theorem updH_comm {H : Nat → Option SB} {a b : Nat} (hab : a ≠ b) (x y : SB) : updH (updH H a x) b y = updH (updH H b y) a x := by
  funext k
  simp only [updH]
  split <;> split <;> simp_all

theorem updH_over {H : Nat → Option SB} {a : Nat} (x y : SB) : updH (updH H a x) a y = updH H a y := by
  funext k
  simp only [updH]
  split <;> simp_all

theorem zeroB_size {t : Ty} {z : Value} (h : zeroB t z = true) : z.cells.size = t.size := by
  unfold zeroB at h
  split at h
  · rename_i cs
    simp only [Bool.and_eq_true] at h
    obtain ⟨h1, h2⟩ := h
    split at h2
    · rename_i e
      obtain ⟨v, a1, a2, a3, a4, _⟩ := zc_D (dm := fun _ => False) (ρ := fun _ => ({ blk := 0, off := 0, cap := 0 } : Pl)) t cs.toList [] e
      rw [← a3]
      have := congrArg List.length a2
      simpa [Value.cells] using this
    · cases h2
  · simp only [Bool.and_eq_true, Bool.not_eq_true'] at h
    obtain ⟨h1, h2⟩ := h
    split at h2
    · rename_i e
      obtain ⟨v, a1, a2, a3, _, a5⟩ := zc_D (dm := fun _ => False) (ρ := fun _ => ({ blk := 0, off := 0, cap := 0 } : Pl)) t _ [] e
      have := a5 h1
      rw [this] at a2
      simp at a2
      rw [a2]; exact a3
    · cases h2

theorem slice_of {T : TypeId} {ti : TInfo} (hT : RowOk P T ti) (ht : ti.ty = .slice) : P.underlying T = some (.slice ti.elem) := by
  have hty' := hT.ty
  rw [ht] at hty'
  unfold tyB at hty'
  split at hty'
  · rename_i e hu; rw [hu, hT.slice e hu]
  · cases hty'

theorem conJoin_some {a b r : Con} (h : conJoin a b = some r) : conSize r = conSize a ∧ conSize b = conSize a := by
  cases a <;> cases b <;> simp only [conJoin] at h <;> (try cases h) <;> (split at h <;> try cases h)
  · exact ⟨rfl, rfl⟩
  · rename_i e
    simp only [Bool.and_eq_true] at e
    exact ⟨rfl, (Nat.eq_of_beq_eq_true e.2).symm⟩

end
end Go.Gx
