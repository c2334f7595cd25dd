/- The type table against the program. -/
import Derived.Test.YtihihilhfijloaaDoorMem
namespace Go.Gx
open Go.RowKit
set_option linter.unusedVariables false

theorem keq_eq {k k' : IntKind} (h : keq k k' = true) : k = k' := by cases k <;> cases k' <;> first | rfl | (simp [keq] at h)

def isZ (k : IntKind) : Value → Bool
  | .int k' (.ofNat 0) => keq k k'
  | _ => false

def allZ (k : IntKind) : List Value → Bool
  | [] => true
  | v :: r => isZ k v && allZ k r

def z1 (t : Ty) (v : Value) : Bool :=
  match t with
  | .int k => isZ k v
  | .bool => (match v with | .bool false => true | _ => false)
  | .str => (match v with | .string s => Nat.beq s.size 0 | _ => false)
  | .ptr => (match v with | .pointer none => true | _ => false)
  | .slice => (match v with | .slice none 0 0 => true | _ => false)
  | .func => (match v with | .nilFunc => true | _ => false)
  | .iface => (match v with | .nilIface => true | _ => false)
  | _ => false

def zcRep (f : List Value → Option (List Value)) : Nat → List Value → Option (List Value)
  | 0, cs => some cs
  | n + 1, cs => match f cs with | some cs' => zcRep f n cs' | none => none

mutual
/-- Zero cells of a type, taken off a list. -/
def zc : Ty → List Value → Option (List Value)
  | .arr n e, cs => (match e with
    | .int k => (match Nat.beq (cs.take n).length n && allZ k (cs.take n) with | true => some (cs.drop n) | false => none)
    | _ => zcRep (fun cs => zc e cs) n cs)
  | .struct fs, cs => zcs fs cs
  | .int k, cs => (match cs with | v :: r => (match z1 (.int k) v with | true => some r | false => none) | [] => none)
  | .bool, cs => (match cs with | v :: r => (match z1 .bool v with | true => some r | false => none) | [] => none)
  | .str, cs => (match cs with | v :: r => (match z1 .str v with | true => some r | false => none) | [] => none)
  | .ptr, cs => (match cs with | v :: r => (match z1 .ptr v with | true => some r | false => none) | [] => none)
  | .slice, cs => (match cs with | v :: r => (match z1 .slice v with | true => some r | false => none) | [] => none)
  | .func, cs => (match cs with | v :: r => (match z1 .func v with | true => some r | false => none) | [] => none)
  | .iface, cs => (match cs with | v :: r => (match z1 .iface v with | true => some r | false => none) | [] => none)
def zcs : List Ty → List Value → Option (List Value)
  | [], cs => some cs
  | t :: r, cs => match zc t cs with | some cs' => zcs r cs' | none => none
end

def isRow : Ty → Bool
  | .arr .. | .struct _ => true
  | _ => false

def zeroB (t : Ty) (z : Value) : Bool :=
  match z with
  | .agg cs => isRow t && (match zc t cs.toList with | some [] => true | _ => false)
  | v => !isRow t && (match zc t [v] with | some [] => true | _ => false)

mutual
/-- Is the type of this shape? -/
def tyB (P : Program) : Ty → TypeId → Bool
  | .int k, T => (match P.underlying T with | some (.int k') => keq k k' | _ => false)
  | .bool, T => (match P.underlying T with | some .bool => true | _ => false)
  | .str, T => (match P.underlying T with | some .string => true | _ => false)
  | .ptr, T => (match P.underlying T with | some (.pointer _) => true | _ => false)
  | .slice, T => (match P.underlying T with | some (.slice _) => true | _ => false)
  | .func, T => (match P.underlying T with | some (.func ..) => true | _ => false)
  | .iface, T => (match P.underlying T with | some (.interface _) => true | _ => false)
  | .arr n e, T => (match P.underlying T with | some (.array n' T') => Nat.beq n n' && (match P.info? T' with | some i => Nat.beq i.size e.size | none => false) && tyB P e T' | _ => false)
  | .struct fs, T => (match P.underlying T with | some (.struct fl) => fieldsB P fs 0 fl.toList | _ => false)
def fieldsB (P : Program) : List Ty → Nat → List Field → Bool
  | [], _, [] => true
  | t :: r, off, f :: fr => Nat.beq f.offset off && (match P.info? f.type with | some i => Nat.beq i.size t.size && Nat.blt 0 t.size | none => false) && tyB P t f.type && fieldsB P r (off + t.size) fr
  | _, _, _ => false
end

/-- A row of the table. -/
def rowB (P : Program) (T : TypeId) (ti : TInfo) : Bool :=
  tyB P ti.ty T && (match P.info? T with
    | some i => Nat.beq i.size ti.ty.size && Nat.beq i.bytes ti.bytes && (match i.zero with | some z => zeroB ti.ty z | none => false)
    | none => false) &&
  (match P.underlying T with
    | some (.slice e) => Nat.beq e ti.elem
    | some (.pointer e) => Nat.beq e ti.elem
    | _ => true)

def tabB (P : Program) : List (Nat × TInfo) → Bool
  | [] => true
  | (T, ti) :: r => rowB P T ti && tabB P r

theorem tabB_row {P : Program} : ∀ {l : List (Nat × TInfo)} {T : Nat} {ti : TInfo}, tabB P l = true → assoc l T = some ti → rowB P T ti = true
  | [], T, ti, _, h => by simp [assoc] at h
  | (T', t') :: r, T, ti, hB, h => by
    simp only [tabB, Bool.and_eq_true] at hB
    simp only [assoc] at h
    split at h
    · rename_i hb
      have := Nat.eq_of_beq_eq_true hb
      simp only [Option.some.injEq] at h
      subst this; subst h
      exact hB.1
    · exact tabB_row hB.2 h

/-- What a row of the table says. -/
structure RowOk (P : Program) (T : TypeId) (ti : TInfo) : Prop where
  ty : tyB P ti.ty T = true
  info : ∃ i z, P.info? T = some i ∧ i.size = ti.ty.size ∧ i.bytes = ti.bytes ∧ i.zero = some z ∧ zeroB ti.ty z = true
  slice : ∀ e, P.underlying T = some (.slice e) → e = ti.elem
  ptr : ∀ e, P.underlying T = some (.pointer e) → e = ti.elem

theorem rowB_ok {P : Program} {T : TypeId} {ti : TInfo} (h : rowB P T ti = true) : RowOk P T ti := by
  unfold rowB at h
  simp only [Bool.and_eq_true] at h
  obtain ⟨⟨h1, h2⟩, h3⟩ := h
  refine ⟨h1, ?_, fun e he => ?_, fun e he => ?_⟩
  · split at h2
    · rename_i i hi
      simp only [Bool.and_eq_true] at h2
      obtain ⟨⟨a, b⟩, c⟩ := h2
      split at c
      · rename_i z hz
        exact ⟨i, z, hi, Nat.eq_of_beq_eq_true a, Nat.eq_of_beq_eq_true b, hz, c⟩
      · cases c
    · cases h2
  · rw [he] at h3; exact Nat.eq_of_beq_eq_true h3
  · rw [he] at h3; exact Nat.eq_of_beq_eq_true h3

theorem RowOk.size {P : Program} {T : TypeId} {ti : TInfo} (h : RowOk P T ti) : (P.info? T).map (·.size) = some ti.ty.size := by
  obtain ⟨i, z, h1, h2, _⟩ := h.info
  rw [h1]; simp [h2]

theorem RowOk.sizeOf {P : Program} {T : TypeId} {ti : TInfo} (h : RowOk P T ti) (w : World) : (Go.sizeOf T).run P w = .ok ti.ty.size w := by
  obtain ⟨i, z, h1, h2, _⟩ := h.info
  simp [Go.sizeOf, typeInfo, h1, h2]

theorem allZ_D {k : IntKind} : ∀ {l : List Value}, allZ k l = true → l = (List.replicate l.length (0 : Int)).map (Value.int k)
  | [], _ => rfl
  | v :: r, h => by
    simp only [allZ, Bool.and_eq_true] at h
    have ih := allZ_D h.2
    have : v = .int k 0 := by
      have h1 := h.1
      unfold isZ at h1
      split at h1
      · rw [keq_eq h1]; rfl
      · cases h1
    rw [this]
    simp only [List.length_cons, List.replicate_succ, List.map_cons]
    rw [← ih]

theorem inR_zero (k : IntKind) : InR k 0 := by cases k <;> simp [InR]

theorem reps_eq {α : Type} (x : α) (n : Nat) : reps x n = List.replicate n x := by
  induction n with
  | zero => rfl
  | succ n ih => simp [reps, ih, List.replicate_succ]

theorem allR_rep (k : IntKind) (n : Nat) : AllR k (List.replicate n 0) := fun z hz => by
  rw [List.eq_of_mem_replicate hz]; exact inR_zero k

theorem z1_D {dm : Nat → Prop} {ρ : Nat → Pl} {t : Ty} {v : Value} (h : z1 t v = true) : D dm ρ (zero t) v ∧ v.cells = #[v] := by
  unfold z1 at h
  split at h
  · unfold isZ at h
    split at h
    · rw [keq_eq h]; exact ⟨⟨rfl, inR_zero _⟩, rfl⟩
    · cases h
  · split at h
    · exact ⟨rfl, rfl⟩
    · cases h
  · split at h
    · rename_i s
      have hs : s = ByteArray.empty := by
        have := Nat.eq_of_beq_eq_true h
        cases s with
        | mk d => simp only [ByteArray.size] at this; rw [Array.eq_empty_of_size_eq_zero this]; rfl
      subst hs
      exact ⟨⟨rfl, by decide⟩, rfl⟩
    · cases h
  · split at h
    · exact ⟨rfl, rfl⟩
    · cases h
  · split at h
    · exact ⟨rfl, rfl⟩
    · cases h
  · split at h
    · exact ⟨rfl, rfl⟩
    · cases h
  · split at h
    · exact ⟨rfl, rfl⟩
    · cases h
  · cases h

theorem z1_zc {dm : Nat → Prop} {ρ : Nat → Pl} {t : Ty} {cs r : List Value} (hr : isRow t = false) (hs : t.size = 1)
    (h : (match cs with | v :: r => (match z1 t v with | true => some r | false => none) | [] => none) = some r) :
    ∃ v, D dm ρ (zero t) v ∧ cs = v.cells.toList ++ r ∧ v.cells.size = t.size ∧ (isRow t = true → ∃ x, v = Value.agg x) ∧ (isRow t = false → v.cells = #[v]) := by
  cases cs with
  | nil => cases h
  | cons v cs =>
    simp only at h
    split at h
    · rename_i hz
      simp only [Option.some.injEq] at h; subst h
      obtain ⟨h1, h2⟩ := z1_D (dm := dm) (ρ := ρ) hz
      exact ⟨v, h1, by rw [h2]; rfl, by rw [h2, hs]; rfl, (fun h => by rw [hr] at h; cases h), fun _ => h2⟩
    · cases h

theorem zcRep_D {dm : Nat → Prop} {ρ : Nat → Pl} {x : SV} {k : Nat} {f : List Value → Option (List Value)} (hf : ∀ cs r, f cs = some r → ∃ v, D dm ρ x v ∧ cs = v.cells.toList ++ r ∧ v.cells.size = k) : ∀ (n : Nat) (cs r : List Value), zcRep f n cs = some r →
    ∃ c, Cs dm ρ (reps x n) c ∧ cs = c ++ r ∧ c.length = n * k
  | 0, cs, r, h => by
    simp only [zcRep, Option.some.injEq] at h; subst h
    exact ⟨[], rfl, rfl, by simp⟩
  | n + 1, cs, r, h => by
    simp only [zcRep] at h
    split at h
    · rename_i cs' h1
      obtain ⟨v, a1, a2, a3⟩ := hf cs cs' h1
      obtain ⟨c, b1, b2, b3⟩ := zcRep_D hf n cs' r h
      exact ⟨v.cells.toList ++ c, ⟨v, c, a1, rfl, b1⟩, by rw [a2, b2, List.append_assoc], by simp [a3, b3, Nat.add_mul]; omega⟩
    · cases h

theorem zcArr_D {dm : Nat → Prop} {ρ : Nat → Pl} {n : Nat} {e : Ty} {cs r : List Value} (hz : zero (.arr n e) = .agg (reps (zero e) n)) (hf : ∀ cs r, zc e cs = some r → ∃ v, D dm ρ (zero e) v ∧ cs = v.cells.toList ++ r ∧ v.cells.size = e.size) (h : zcRep (fun cs => zc e cs) n cs = some r) :
    ∃ v, D dm ρ (zero (.arr n e)) v ∧ cs = v.cells.toList ++ r ∧ v.cells.size = (Ty.arr n e).size ∧ (isRow (.arr n e) = true → ∃ x, v = Value.agg x) ∧ (isRow (.arr n e) = false → v.cells = #[v]) := by
  obtain ⟨c, h1, h2, h3⟩ := zcRep_D hf n cs r h
  refine ⟨.agg c.toArray, by rw [hz]; exact ⟨c, h1, rfl⟩, by simpa [Value.cells] using h2, by simpa [Value.cells, Ty.size] using h3, fun _ => ⟨_, rfl⟩, fun h => by cases h⟩

mutual
theorem zc_D {dm : Nat → Prop} {ρ : Nat → Pl} : ∀ (t : Ty) (cs r : List Value), zc t cs = some r →
    ∃ v, D dm ρ (zero t) v ∧ cs = v.cells.toList ++ r ∧ v.cells.size = t.size ∧ (isRow t = true → ∃ x, v = Value.agg x) ∧ (isRow t = false → v.cells = #[v])
  | .int k, cs, r, h => by
    simp only [zc] at h
    exact z1_zc rfl rfl h
  | .bool, cs, r, h => by
    simp only [zc] at h
    exact z1_zc rfl rfl h
  | .str, cs, r, h => by
    simp only [zc] at h
    exact z1_zc rfl rfl h
  | .ptr, cs, r, h => by
    simp only [zc] at h
    exact z1_zc rfl rfl h
  | .slice, cs, r, h => by
    simp only [zc] at h
    exact z1_zc rfl rfl h
  | .func, cs, r, h => by
    simp only [zc] at h
    exact z1_zc rfl rfl h
  | .iface, cs, r, h => by
    simp only [zc] at h
    exact z1_zc rfl rfl h
  | .arr n e, cs, r, h => by
    cases e with
    | int k =>
      simp only [zc] at h
      split at h
      · rename_i hb
        simp only [Bool.and_eq_true] at hb
        simp only [Option.some.injEq] at h; subst h
        have hl := Nat.eq_of_beq_eq_true hb.1
        have hz := allZ_D hb.2
        rw [hl] at hz
        have hlen : (cs.take n).toArray.size = n := by simpa using hl
        refine ⟨.agg (cs.take n).toArray, ?_, by simp [Value.cells], by rw [Value.cells_agg, hlen]; simp [Ty.size], (fun _ => ⟨_, rfl⟩), (fun h => by cases h)⟩
        have e2 : D dm ρ (.arr k n true (List.replicate n 0)) (.agg (cs.take n).toArray) := ⟨by simp, allR_rep k n, by rw [hz]⟩
        have e3 : D dm ρ (.arr k n false (List.replicate n 0)) (.agg (cs.take n).toArray) := ⟨by simp, allR_rep k n, by rw [hz]⟩
        simp only [zero]
        split
        · rw [reps_eq]; exact e2
        · exact e3
      · cases h
    | bool => exact zcArr_D rfl (fun cs r h => by obtain ⟨v, a, b, c, _⟩ := zc_D (dm := dm) (ρ := ρ) .bool cs r h; exact ⟨v, a, b, c⟩) (by unfold zc at h; exact h)
    | str => exact zcArr_D rfl (fun cs r h => by obtain ⟨v, a, b, c, _⟩ := zc_D (dm := dm) (ρ := ρ) .str cs r h; exact ⟨v, a, b, c⟩) (by unfold zc at h; exact h)
    | ptr => exact zcArr_D rfl (fun cs r h => by obtain ⟨v, a, b, c, _⟩ := zc_D (dm := dm) (ρ := ρ) .ptr cs r h; exact ⟨v, a, b, c⟩) (by unfold zc at h; exact h)
    | slice => exact zcArr_D rfl (fun cs r h => by obtain ⟨v, a, b, c, _⟩ := zc_D (dm := dm) (ρ := ρ) .slice cs r h; exact ⟨v, a, b, c⟩) (by unfold zc at h; exact h)
    | func => exact zcArr_D rfl (fun cs r h => by obtain ⟨v, a, b, c, _⟩ := zc_D (dm := dm) (ρ := ρ) .func cs r h; exact ⟨v, a, b, c⟩) (by unfold zc at h; exact h)
    | iface => exact zcArr_D rfl (fun cs r h => by obtain ⟨v, a, b, c, _⟩ := zc_D (dm := dm) (ρ := ρ) .iface cs r h; exact ⟨v, a, b, c⟩) (by unfold zc at h; exact h)
    | arr m e' => exact zcArr_D rfl (fun cs r h => by obtain ⟨v, a, b, c, _⟩ := zc_D (dm := dm) (ρ := ρ) (.arr m e') cs r h; exact ⟨v, a, b, c⟩) (by unfold zc at h; exact h)
    | struct fs => exact zcArr_D rfl (fun cs r h => by obtain ⟨v, a, b, c, _⟩ := zc_D (dm := dm) (ρ := ρ) (.struct fs) cs r h; exact ⟨v, a, b, c⟩) (by unfold zc at h; exact h)
  | .struct fs, cs, r, h => by
    simp only [zc] at h
    obtain ⟨c, h1, h2, h3⟩ := zcs_D fs cs r h
    exact ⟨.agg c.toArray, ⟨c, h1, rfl⟩, by simpa [Value.cells] using h2, by simpa [Value.cells, Ty.size] using h3, (fun _ => ⟨_, rfl⟩), (fun h => by cases h)⟩
theorem zcs_D {dm : Nat → Prop} {ρ : Nat → Pl} : ∀ (ts : List Ty) (cs r : List Value), zcs ts cs = some r → ∃ c, Cs dm ρ (zeros ts) c ∧ cs = c ++ r ∧ c.length = Ty.sizes ts
  | [], cs, r, h => by
    simp only [zcs, Option.some.injEq] at h; subst h
    exact ⟨[], rfl, rfl, rfl⟩
  | t :: ts, cs, r, h => by
    simp only [zcs] at h
    split at h
    · rename_i cs' h1
      obtain ⟨v, a1, a2, a3, _⟩ := zc_D (dm := dm) (ρ := ρ) t cs cs' h1
      obtain ⟨c, b1, b2, b3⟩ := zcs_D ts cs' r h
      exact ⟨v.cells.toList ++ c, ⟨v, c, a1, rfl, b1⟩, by rw [a2, b2, List.append_assoc], by simp [Ty.sizes, a3, b3]⟩
    · cases h
end

theorem zeroB_D {dm : Nat → Prop} {ρ : Nat → Pl} {t : Ty} {z : Value} (h : zeroB t z = true) : D dm ρ (zero t) z := by
  unfold zeroB at h
  split at h
  · rename_i cs
    simp only [Bool.and_eq_true] at h
    obtain ⟨h1, h2⟩ := h
    split at h2
    · rename_i e
      obtain ⟨v, a1, a2, _, a4, _⟩ := zc_D (dm := dm) (ρ := ρ) t cs.toList [] e
      obtain ⟨x, rfl⟩ := a4 h1
      have : cs = x := by
        apply Array.ext'
        simpa [Value.cells] using a2
      rw [this]; exact a1
    · cases h2
  · simp only [Bool.and_eq_true, Bool.not_eq_true'] at h
    obtain ⟨h1, h2⟩ := h
    split at h2
    · rename_i e
      obtain ⟨v, a1, a2, _, _, a5⟩ := zc_D (dm := dm) (ρ := ρ) t _ [] e
      have := a5 h1
      rw [this] at a2
      simp at a2
      rw [a2]; exact a1
    · cases h2

end Go.Gx
