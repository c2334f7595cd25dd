/- What an evaluation reads; names for numbers. -/
import Derived.Test.YtihihilhfijloaaDoorOpsM
namespace Go.Gx
open Go.RowKit
set_option linter.unusedVariables false

/-! ### What is read -/

theorem RP.reads {α : Type} {H : Nat → Option SB} : ∀ (p : RP α) (rs rs' : List Nat) (x : α), p.run H rs = some (x, rs') → ∀ k ∈ rs, k ∈ rs'
  | .ret a, rs, rs', x, h => by simp only [RP.run, Option.some.injEq, Prod.mk.injEq] at h; rw [h.2]; exact fun k hk => hk
  | .fail, rs, rs', x, h => by simp [RP.run] at h
  | .get k f, rs, rs', x, h => by
    simp only [RP.run] at h
    exact fun j hj => RP.reads (f (H k)) _ _ _ h j (by simp [hj])

theorem RP.local {α : Type} {H H' : Nat → Option SB} : ∀ (p : RP α) (rs rs' : List Nat) (x : α), p.run H rs = some (x, rs') → (∀ k ∈ rs', H' k = H k) → p.run H' rs = some (x, rs')
  | .ret a, rs, rs', x, h, _ => h
  | .fail, rs, rs', x, h, _ => by simp [RP.run] at h
  | .get k f, rs, rs', x, h, hk => by
    simp only [RP.run] at h ⊢
    have := RP.reads (f (H k)) _ _ _ h k (by simp)
    rw [hk k this]
    exact RP.local (f (H k)) _ _ _ h hk

/-- The evaluator on a state that is a function. -/
def evalF (gl : List Nat) (T : Nat → SV) : Operand → SV
  | .tmp t => T t
  | .const v => constSV v
  | .global g => (match memN g gl with | true => .p g 0 | false => .any)
  | .func f => .fn f

theorem evalS_eq (gl : List Nat) (l : List SV) : evalS gl l = evalF gl (tget l) := by
  funext x
  cases x <;> rfl

def wantF (all : List Oper) (o : Oper) (T : Nat → SV) : Option Bool :=
  match o.guard with
  | none => some true
  | some (j, want) => match nth all j with
    | some oj => (match oj.dst with
      | some t => (match T t with
        | .b true v => (match v, want with | true, true => some true | false, false => some true | _, _ => some false)
        | .val (.bool _) => none
        | .val _ => some false
        | _ => none)
      | none => none)
    | none => none

theorem wantS_eq (all : List Oper) (o : Oper) (l : List SV) : wantS all o l = wantF all o (tget l) := rfl

theorem sop_congr {Γ : Tab} {stamp : Nat} {op : Op} {t : TypeId} {ev ev' : Operand → SV} (h : ∀ x ∈ op.operands, ev x = ev' x) : sop Γ stamp op t ev = sop Γ stamp op t ev' := by
  have pairs : ∀ ps : List (Nat × Operand), (∀ x ∈ ps.map (·.2), ev x = ev' x) → (ps.map fun (i, x) => (i, ev x)) = (ps.map fun (i, x) => (i, ev' x)) := fun ps hp =>
    List.map_congr_left fun p hm => by
      obtain ⟨i, x⟩ := p
      simp only [hp x (List.mem_map.2 ⟨(i, x), hm, rfl⟩)]
  cases op <;> simp only [Op.operands] at h <;> simp only [sop]
  case build t ps => rw [pairs ps.toList fun x hx => h x (by simpa using hx)]
  case buildSlice t n ps => rw [pairs ps.toList fun x hx => h x (by simpa using hx)]
  case call c =>
    have hargs : c.args.toList.map ev = c.args.toList.map ev' := List.map_congr_left fun x hx => h x (by simp only [Call.operands, Array.mem_append]; exact .inr (by simpa using hx))
    rw [hargs]
    cases hc : c.callee with
    | value f =>
      have hf : ev f = ev' f := h f (by simp [Call.operands, hc])
      simp only [hf]
    | _ => rfl
  case slice t x lo hi mx =>
    have h1 : ev x = ev' x := h x (by simp)
    have h2 : lo.map ev = lo.map ev' := by cases lo <;> simp_all
    have h3 : hi.map ev = hi.map ev' := by cases hi <;> simp_all
    cases mx <;> simp only [h1, h2, h3]
  all_goals (first | rfl | (simp_all; done))

/-! ### Names -/

mutual
def FactV : SV → Prop
  | .i k a => InR k a.z
  | .arr k n _ l => l.length = n ∧ AllR k l
  | .sl _ _ _ _ len => 0 ≤ len.z ∧ InR .i64 len.z
  | .agg xs => FactVs xs
  | .tup xs => FactVs xs
  | .ro _ sh d => RoF sh d
  | .s x => (x.size : Int) < 9223372036854775808
  | _ => True
def FactVs : List SV → Prop
  | [] => True
  | x :: r => FactV x ∧ FactVs r
end

mutual
theorem D.fact {dm : Nat → Prop} {ρ : Nat → Pl} : ∀ (x : SV) (v : Value), D dm ρ x v → FactV x
  | .i k a, v, h => h.2
  | .b _ x, v, h => trivial
  | .s x, v, h => h.2
  | .np, v, h => trivial
  | .nsl, v, h => trivial
  | .p key c, v, h => trivial
  | .pd key c est x j, v, h => trivial
  | .sl key c est off len, v, h => ⟨h.2.2.1, h.2.2.2.1⟩
  | .arr k n _ l, v, h => ⟨h.1, h.2.1⟩
  | .agg xs, v, h => by
    simp only [D] at h
    obtain ⟨cs, h1, h2⟩ := h
    exact Cs.fact xs cs h1
  | .tup xs, v, h => by
    simp only [D] at h
    obtain ⟨cs, h1, h2⟩ := h
    exact Ds.fact xs cs h1
  | .fn f, v, h => trivial
  | .ro key sh d, v, h => h.2.2.1
  | .rop .., v, h => trivial
  | .val x, v, h => trivial
  | .any, _, h => trivial
theorem Cs.fact {dm : Nat → Prop} {ρ : Nat → Pl} : ∀ (xs : List SV) (cs : List Value), Cs dm ρ xs cs → FactVs xs
  | [], cs, h => trivial
  | x :: r, cs, h => by
    simp only [Cs] at h
    obtain ⟨v, c, h1, h2, h3⟩ := h
    exact ⟨D.fact x v h1, Cs.fact r c h3⟩
theorem Ds.fact {dm : Nat → Prop} {ρ : Nat → Pl} : ∀ (xs : List SV) (cs : List Value), Ds dm ρ xs cs → FactVs xs
  | [], cs, h => trivial
  | x :: r, cs, h => by
    simp only [Ds] at h
    obtain ⟨v, c, h1, h2, h3⟩ := h
    exact ⟨D.fact x v h1, Ds.fact r c h3⟩
end

theorem genL_of {k : IntKind} : ∀ (l : List Int) (K : List Int → Prop), genL k l K → AllR k l → K l
  | [], K, h, _ => h
  | z :: r, K, h, ha => genL_of r (fun r' => K (z :: r')) (h z rfl (ha z (by simp))) fun y hy => ha y (by simp [hy])

mutual
theorem genV_of : ∀ (v : SV) (K : SV → Prop), genV v K → FactV v → K v
  | .i k ⟨true, z⟩, K, h, f => h
  | .i k ⟨false, z⟩, K, h, f => h z rfl f
  | .b true x, K, h, f => h
  | .b false x, K, h, f => h x rfl
  | .s x, K, h, f => h
  | .np, K, h, f => h
  | .nsl, K, h, f => h
  | .p key c, K, h, f => h
  | .pd key c est x j, K, h, f => h
  | .sl key c est off ⟨true, z⟩, K, h, f => h
  | .sl key c est off ⟨false, z⟩, K, h, f => h z rfl f.1 f.2
  | .arr k n true l, K, h, f => genL_of l (fun l' => K (.arr k n true l')) h f.2
  | .arr k n false l, K, h, f => h l rfl f.1 f.2
  | .agg xs, K, h, f => genVs_of xs (fun ys => K (.agg ys)) h f
  | .tup xs, K, h, f => genVs_of xs (fun ys => K (.tup ys)) h f
  | .fn g, K, h, f => h
  | .ro .., K, h, f => h
  | .rop .., K, h, f => h
  | .val x, K, h, f => h
  | .any, K, h, f => h
theorem genVs_of : ∀ (xs : List SV) (K : List SV → Prop), genVs xs K → FactVs xs → K xs
  | [], K, h, f => h
  | x :: r, K, h, f => genVs_of r (fun ys => K (x :: ys)) (genV_of x (fun y => genVs r fun ys => K (y :: ys)) h f.1) f.2
end

theorem genSeg_of {dm : Nat → Prop} {ρ : Nat → Pl} {g : Seg} {cs : List Value} {K : Seg → Prop} (h : genSeg g K) (hg : SegD dm ρ g cs) : K g := by
  cases g with
  | one x =>
    obtain ⟨h0, v, h1, h2⟩ := hg
    cases x with
    | i k a =>
      obtain ⟨st, z⟩ := a
      cases st with
      | true => exact h
      | false => exact h z rfl h1.2
    | _ => exact h
  | arr k n ex l =>
    cases ex with
    | true => exact genL_of l (fun l' => K (.arr k n true l')) h hg.2.1
    | false => exact h l rfl hg.1 hg.2.1
  | rowI k l => exact h l rfl hg.1
  | rowA k n l => exact h l rfl hg.1

theorem genSegs_of {dm : Nat → Prop} {ρ : Nat → Pl} : ∀ (l : List Seg) (cs : List Value) (K : List Seg → Prop), genSegs l K → SegsD dm ρ l cs → K l
  | [], cs, K, h, _ => h
  | g :: r, cs, K, h, hg => by
    obtain ⟨c1, c2, h1, h2, h3⟩ := hg
    exact genSegs_of r c2 (fun r' => K (g :: r')) (genSeg_of (K := fun g' => genSegs r fun r' => K (g' :: r')) h h1) h3

theorem genWs_of {dm : Nat → Prop} {ρ : Nat → Pl} : ∀ (ws : List (Nat × SB)) (K : List (Nat × SB) → Prop), genWs ws K → (∀ k ro l, (k, SB.segs ro l) ∈ ws → ∃ cs, SegsD dm ρ l cs) → K ws
  | [], K, h, _ => h
  | (k, .segs ro l) :: r, K, h, hw => by
    obtain ⟨cs, hcs⟩ := hw k ro l (by simp)
    have := genSegs_of l cs (fun l' => genWs r fun r' => K ((k, .segs ro l') :: r')) h hcs
    exact genWs_of r (fun r' => K ((k, .segs ro l) :: r')) this fun k' ro' l' hm => hw k' ro' l' (by simp [hm])
  | (k, .world) :: r, K, h, hw => genWs_of r (fun r' => K ((k, .world) :: r')) h fun k' ro' l' hm => hw k' ro' l' (by simp [hm])
  | (k, .gone) :: r, K, h, hw => genWs_of r (fun r' => K ((k, .gone) :: r')) h fun k' ro' l' hm => hw k' ro' l' (by simp [hm])

theorem preK_of : ∀ (p : List Prop) (K : Prop), preK p K → AllP p ∧ K
  | [], K, h => ⟨trivial, h⟩
  | x :: r, K, h => ⟨⟨h.1, (preK_of r K h.2).1⟩, (preK_of r K h.2).2⟩

theorem memN_iff {x : Nat} : ∀ {l : List Nat}, memN x l = true ↔ x ∈ l
  | [] => by simp [memN]
  | y :: r => by
    simp only [memN]
    split
    · rename_i h; simp [Nat.eq_of_beq_eq_true h]
    · rename_i h
      have : x ≠ y := fun e => by subst e; rw [Nat.beq_refl] at h; cases h
      simp [memN_iff, this]

theorem updsH_mem : ∀ (ws : List (Nat × SB)) (H : Nat → Option SB) (k : Nat) (b : SB), nodupN (keysOf ws) = true → (k, b) ∈ ws → updsH H ws k = some b
  | (k', b') :: r, H, k, b, hn, hm => by
    simp only [keysOf, nodupN] at hn
    split at hn
    · cases hn
    · rename_i hk
      rcases List.mem_cons.1 hm with hm | hm
      · obtain ⟨rfl, rfl⟩ := Prod.mk.inj hm
        have : ∀ (r : List (Nat × SB)) (H : Nat → Option SB), memN k (keysOf r) = false → updsH H r k = H k := by
          intro r
          induction r with
          | nil => intros; rfl
          | cons x r ih =>
            obtain ⟨k2, b2⟩ := x
            intro H hk
            simp only [keysOf, memN] at hk
            split at hk
            · cases hk
            · rename_i hne
              simp only [updsH]
              rw [ih _ hk, updH_ne]
              intro e; subst e; rw [Nat.beq_refl] at hne; cases hne
        simp only [updsH]
        rw [this r _ hk, updH_same]
      · exact updsH_mem r _ k b hn hm

/-- A delta's conditions and names, where the delta has come to be. -/
theorem deltaK_of {w0 : World} {M : Nat → Prop} {ρ ρ' : Nat → Pl} {H : Nat → Option SB} {w' : World} {d : Delta} {K : SV → List (Nat × SB) → Prop} (h : deltaK d K) :
    AllP d.pre ∧ (∀ v, D (dmOf (updsH H d.ws)) ρ' d.v v → Mem w0 M ρ' (updsH H d.ws) w' → K d.v d.ws) := by
  obtain ⟨pre, v, ws, gen⟩ := d
  simp only [deltaK] at h
  obtain ⟨h1, h2⟩ := preK_of _ _ h
  refine ⟨h1, fun u hu hm => ?_⟩
  cases gen with
  | false => exact h2
  | true =>
    simp only at h2
    split at h2
    · rename_i hn
      have h3 := genWs_of (dm := dmOf (updsH H ws)) (ρ := ρ') ws _ h2 fun k ro l hk => by
        have := updsH_mem ws H k _ hn hk
        obtain ⟨vs, q1, _⟩ := hm.segs this
        exact ⟨vs, q1⟩
      exact genV_of v _ h3 (D.fact v u hu)
    · exact h2.elim

end Go.Gx
