/- The model's load, store and new variable; what an operation comes to. -/
import Derived.Test.YtihihilhfijloaaDoorOpsC
namespace Go.Gx
open Go.RowKit
set_option linter.unusedVariables false

theorem writeDyn_sound {dm : Nat → Prop} {ρ : Nat → Pl} {g g' : Seg} {x : Int} {j est : Nat} {p : List Prop} {v : SV} {u : Value} {cs : List Value} (h : writeDyn g x j est v = some (p, g')) (hp : AllP p)
    (hg : SegD dm ρ g cs) (hv : D dm ρ v u) : SegD dm ρ g' (over cs (est * x.toNat + j) u.cells.toList) ∧ est * x.toNat + j + u.cells.size ≤ cs.length := by
  cases v with
  | i k' a =>
    simp only [D] at hv
    obtain ⟨hu, hr⟩ := hv
    have huc : u.cells = #[u] := by rw [hu]; rfl
    cases g with
    | one y => simp [writeDyn] at h
    | arr k n ex l =>
      obtain ⟨h1, h2, h3⟩ := hg
      simp only [writeDyn] at h
      split at h
      · rename_i hb
        simp only [Bool.and_eq_true] at hb
        obtain ⟨⟨b1, b2⟩, b3⟩ := hb
        have e1 := keq_eq b1
        have e2 := Nat.eq_of_beq_eq_true b2
        have e3 := Nat.eq_of_beq_eq_true b3
        simp only [Option.some.injEq, Prod.mk.injEq] at h
        obtain ⟨rfl, rfl⟩ := h
        subst e1 e2 e3
        have hx : x.toNat < l.length := by rw [h1]; exact toNat_lt hp.1
        refine ⟨⟨by simpa using h1, h2.set hr, ?_⟩, by rw [huc, h3]; simp; omega⟩
        rw [huc, Nat.one_mul, Nat.add_zero, set_over _ _ _ hx, map_over, h3, hu]; rfl
      · cases h
    | rowI k l =>
      obtain ⟨h2, h3⟩ := hg
      simp only [writeDyn] at h
      split at h
      · rename_i hb
        simp only [Bool.and_eq_true] at hb
        obtain ⟨⟨b1, b2⟩, b3⟩ := hb
        have e1 := keq_eq b1
        have e2 := Nat.eq_of_beq_eq_true b2
        have e3 := Nat.eq_of_beq_eq_true b3
        simp only [Option.some.injEq, Prod.mk.injEq] at h
        obtain ⟨rfl, rfl⟩ := h
        subst e1 e2 e3
        have hx : x.toNat < l.length := toNat_lt hp.1
        refine ⟨⟨h2.set hr, ?_⟩, by rw [huc, h3]; simp; omega⟩
        rw [huc, Nat.one_mul, Nat.add_zero, set_over _ _ _ hx, map_over, h3, hu]; rfl
      · cases h
    | rowA k n l =>
      obtain ⟨h2, h3⟩ := hg
      have hfl := flatten_len h2
      simp only [writeDyn] at h
      split at h
      · rename_i hb
        simp only [Bool.and_eq_true] at hb
        obtain ⟨⟨b1, b2⟩, b3⟩ := hb
        have e1 := keq_eq b1
        have e2 := Nat.eq_of_beq_eq_true b2
        have hjn : j < n := by simp [Nat.blt] at b3; omega
        simp only [Option.some.injEq, Prod.mk.injEq] at h
        obtain ⟨rfl, rfl⟩ := h
        subst e1 e2
        have hi : x.toNat < l.length := toNat_lt hp.1
        have hel := h2 _ (List.getElem_mem hi)
        have hget : l.getD x.toNat [] = l[x.toNat] := by simp [List.getD, hi]
        have hnl : n * x.toNat + n ≤ l.flatten.length := by
          rw [hfl]
          have := Nat.mul_le_mul_left n (show x.toNat + 1 ≤ l.length from hi)
          rwa [Nat.mul_add, Nat.mul_one] at this
        refine ⟨⟨AllA.set h2 (by rw [hget]; simpa using hel.1) (by rw [hget]; exact hel.2.set hr), ?_⟩, by rw [huc, h3, List.length_map]; show n * x.toNat + j + 1 ≤ _; omega⟩
        have hlen2 : (l[x.toNat].set j a.z).length = n := by simpa using hel.1
        rw [hget, flatten_set h2 hi hlen2, huc, h3, hu]
        rw [show (#[Value.int k a.z] : Array Value).toList = [a.z].map (Value.int k) from rfl, ← map_over]
        congr 1
        have hat := flatten_at h2 hi
        have hsplit : l.flatten = l.flatten.take (n * x.toNat) ++ l[x.toNat] ++ l.flatten.drop (n * x.toNat + n) := by
          rw [← hat, List.append_assoc, ← List.drop_drop, List.take_append_drop, List.take_append_drop]
        have hpl : (l.flatten.take (n * x.toNat)).length = n * x.toNat := by simp only [List.length_take]; omega
        have h5 := over_mid (l.flatten.take (n * x.toNat)) l[x.toNat] (l.flatten.drop (n * x.toNat + n)) [a.z] j (by rw [hel.1]; simp; omega)
        rw [← hsplit, hpl] at h5
        rw [h5, set_over _ _ _ (by rw [hel.1]; exact hjn)]
        unfold over
        have h6 : ((l[x.toNat]).take j ++ [a.z] ++ (l[x.toNat]).drop (j + [a.z].length)).length = n := by
          have := over_length (vs := l[x.toNat]) (ys := [a.z]) (c := j) (by rw [hel.1]; simp; omega)
          unfold over at this; rw [this]; exact hel.1
        rw [h6]
      · cases h
  | arr k' m ex y =>
    simp only [D] at hv
    obtain ⟨hy1, hy2, hu⟩ := hv
    have huc : u.cells.toList = y.map (Value.int k') := by rw [hu]; simp [Value.cells]
    have hus : u.cells.size = m := by rw [← Array.length_toList, huc]; simpa using hy1
    cases g with
    | rowA k n l =>
      obtain ⟨h2, h3⟩ := hg
      have hfl := flatten_len h2
      simp only [writeDyn] at h
      split at h
      · rename_i hb
        simp only [Bool.and_eq_true] at hb
        obtain ⟨⟨⟨b1, b2⟩, b3⟩, b4⟩ := hb
        have e1 := keq_eq b1
        have e2 := Nat.eq_of_beq_eq_true b2
        have e3 := Nat.eq_of_beq_eq_true b3
        have e4 := Nat.eq_of_beq_eq_true b4
        simp only [Option.some.injEq, Prod.mk.injEq] at h
        obtain ⟨rfl, rfl⟩ := h
        subst e1 e2 e3 e4
        have hi : x.toNat < l.length := toNat_lt hp.1
        have hnl : n * x.toNat + n ≤ l.flatten.length := by
          rw [hfl]
          have := Nat.mul_le_mul_left n (show x.toNat + 1 ≤ l.length from hi)
          rwa [Nat.mul_add, Nat.mul_one] at this
        refine ⟨⟨AllA.set h2 hy1 hy2, ?_⟩, by rw [h3, List.length_map, hus]; omega⟩
        rw [flatten_set h2 hi hy1, Nat.add_zero, map_over, h3, huc]
      · cases h
    | _ => simp [writeDyn] at h
  | _ => cases g <;> simp [writeDyn] at h

/-! ### The model's operations on variables -/

theorem tyB_row {P : Program} {t : Ty} {T : TypeId} (h : tyB P t T = true) : ∃ d, P.underlying T = some d ∧ d.isRow = isRow t := by
  cases t <;> unfold tyB at h <;> split at h <;> first
    | (rename_i hu; exact ⟨_, hu, rfl⟩)
    | cases h

theorem rangeAt_part {w : World} {b o : Nat} {vs : List Value} (h : w.rangeAt b o vs) (c n : Nat) : w.rangeAt b (o + c) ((vs.drop c).take n) := fun j v hv => by
  rw [List.getElem?_take] at hv
  split at hv
  · rw [List.getElem?_drop] at hv
    rw [Nat.add_assoc]; exact h _ v hv
  · cases hv

theorem load_run {P : Program} {T : TypeId} {ti : TInfo} (hT : RowOk P T ti) {w : World} {b o c : Nat} {vs : List Value} (hr : w.rangeAt b o vs) {dm : Nat → Prop} {ρ : Nat → Pl} {x : SV}
    (h : ReadOk dm ρ x ti.ty vs c) : ∃ v, (Instr.loadAt T (.pointer (some ⟨b, o + c, none⟩))).run P w = .ok v w ∧ D dm ρ x v := by
  obtain ⟨v, h1, h2, h3, h4, h5⟩ := h
  obtain ⟨d, hd, hrow⟩ := tyB_row hT.ty
  refine ⟨v, ?_, h1⟩
  cases hh : isRow ti.ty with
  | true =>
    obtain ⟨a, rfl⟩ := h4 hh
    have hra := rangeAt_part hr c ti.ty.size
    rw [← h2] at hra
    have hlen : (Value.agg a).cells.toList.length = ti.ty.size := by rw [h2]; simp; omega
    have := run_loadAt_mid (P := P) w b (o + c) T (Value.agg a).cells.toList d hra hd (by rw [hrow, hh]) (by rw [hT.size, hlen])
    rw [this]; simp [Value.cells]
  | false =>
    have hc := h5 hh
    have hagg : (isAgg T).run P w = .ok false w := by
      unfold isAgg
      rw [Sem.run_bind, run_underlying hd w]
      rw [hh] at hrow
      cases d <;> simp_all
    have hcell : w.cell? ⟨b, o + c, none⟩ = some v := by
      have := rangeAt_part hr c ti.ty.size 0 v (by rw [← h2, hc]; rfl)
      simpa using this
    simp [Instr.loadAt, Instr.sureAddr, loadVar, hagg, hcell]

theorem store_run {P : Program} {T : TypeId} {w : World} {b o : Nat} {v : Value} (hs : (P.info? T).map (·.size) = some v.cells.size) (ht : w.there b o v.cells.size) (h1 : ∀ x ∈ v.cells.toList, x.oneCell' = true) :
    (Instr.storeAt T (.pointer (some ⟨b, o, none⟩)) v).run P w = .ok () (w.setCells b o v.cells.toList) := by
  have := run_storeCells_cells (P := P) b o v.cells.toList 0 w (fun j hj => by simpa using (ht j (by simpa using hj)).1) (fun j hj => by simpa using (ht j (by simpa using hj)).2) h1
  cases hq : P.info? T with
  | none => simp [hq] at hs
  | some i =>
    have hsz : v.cells.size = i.size := by simp [hq] at hs; omega
    simp only [Nat.add_zero] at this
    simp [Instr.storeAt, Instr.sureAddr, storeVar, sizeOf, typeInfo, hq, hsz, this]

/-! ### What an operation comes to -/

def Ext (H : Nat → Option SB) (ρ ρ' : Nat → Pl) : Prop := ∀ k, dmOf H k → ρ' k = ρ k

def After (w0 : World) (M : Nat → Prop) (ρ : Nat → Pl) (H : Nat → Option SB) (d : Delta) (v : Value) (w' : World) : Prop :=
  ∃ ρ', Ext H ρ ρ' ∧ D (dmOf (updsH H d.ws)) ρ' d.v v ∧ Mem w0 M ρ' (updsH H d.ws) w'

def Outc (P : Program) (w0 : World) (M : Nat → Prop) (ρ : Nat → Pl) (H : Nat → Option SB) (d : Delta) (w : World) (r : Result Next) : Prop :=
  (∃ v w', (r = .ok (.value v) w' ∨ (r = .ok .skip w' ∧ v = undef)) ∧ After w0 M ρ H d v w') ∨
  (∃ f args, r = .ok (.enter f args) w ∧ Calls P f args w fun e w' => ∃ v, e = .returned v ∧ After w0 M ρ H d v w')

section
variable {P : Program} {w0 : World} {M : Nat → Prop} {ρ : Nat → Pl} {H : Nat → Option SB} {w : World}

theorem Ext.refl (H : Nat → Option SB) (ρ : Nat → Pl) : Ext H ρ ρ := fun _ _ => rfl

/-- A value, and the world as it was. -/
theorem Outc.same (hm : Mem w0 M ρ H w) {d : Delta} {v : Value} {s : Sem Value} (hw : d.ws = []) (hr : s.run P w = .ok v w) (hd : D (dmOf H) ρ d.v v) :
    Outc P w0 M ρ H d w ((do pure (.value (← s)) : Sem Next).run P w) :=
  .inl ⟨v, w, .inl (by simp [hr]), ρ, .refl _ _, by rw [hw]; exact hd, by rw [hw]; exact hm⟩

theorem Outc.move (hm : Mem w0 M ρ H w) {d : Delta} {v : Value} (hw : d.ws = []) (hd : D (dmOf H) ρ d.v v) : Outc P w0 M ρ H d w ((pure (.value v) : Sem Next).run P w) :=
  .inl ⟨v, w, .inl rfl, ρ, .refl _ _, by rw [hw]; exact hd, by rw [hw]; exact hm⟩

/-- What a known key's block holds. -/
theorem Mem.segs (hm : Mem w0 M ρ H w) {key : Nat} {ro : Bool} {l : List Seg} (h : H key = some (.segs ro l)) :
    ∃ vs, SegsD (dmOf H) ρ l vs ∧ vs.length ≤ (ρ key).cap ∧ w.rangeAt (ρ key).blk (ρ key).off vs ∧ (ro = false → w.there (ρ key).blk (ρ key).off (ρ key).cap) := hm.heap.blk key _ h

theorem dm_of {key : Nat} {b : SB} (h : H key = some b) : dmOf H key := by unfold dmOf; rw [h]; rfl

/-! ### Data that is only read -/

mutual
theorem RoD_cells {w : World} {Out : Nat → Prop} : ∀ (sh : Sh) (d : RO) (v : Value), RoD w Out sh d v → v.cells.toList.length = shSize sh
  | .i k, d, v, h => by simp only [RoD] at h; rw [h.1]; rfl
  | .tb, d, v, h => by simp only [RoD] at h; rw [h]; rfl
  | .ts, d, v, h => by simp only [RoD] at h; rw [h.1]; rfl
  | .arr n k, d, v, h => by simp only [RoD] at h; rw [h.2.2]; simp [Value.cells, shSize, h.1]
  | .r fs, d, v, h => by
    simp only [RoD] at h
    obtain ⟨cs, h1, rfl⟩ := h
    simp only [Value.cells, shSize]
    exact RoCs_cells fs d 0 cs h1
  | .ints k, d, v, h => by simp only [RoD] at h; obtain ⟨a, cap, h, _⟩ := h; rw [h]; rfl
  | .l e, d, v, h => by simp only [RoD] at h; obtain ⟨a, cap, cs, h, _⟩ := h; rw [h]; rfl
theorem RoCs_cells {w : World} {Out : Nat → Prop} : ∀ (fs : List Sh) (d : RO) (i : Nat) (cs : List Value), RoCs w Out fs d i cs → cs.length = shSizes fs
  | [], d, i, cs, h => by simp only [RoCs] at h; rw [h]; rfl
  | s :: r, d, i, cs, h => by
    simp only [RoCs] at h
    obtain ⟨v, c, h1, rfl, h3⟩ := h
    rw [List.length_append, RoD_cells s _ v h1, RoCs_cells r d _ c h3]; rfl
end

mutual
theorem svOf_D {dm : Nat → Prop} {ρ : Nat → Pl} {key : Nat} (hk : dm key) {w : World} {Out : Nat → Prop} (hr : (ρ key).rel = RoD w Out) : ∀ (sh : Sh) (d : RO) (v : Value), RoD w Out sh d v → D dm ρ (svOf key sh d) v
  | .i k, d, v, h => by simp only [RoD] at h; exact h
  | .tb, d, v, h => by simp only [RoD] at h; exact h
  | .ts, d, v, h => by simp only [RoD] at h; exact h
  | .arr n k, d, v, h => by simp only [RoD] at h; exact h
  | .r fs, d, v, h => by
    simp only [RoD] at h
    obtain ⟨cs, h1, rfl⟩ := h
    simp only [svOf, D]
    exact ⟨cs, svOfs_D hk hr fs d 0 cs h1, rfl⟩
  | .ints k, d, v, h => by
    have h0 := h
    simp only [RoD] at h
    obtain ⟨a, cap, h1, h2, h3, h4, h5⟩ := h
    simp only [svOf, D]
    refine ⟨hk, by rw [hr]; exact h0, RoD.fact _ _ _ h0, a, cap, h1, h2, h3, ?_⟩
    rcases h5 with ⟨b, o, q, _⟩ | h5
    · exact .inl ⟨b, o, q⟩
    · exact .inr h5
  | .l e, d, v, h => by
    have h0 := h
    simp only [RoD] at h
    obtain ⟨a, cap, cs, h1, h2, h3, h4, h5⟩ := h
    simp only [svOf, D]
    refine ⟨hk, by rw [hr]; exact h0, RoD.fact _ _ _ h0, a, cap, h1, h2, h3, ?_⟩
    rcases h5 with ⟨b, o, q, _⟩ | h5
    · exact .inl ⟨b, o, q⟩
    · exact .inr h5
theorem svOfs_D {dm : Nat → Prop} {ρ : Nat → Pl} {key : Nat} (hk : dm key) {w : World} {Out : Nat → Prop} (hr : (ρ key).rel = RoD w Out) : ∀ (fs : List Sh) (d : RO) (i : Nat) (cs : List Value), RoCs w Out fs d i cs → Cs dm ρ (svOfs key fs d i) cs
  | [], d, i, cs, h => by simp only [RoCs] at h; exact h
  | s :: r, d, i, cs, h => by
    simp only [RoCs] at h
    obtain ⟨v, c, h1, h2, h3⟩ := h
    simp only [svOfs, Cs]
    exact ⟨v, c, svOf_D hk hr s _ v h1, h2, svOfs_D hk hr r d _ c h3⟩
end

def isRowSh : Sh → Bool
  | .arr _ _ => true
  | .r _ => true
  | _ => false

mutual
theorem shFits_size : ∀ (t : Ty) (sh : Sh), shFits t sh = true → t.size = shSize sh ∧ (isRow t = true ↔ isRowSh sh = true)
  | .int _, sh, h => by cases sh <;> simp [shFits] at h; exact ⟨rfl, by simp [isRow, isRowSh]⟩
  | .bool, sh, h => by cases sh <;> simp [shFits] at h; exact ⟨rfl, by simp [isRow, isRowSh]⟩
  | .str, sh, h => by cases sh <;> simp [shFits] at h; exact ⟨rfl, by simp [isRow, isRowSh]⟩
  | .ptr, sh, h => by cases sh <;> simp [shFits] at h
  | .slice, sh, h => by cases sh <;> simp [shFits] at h <;> exact ⟨rfl, by simp [isRow, isRowSh]⟩
  | .func, sh, h => by cases sh <;> simp [shFits] at h
  | .iface, sh, h => by cases sh <;> simp [shFits] at h
  | .arr n e, sh, h => by
    cases e <;> cases sh <;> simp [shFits] at h
    simp only [Ty.size, shSize, isRow, isRowSh, and_true]
    omega
  | .struct [], sh, h => by cases sh <;> simp [shFits] at h
  | .struct (t :: ts), sh, h => by
    cases sh <;> try (simp [shFits] at h; done)
    rename_i fs
    cases fs <;> simp [shFits] at h
    rename_i s ss
    have h1 := (shFits_size t s h.1).1
    have h2 := shFitss_size ts ss h.2
    simp only [Ty.size, Ty.sizes, shSize, shSizes, isRow, isRowSh, and_self, h1, h2]
theorem shFitss_size : ∀ (ts : List Ty) (ss : List Sh), shFitss ts ss = true → Ty.sizes ts = shSizes ss
  | [], [], h => rfl
  | [], _ :: _, h => by simp [shFitss] at h
  | _ :: _, [], h => by simp [shFitss] at h
  | t :: ts, s :: ss, h => by
    simp only [shFitss, Bool.and_eq_true] at h
    simp only [Ty.sizes, shSizes, (shFits_size t s h.1).1, shFitss_size ts ss h.2]
end

theorem RoD_row {w : World} {Out : Nat → Prop} {sh : Sh} {d : RO} {v : Value} (h : RoD w Out sh d v) : isRowSh sh = true → ∃ a, v = .agg a := by
  cases sh <;> simp only [RoD] at h <;> intro hh <;> (try (cases hh; done))
  · exact ⟨_, h.2.2⟩
  · obtain ⟨cs, _, h⟩ := h; exact ⟨_, h⟩
theorem RoD_one {w : World} {Out : Nat → Prop} {sh : Sh} {d : RO} {v : Value} (h : RoD w Out sh d v) : ¬ isRowSh sh = true → v.cells = #[v] := by
  cases sh <;> simp only [RoD] at h <;> intro hh <;> (try exact absurd rfl hh)
  · rw [h.1]; rfl
  · rw [h]; rfl
  · rw [h.1]; rfl
  · obtain ⟨a, cap, h, _⟩ := h; rw [h]; rfl
  · obtain ⟨a, cap, cs, h, _⟩ := h; rw [h]; rfl

theorem svOf_read {dm : Nat → Prop} {ρ : Nat → Pl} {key : Nat} (hk : dm key) {w : World} {Out : Nat → Prop} (hr : (ρ key).rel = RoD w Out) {sh : Sh} {d : RO} {v : Value} {t : Ty} (h : RoD w Out sh d v) (hf : shFits t sh = true) :
    ReadOk dm ρ (svOf key sh d) t v.cells.toList 0 := by
  obtain ⟨h1, h2⟩ := shFits_size t sh hf
  have hl := RoD_cells sh d v h
  refine ⟨v, svOf_D hk hr sh d v h, ?_, by omega, fun hh => RoD_row h (h2.1 hh), fun hh => RoD_one h (fun hn => by rw [h2.2 hn] at hh; cases hh)⟩
  rw [List.drop_zero, List.take_of_length_le (by omega)]

mutual
theorem readSh_sound {dm : Nat → Prop} {ρ : Nat → Pl} {key : Nat} (hk : dm key) {w : World} {Out : Nat → Prop} (hr : (ρ key).rel = RoD w Out) : ∀ (sh : Sh) (d : RO) (j : Nat) (t : Ty) (x : SV) (v : Value), readSh key sh d j t = some x → RoD w Out sh d v → ReadOk dm ρ x t v.cells.toList j
  | .i k, d, j, t, x, v, h, hd => by
    simp only [readSh] at h
    split at h
    · rename_i hb
      simp only [Bool.and_eq_true] at hb
      simp only [Option.some.injEq] at h; subst h
      rw [Nat.eq_of_beq_eq_true hb.1]; exact svOf_read hk hr hd hb.2
    · cases h
  | .tb, d, j, t, x, v, h, hd => by
    simp only [readSh] at h
    split at h
    · rename_i hb
      simp only [Bool.and_eq_true] at hb
      simp only [Option.some.injEq] at h; subst h
      rw [Nat.eq_of_beq_eq_true hb.1]; exact svOf_read hk hr hd hb.2
    · cases h
  | .ts, d, j, t, x, v, h, hd => by
    simp only [readSh] at h
    split at h
    · rename_i hb
      simp only [Bool.and_eq_true] at hb
      simp only [Option.some.injEq] at h; subst h
      rw [Nat.eq_of_beq_eq_true hb.1]; exact svOf_read hk hr hd hb.2
    · cases h
  | .ints k, d, j, t, x, v, h, hd => by
    simp only [readSh] at h
    split at h
    · rename_i hb
      simp only [Bool.and_eq_true] at hb
      simp only [Option.some.injEq] at h; subst h
      rw [Nat.eq_of_beq_eq_true hb.1]; exact svOf_read hk hr hd hb.2
    · cases h
  | .l e, d, j, t, x, v, h, hd => by
    simp only [readSh] at h
    split at h
    · rename_i hb
      simp only [Bool.and_eq_true] at hb
      simp only [Option.some.injEq] at h; subst h
      rw [Nat.eq_of_beq_eq_true hb.1]; exact svOf_read hk hr hd hb.2
    · cases h
  | .arr n k, d, j, t, x, v, h, hd => by
    have gen : (match Nat.beq j 0 && shFits t (.arr n k) with | true => some (svOf key (.arr n k) d) | false => none) = some x → ReadOk dm ρ x t v.cells.toList j := fun h => by
      split at h
      · rename_i hb
        simp only [Bool.and_eq_true] at hb
        simp only [Option.some.injEq] at h; subst h
        rw [Nat.eq_of_beq_eq_true hb.1]; exact svOf_read hk hr hd hb.2
      · cases h
    cases t with
    | int k' =>
      simp only [readSh] at h
      split at h
      · rename_i hb
        simp only [Bool.and_eq_true] at hb
        have hjn : j < n := by have := hb.2; simp [Nat.blt] at this; omega
        have hkk := keq_eq hb.1
        subst hkk
        simp only [Option.some.injEq] at h; subst h
        simp only [RoD] at hd
        obtain ⟨h1, h2, h3⟩ := hd
        have hj : j < (roL d).length := by omega
        have hzz : (roL d).getD j 0 = (roL d)[j] := by simp [List.getD, hj]
        have hc : v.cells.toList = (roL d).map (Value.int k) := by rw [h3]; simp [Value.cells]
        rw [hc]
        refine ⟨.int k ((roL d).getD j 0), ⟨rfl, by rw [hzz]; exact h2.at hj⟩, ?_, by simp [Ty.size]; omega, (fun hr' => by cases hr'), fun _ => rfl⟩
        show [Value.int k ((roL d).getD j 0)] = (((roL d).map (Value.int k)).drop j).take 1
        rw [drop_take_one (by simpa using hj)]
        simp only [List.getElem_map, hzz]
      · cases h
    | _ => exact gen h
  | .r fs, d, j, t, x, v, h, hd => by
    simp only [readSh] at h
    split at h
    · rename_i hb
      simp only [Bool.and_eq_true] at hb
      simp only [Option.some.injEq] at h; subst h
      rw [Nat.eq_of_beq_eq_true hb.1]; exact svOf_read hk hr hd hb.2
    · simp only [RoD] at hd
      obtain ⟨cs, h1, rfl⟩ := hd
      simp only [Value.cells]
      exact readShs_sound hk hr fs d 0 j t x cs h h1
theorem readShs_sound {dm : Nat → Prop} {ρ : Nat → Pl} {key : Nat} (hk : dm key) {w : World} {Out : Nat → Prop} (hr : (ρ key).rel = RoD w Out) : ∀ (fs : List Sh) (d : RO) (i j : Nat) (t : Ty) (x : SV) (cs : List Value), readShs key fs d i j t = some x → RoCs w Out fs d i cs → ReadOk dm ρ x t cs j
  | [], d, i, j, t, x, cs, h, hd => by simp [readShs] at h
  | s :: r, d, i, j, t, x, cs, h, hd => by
    simp only [RoCs] at hd
    obtain ⟨v, c, h1, rfl, h3⟩ := hd
    have hl := RoD_cells s _ v h1
    simp only [readShs] at h
    split at h
    · rename_i hb
      have hle := Nat.le_of_ble_eq_true hb
      have := (readShs_sound hk hr r d (i + 1) (j - shSize s) t x c h h3).mid (pre := v.cells.toList) (post := [])
      rw [List.append_nil, hl, Nat.add_sub_cancel' hle] at this
      exact this
    · have := (readSh_sound hk hr s _ j t x v h h1).mid (pre := []) (post := c)
      simpa using this
end

theorem chain_at_ {R : RO → Value → Prop} {n : Nat} (hn : ∀ d v, R d v → v.cells.toList.length = n) : ∀ (xs : List RO) (cs : List Value) (i : Nat) (hi : i < xs.length), ChainR R xs cs →
    ∃ v pre post, cs = pre ++ v.cells.toList ++ post ∧ pre.length = n * i ∧ R xs[i] v
  | x :: r, cs, 0, hi, h => by
    obtain ⟨v, c, h1, h2, h3⟩ := h
    exact ⟨v, [], c, by simpa using h2, by simp, h1⟩
  | x :: r, cs, i + 1, hi, h => by
    obtain ⟨v, c, h1, rfl, h3⟩ := h
    obtain ⟨u, pre, post, q1, q2, q3⟩ := chain_at_ hn r c i (by simpa using hi) h3
    refine ⟨u, v.cells.toList ++ pre, post, by rw [q1]; simp [List.append_assoc], ?_, q3⟩
    rw [List.length_append, hn x v h1, q2, Nat.mul_add]; omega

theorem readEl_sound {dm : Nat → Prop} {ρ : Nat → Pl} {key : Nat} (hk : dm key) {w : World} {Out : Nat → Prop} (hr : (ρ key).rel = RoD w Out) {sh : Sh} {d : RO} {x : Int} {j : Nat} {t : Ty} {y : SV} {b o n cap : Nat}
    (h : readEl key sh d x j t = some y) (hd : RoD w Out sh d (.slice (some ⟨b, o, none⟩) n cap)) (h0 : 0 ≤ x) (hx : x < (roLen sh d : Int)) : Out b ∧ ∃ cs, w.rangeAt b o cs ∧ ReadOk dm ρ y t cs (shEl sh * x.toNat + j) := by
  have hxn : x.toNat < roLen sh d := by omega
  unfold readEl at h
  split at h
  · rename_i k k'
    split at h
    · rename_i hb
      simp only [Bool.and_eq_true] at hb
      have hkk := keq_eq hb.1
      have hj0 := Nat.eq_of_beq_eq_true hb.2
      subst hkk hj0
      simp only [Option.some.injEq] at h; subst h
      simp only [RoD] at hd
      obtain ⟨a, cap', h1, h2, h3, h4, h5⟩ := hd
      simp only [Value.slice.injEq] at h1
      obtain ⟨rfl, rfl, rfl⟩ := h1
      simp only [roLen] at hxn
      rcases h5 with ⟨b', o', q1, q2, q3⟩ | ⟨h5, _⟩
      · simp only [Option.some.injEq, Addr.mk.injEq] at q1
        obtain ⟨rfl, rfl, _⟩ := q1
        refine ⟨q2, _, q3, ?_⟩
        have hzz : (roL d).getD x.toNat 0 = (roL d)[x.toNat] := by simp [List.getD, hxn]
        refine ⟨.int k ((roL d).getD x.toNat 0), ⟨rfl, by rw [hzz]; exact h4.at hxn⟩, ?_, by simp [Ty.size, shEl]; omega, (fun hr' => by cases hr'), fun _ => rfl⟩
        show [Value.int k _] = (((roL d).map (Value.int k)).drop (1 * x.toNat + 0)).take 1
        rw [Nat.one_mul, Nat.add_zero, drop_take_one (by simpa using hxn)]
        simp only [List.getElem_map, hzz]
      · omega
    · cases h
  · rename_i e
    simp only [RoD] at hd
    obtain ⟨a, cap', cs, h1, h2, h3, h4, h5⟩ := hd
    simp only [Value.slice.injEq] at h1
    obtain ⟨rfl, rfl, rfl⟩ := h1
    simp only [roLen] at hxn
    rcases h5 with ⟨b', o', q1, q2, q3⟩ | ⟨h5, _⟩
    · simp only [Option.some.injEq, Addr.mk.injEq] at q1
      obtain ⟨rfl, rfl, _⟩ := q1
      refine ⟨q2, cs, q3, ?_⟩
      obtain ⟨v, pre, post, e1, e2, e3⟩ := chain_at_ (fun d v h => RoD_cells e d v h) _ cs x.toNat hxn h4
      have hg : roN d x.toNat = (roX d)[x.toNat] := by simp [roN, List.getD, hxn]
      rw [← hg] at e3
      have := (readSh_sound hk hr e _ j t y v h e3).mid (pre := pre) (post := post)
      rw [← e1, e2] at this
      exact this
    · omega
  · cases h

theorem Mem.keeps (hm : Mem w0 M ρ H w) : Keeps w0 w (OutB w0 M) (OutB w0 M) := fun b hb => ⟨hb, hm.frame.block b hb.1 hb.2⟩

theorem load_sound {T : TypeId} {ti : TInfo} (hT : RowOk P T ti) (hm : Mem w0 M ρ H w) {a : SV} {va : Value} (ha : D (dmOf H) ρ a va) {d : Delta} {rs rs' : List Nat}
    (h : (loadOp ti a).run H rs = some (d, rs')) (hp : AllP d.pre) : d.ws = [] ∧ ∃ v, (Instr.loadAt T va).run P w = .ok v w ∧ D (dmOf H) ρ d.v v := by
  cases a with
  | p key c =>
    simp only [D] at ha
    obtain ⟨_, rfl⟩ := ha
    simp only [loadOp, RP.run] at h
    split at h
    · rename_i ro l hk
      split at h
      · rename_i p v hv
        have e := run_ret h; subst e
        obtain ⟨vs, h1, h2, h3, _⟩ := hm.segs hk
        exact ⟨rfl, load_run hT h3 (readVar_sound h1 ti.ty c p v hv hp)⟩
      · simp [RP.run] at h
    · simp [RP.run] at h
  | pd key c est x j =>
    simp only [D] at ha
    obtain ⟨_, hx, rfl⟩ := ha
    simp only [loadOp, RP.run] at h
    split at h
    · rename_i ro l hk
      split at h
      · rename_i g hg
        split at h
        · rename_i p v hv
          have e := run_ret h; subst e
          obtain ⟨vs, h1, h2, h3, _⟩ := hm.segs hk
          unfold segHead at hg
          split at hg
          · rename_i g' hs
            simp only [Option.some.injEq] at hg; subst hg
            obtain ⟨pre, cs, post, e1, e2, e3, e4, _⟩ := segAt_D l c vs g' 0 h1 hs
            have hro := (readDyn_sound hv hp e2).mid (pre := pre) (post := post)
            rw [← e1] at hro
            rw [show pre.length + (est * x.toNat + j) = c + est * x.toNat + j by omega] at hro
            exact ⟨rfl, load_run hT h3 hro⟩
          · cases hg
        · simp [RP.run] at h
      · simp [RP.run] at h
    · simp [RP.run] at h
  | rop key sh dd x j =>
    simp only [D] at ha
    obtain ⟨hk, h0, hx, b, o, n, cap, hrel, rfl⟩ := ha
    simp only [loadOp, RP.run] at h
    split at h
    · rename_i hkey
      split at h
      · rename_i v hv
        have e := run_ret h; subst e
        have hr := hm.view key hkey
        rw [hr] at hrel
        obtain ⟨q1, cs, q2, q3⟩ := readEl_sound hk hr hv hrel h0 hx
        exact ⟨rfl, load_run hT (hm.keeps.range q1 q2) q3⟩
      · simp [RP.run] at h
    · simp [RP.run] at h
  | _ => simp [loadOp, RP.run] at h

mutual
theorem ofTy_size {dm : Nat → Prop} {ρ : Nat → Pl} : ∀ (t : Ty) (x : SV) (v : Value), ofTy t x = true → D dm ρ x v → v.cells.size = t.size
  | .arr n e, x, v, h, hv => by
    cases e with
    | int k =>
      cases x <;> simp only [ofTy, fits, Bool.false_eq_true] at h
      simp only [Bool.and_eq_true] at h
      have := Nat.eq_of_beq_eq_true h.2
      simp only [D] at hv
      rw [hv.2.2]
      simp only [Value.cells, List.size_toArray, List.length_map, Ty.size, Nat.mul_one]
      omega
    | _ => cases x <;> simp [ofTy, fits] at h
  | .struct fs, x, v, h, hv => by
    cases x <;> simp only [ofTy, fits, Bool.false_eq_true] at h
    rename_i xs
    simp only [D] at hv
    obtain ⟨cs, h1, rfl⟩ := hv
    have := ofTys_size fs xs cs h h1
    simpa [Value.cells, Ty.size] using this
  | .int k, x, v, h, hv => by cases x <;> simp [ofTy, fits] at h; rw [(single_cell (x := .i _ _) rfl hv).2]; rfl
  | .bool, x, v, h, hv => by cases x <;> simp [ofTy, fits] at h; rw [(single_cell (x := .b _ _) rfl hv).2]; rfl
  | .str, x, v, h, hv => by cases x <;> simp [ofTy, fits] at h; rw [(single_cell (x := .s _) rfl hv).2]; rfl
  | .ptr, x, v, h, hv => by
    cases x <;> simp [ofTy, fits] at h
    · rw [(single_cell (x := .np) rfl hv).2]; rfl
    · rw [(single_cell (x := .p _ _) rfl hv).2]; rfl
  | .slice, x, v, h, hv => by
    cases x <;> simp [ofTy, fits] at h
    · rw [(single_cell (x := .nsl) rfl hv).2]; rfl
    · rw [(single_cell (x := .sl _ _ _ _ _) rfl hv).2]; rfl
    · rw [(single_cell (x := .ro _ _ _) rfl hv).2]; rfl
  | .func, x, v, h, hv => by cases x <;> simp [ofTy, fits] at h; rw [(single_cell (x := .fn _) rfl hv).2]; rfl
  | .iface, x, v, h, hv => by cases x <;> simp [ofTy, fits] at h
theorem ofTys_size {dm : Nat → Prop} {ρ : Nat → Pl} : ∀ (ts : List Ty) (xs : List SV) (cs : List Value), ofTys ts xs = true → Cs dm ρ xs cs → cs.length = Ty.sizes ts
  | [], xs, cs, h, hc => by
    cases xs <;> simp [ofTys] at h
    rw [show cs = [] from hc]; rfl
  | t :: ts, xs, cs, h, hc => by
    cases xs <;> simp only [ofTys, Bool.false_eq_true, Bool.and_eq_true] at h
    simp only [Cs] at hc
    obtain ⟨v, c, h1, rfl, h3⟩ := hc
    have e1 := ofTy_size t _ v h.1 h1
    have e2 := ofTys_size ts _ c h.2 h3
    simp [Ty.sizes, e1, e2]
end

theorem store_sound {T : TypeId} {ti : TInfo} (hT : RowOk P T ti) (hm : Mem w0 M ρ H w) {a x : SV} {va vx : Value} (ha : D (dmOf H) ρ a va) (hx : D (dmOf H) ρ x vx) (hty : ofTy ti.ty x = true) {d : Delta} {rs rs' : List Nat}
    (h : (storeOp a x).run H rs = some (d, rs')) (hp : AllP d.pre) : d.v = .any ∧ ∃ w', (Instr.storeAt T va vx).run P w = .ok () w' ∧ Mem w0 M ρ (updsH H d.ws) w' := by
  have hsz := ofTy_size ti.ty x vx hty hx
  cases a with
  | p key c =>
    simp only [D] at ha
    obtain ⟨_, rfl⟩ := ha
    simp only [storeOp, RP.run] at h
    split at h
    · rename_i l hk
      split at h
      · rename_i xs hxs
        split at h
        · rename_i p l' hw
          have e := run_ret h; subst e
          obtain ⟨vs, h1, h2, h3, h4⟩ := hm.segs hk
          have hys := segsOf_D x xs vx hxs hx
          obtain ⟨a1, a2⟩ := writeSegs_sound xs l l' c p vs vx.cells.toList hw hp h1 hys
          have hle : c + vx.cells.toList.length ≤ vs.length ∨ vx.cells.toList = [] := by
            rcases a2 with a2 | rfl
            · exact .inl a2
            · exact .inr hys
          refine ⟨rfl, w.setCells (ρ key).blk ((ρ key).off + c) vx.cells.toList, ?_, ?_⟩
          · refine store_run (by rw [hT.size, hsz]) (fun i hi => ?_) (fun u hu => hys.oneCell u hu)
            rcases hle with hle | hle
            · have := h4 rfl (c + i) (by simp at hle; omega)
              rwa [← Nat.add_assoc] at this
            · rw [← Array.length_toList, hle] at hi; simp at hi
          · rcases hle with hle | hle
            · exact hm.store hk h3 (by omega) (by omega) h2 rfl a1
            · rw [hle, over_nil] at a1
              rw [hle]
              have := hm.store (nv := []) (o := 0) hk h3 (by omega) (by simp) h2 rfl (by simpa using a1)
              simp only [World.setCells] at this ⊢
              exact this
        · simp [RP.run] at h
      · simp [RP.run] at h
    · simp [RP.run] at h
  | pd key c est z j =>
    simp only [D] at ha
    obtain ⟨_, hz, rfl⟩ := ha
    simp only [storeOp, RP.run] at h
    split at h
    · rename_i l hk
      split at h
      · rename_i g hg
        split at h
        · rename_i p g' hw
          split at h
          · rename_i l' hset
            have e := run_ret h; subst e
            obtain ⟨vs, h1, h2, h3, h4⟩ := hm.segs hk
            unfold segHead at hg
            split at hg
            · rename_i g0 hs
              simp only [Option.some.injEq] at hg; subst hg
              obtain ⟨pre, cs, post, e1, e2, e3, e4, e5⟩ := segAt_D l c vs g0 0 h1 hs
              obtain ⟨a1, a2⟩ := writeDyn_sound hw hp e2 hx
              have a3 := e5 g' _ l' hset a1
              rw [← over_mid _ _ _ _ _ (by simpa using a2), ← e1, show pre.length + (est * z.toNat + j) = c + est * z.toNat + j by omega] at a3
              have hle : c + est * z.toNat + j + vx.cells.toList.length ≤ vs.length := by rw [e1]; simp; omega
              have hone : ∀ u ∈ vx.cells.toList, u.oneCell' = true := by
                cases x <;> simp only [writeDyn, reduceCtorEq] at hw
                case i => intro u hu; rw [(single_cell (x := .i _ _) rfl hx).2] at hu; simp at hu; rw [hu]; exact (single_cell (x := .i _ _) rfl hx).1
                case arr =>
                  simp only [D] at hx
                  intro u hu; rw [hx.2.2] at hu; simp [Value.cells] at hu; obtain ⟨q, _, rfl⟩ := hu; rfl
                all_goals (cases g0 <;> simp [writeDyn] at hw)
              refine ⟨rfl, w.setCells (ρ key).blk ((ρ key).off + (c + est * z.toNat + j)) vx.cells.toList, ?_, hm.store hk h3 (by omega) (by omega) h2 rfl a3⟩
              refine store_run (by rw [hT.size, hsz]) (fun i hi => ?_) hone
              have := h4 rfl (c + est * z.toNat + j + i) (by simp at hle; omega)
              rwa [← Nat.add_assoc] at this
            · cases hg
          · simp [RP.run] at h
        · simp [RP.run] at h
      · simp [RP.run] at h
    · simp [RP.run] at h
  | _ => simp [storeOp, RP.run] at h

end
end Go.Gx
