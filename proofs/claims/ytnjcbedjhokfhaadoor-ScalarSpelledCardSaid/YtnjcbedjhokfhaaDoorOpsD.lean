/- The model's load, store and new variable; what an operation comes to. -/
import Derived.Test.YtnjcbedjhokfhaaDoorOpsC
namespace Go.Gx
open Go.RowKit
set_option linter.unusedVariables false

theorem writeDyn_sound {dm : Nat → Prop} {ρ : Nat → Pl} {g g' : Seg} {x : Int} {j est : Nat} {p : List Prop} {v : SV} {u : Value} {cs : List Value} (h : writeDyn g x j est v = some (p, g')) (hp : AllP p)
    (hg : SegD dm ρ g cs) (hv : D dm ρ v u) : SegD dm ρ g' (over cs (est * x.toNat + j) u.cells.toList) ∧ est * x.toNat + j + u.cells.size ≤ cs.length := by
  cases v with
  | i k' a =>
    simp only [D] at hv
    obtain ⟨hu, hr⟩ := hv
    have huc : u.cells = #[u] := by rw [hu]; rfl
    cases g with
    | one y => simp [writeDyn] at h
    | arr k n ex l =>
      obtain ⟨h1, h2, h3⟩ := hg
      simp only [writeDyn] at h
      split at h
      · rename_i hb
        simp only [Bool.and_eq_true] at hb
        obtain ⟨⟨b1, b2⟩, b3⟩ := hb
        have e1 := keq_eq b1
        have e2 := Nat.eq_of_beq_eq_true b2
        have e3 := Nat.eq_of_beq_eq_true b3
        simp only [Option.some.injEq, Prod.mk.injEq] at h
        obtain ⟨rfl, rfl⟩ := h
        subst e1 e2 e3
        have hx : x.toNat < l.length := by rw [h1]; exact toNat_lt hp.1
        refine ⟨⟨by simpa using h1, h2.set hr, ?_⟩, by rw [huc, h3]; simp; omega⟩
        rw [huc, Nat.one_mul, Nat.add_zero, set_over _ _ _ hx, map_over, h3, hu]; rfl
      · cases h
    | rowI k l =>
      obtain ⟨h2, h3⟩ := hg
      simp only [writeDyn] at h
      split at h
      · rename_i hb
        simp only [Bool.and_eq_true] at hb
        obtain ⟨⟨b1, b2⟩, b3⟩ := hb
        have e1 := keq_eq b1
        have e2 := Nat.eq_of_beq_eq_true b2
        have e3 := Nat.eq_of_beq_eq_true b3
        simp only [Option.some.injEq, Prod.mk.injEq] at h
        obtain ⟨rfl, rfl⟩ := h
        subst e1 e2 e3
        have hx : x.toNat < l.length := toNat_lt hp.1
        refine ⟨⟨h2.set hr, ?_⟩, by rw [huc, h3]; simp; omega⟩
        rw [huc, Nat.one_mul, Nat.add_zero, set_over _ _ _ hx, map_over, h3, hu]; rfl
      · cases h
    | rowA k n l =>
      obtain ⟨h2, h3⟩ := hg
      have hfl := flatten_len h2
      simp only [writeDyn] at h
      split at h
      · rename_i hb
        simp only [Bool.and_eq_true] at hb
        obtain ⟨⟨b1, b2⟩, b3⟩ := hb
        have e1 := keq_eq b1
        have e2 := Nat.eq_of_beq_eq_true b2
        have hjn : j < n := by simp [Nat.blt] at b3; omega
        simp only [Option.some.injEq, Prod.mk.injEq] at h
        obtain ⟨rfl, rfl⟩ := h
        subst e1 e2
        have hi : x.toNat < l.length := toNat_lt hp.1
        have hel := h2 _ (List.getElem_mem hi)
        have hget : l.getD x.toNat [] = l[x.toNat] := by simp [List.getD, hi]
        have hnl : n * x.toNat + n ≤ l.flatten.length := by
          rw [hfl]
          have := Nat.mul_le_mul_left n (show x.toNat + 1 ≤ l.length from hi)
          rwa [Nat.mul_add, Nat.mul_one] at this
        refine ⟨⟨AllA.set h2 (by rw [hget]; simpa using hel.1) (by rw [hget]; exact hel.2.set hr), ?_⟩, by rw [huc, h3, List.length_map]; show n * x.toNat + j + 1 ≤ _; omega⟩
        have hlen2 : (l[x.toNat].set j a.z).length = n := by simpa using hel.1
        rw [hget, flatten_set h2 hi hlen2, huc, h3, hu]
        rw [show (#[Value.int k a.z] : Array Value).toList = [a.z].map (Value.int k) from rfl, ← map_over]
        congr 1
        have hat := flatten_at h2 hi
        have hsplit : l.flatten = l.flatten.take (n * x.toNat) ++ l[x.toNat] ++ l.flatten.drop (n * x.toNat + n) := by
          rw [← hat, List.append_assoc, ← List.drop_drop, List.take_append_drop, List.take_append_drop]
        have hpl : (l.flatten.take (n * x.toNat)).length = n * x.toNat := by simp only [List.length_take]; omega
        have h5 := over_mid (l.flatten.take (n * x.toNat)) l[x.toNat] (l.flatten.drop (n * x.toNat + n)) [a.z] j (by rw [hel.1]; simp; omega)
        rw [← hsplit, hpl] at h5
        rw [h5, set_over _ _ _ (by rw [hel.1]; exact hjn)]
        unfold over
        have h6 : ((l[x.toNat]).take j ++ [a.z] ++ (l[x.toNat]).drop (j + [a.z].length)).length = n := by
          have := over_length (vs := l[x.toNat]) (ys := [a.z]) (c := j) (by rw [hel.1]; simp; omega)
          unfold over at this; rw [this]; exact hel.1
        rw [h6]
      · cases h
  | arr k' m ex y =>
    simp only [D] at hv
    obtain ⟨hy1, hy2, hu⟩ := hv
    have huc : u.cells.toList = y.map (Value.int k') := by rw [hu]; simp [Value.cells]
    have hus : u.cells.size = m := by rw [← Array.length_toList, huc]; simpa using hy1
    cases g with
    | rowA k n l =>
      obtain ⟨h2, h3⟩ := hg
      have hfl := flatten_len h2
      simp only [writeDyn] at h
      split at h
      · rename_i hb
        simp only [Bool.and_eq_true] at hb
        obtain ⟨⟨⟨b1, b2⟩, b3⟩, b4⟩ := hb
        have e1 := keq_eq b1
        have e2 := Nat.eq_of_beq_eq_true b2
        have e3 := Nat.eq_of_beq_eq_true b3
        have e4 := Nat.eq_of_beq_eq_true b4
        simp only [Option.some.injEq, Prod.mk.injEq] at h
        obtain ⟨rfl, rfl⟩ := h
        subst e1 e2 e3 e4
        have hi : x.toNat < l.length := toNat_lt hp.1
        have hnl : n * x.toNat + n ≤ l.flatten.length := by
          rw [hfl]
          have := Nat.mul_le_mul_left n (show x.toNat + 1 ≤ l.length from hi)
          rwa [Nat.mul_add, Nat.mul_one] at this
        refine ⟨⟨AllA.set h2 hy1 hy2, ?_⟩, by rw [h3, List.length_map, hus]; omega⟩
        rw [flatten_set h2 hi hy1, Nat.add_zero, map_over, h3, huc]
      · cases h
    | _ => simp [writeDyn] at h
  | _ => cases g <;> simp [writeDyn] at h

/-! ### The model's operations on variables -/

theorem tyB_row {P : Program} {t : Ty} {T : TypeId} (h : tyB P t T = true) : ∃ d, P.underlying T = some d ∧ d.isRow = isRow t := by
  cases t <;> unfold tyB at h <;> split at h <;> first
    | (rename_i hu; exact ⟨_, hu, rfl⟩)
    | cases h

theorem rangeAt_part {w : World} {b o : Nat} {vs : List Value} (h : w.rangeAt b o vs) (c n : Nat) : w.rangeAt b (o + c) ((vs.drop c).take n) := fun j v hv => by
  rw [List.getElem?_take] at hv
  split at hv
  · rw [List.getElem?_drop] at hv
    rw [Nat.add_assoc]; exact h _ v hv
  · cases hv

theorem load_run {P : Program} {T : TypeId} {ti : TInfo} (hT : RowOk P T ti) {w : World} {b o c : Nat} {vs : List Value} (hr : w.rangeAt b o vs) {dm : Nat → Prop} {ρ : Nat → Pl} {x : SV}
    (h : ReadOk dm ρ x ti.ty vs c) : ∃ v, (Instr.loadAt T (.pointer (some ⟨b, o + c, none⟩))).run P w = .ok v w ∧ D dm ρ x v := by
  obtain ⟨v, h1, h2, h3, h4, h5⟩ := h
  obtain ⟨d, hd, hrow⟩ := tyB_row hT.ty
  refine ⟨v, ?_, h1⟩
  cases hh : isRow ti.ty with
  | true =>
    obtain ⟨a, rfl⟩ := h4 hh
    have hra := rangeAt_part hr c ti.ty.size
    rw [← h2] at hra
    have hlen : (Value.agg a).cells.toList.length = ti.ty.size := by rw [h2]; simp; omega
    have := run_loadAt_mid (P := P) w b (o + c) T (Value.agg a).cells.toList d hra hd (by rw [hrow, hh]) (by rw [hT.size, hlen])
    rw [this]; simp [Value.cells]
  | false =>
    have hc := h5 hh
    have hagg : (isAgg T).run P w = .ok false w := by
      unfold isAgg
      rw [Sem.run_bind, run_underlying hd w]
      rw [hh] at hrow
      cases d <;> simp_all
    have hcell : w.cell? ⟨b, o + c, none⟩ = some v := by
      have := rangeAt_part hr c ti.ty.size 0 v (by rw [← h2, hc]; rfl)
      simpa using this
    simp [Instr.loadAt, Instr.sureAddr, loadVar, hagg, hcell]

theorem store_run {P : Program} {T : TypeId} {w : World} {b o : Nat} {v : Value} (hs : (P.info? T).map (·.size) = some v.cells.size) (ht : w.there b o v.cells.size) (h1 : ∀ x ∈ v.cells.toList, x.oneCell' = true) :
    (Instr.storeAt T (.pointer (some ⟨b, o, none⟩)) v).run P w = .ok () (w.setCells b o v.cells.toList) := by
  have := run_storeCells_cells (P := P) b o v.cells.toList 0 w (fun j hj => by simpa using (ht j (by simpa using hj)).1) (fun j hj => by simpa using (ht j (by simpa using hj)).2) h1
  cases hq : P.info? T with
  | none => simp [hq] at hs
  | some i =>
    have hsz : v.cells.size = i.size := by simp [hq] at hs; omega
    simp only [Nat.add_zero] at this
    simp [Instr.storeAt, Instr.sureAddr, storeVar, sizeOf, typeInfo, hq, hsz, this]

/-! ### What an operation comes to -/

def Ext (H : Nat → Option SB) (ρ ρ' : Nat → Pl) : Prop := ∀ k, dmOf H k → ρ' k = ρ k

def After (w0 : World) (M : Nat → Prop) (ρ : Nat → Pl) (H : Nat → Option SB) (d : Delta) (v : Value) (w' : World) : Prop :=
  ∃ ρ', Ext H ρ ρ' ∧ D (dmOf (updsH H d.ws)) ρ' d.v v ∧ Mem w0 M ρ' (updsH H d.ws) w'

def Outc (P : Program) (w0 : World) (M : Nat → Prop) (ρ : Nat → Pl) (H : Nat → Option SB) (d : Delta) (w : World) (r : Result Next) : Prop :=
  (∃ v w', (r = .ok (.value v) w' ∨ (r = .ok .skip w' ∧ v = undef)) ∧ After w0 M ρ H d v w') ∨
  (∃ f args, r = .ok (.enter f args) w ∧ Calls P f args w fun e w' => ∃ v, e = .returned v ∧ After w0 M ρ H d v w')

section
variable {P : Program} {w0 : World} {M : Nat → Prop} {ρ : Nat → Pl} {H : Nat → Option SB} {w : World}

theorem Ext.refl (H : Nat → Option SB) (ρ : Nat → Pl) : Ext H ρ ρ := fun _ _ => rfl

/-- A value, and the world as it was. -/
theorem Outc.same (hm : Mem w0 M ρ H w) {d : Delta} {v : Value} {s : Sem Value} (hw : d.ws = []) (hr : s.run P w = .ok v w) (hd : D (dmOf H) ρ d.v v) :
    Outc P w0 M ρ H d w ((do pure (.value (← s)) : Sem Next).run P w) :=
  .inl ⟨v, w, .inl (by simp [hr]), ρ, .refl _ _, by rw [hw]; exact hd, by rw [hw]; exact hm⟩

theorem Outc.move (hm : Mem w0 M ρ H w) {d : Delta} {v : Value} (hw : d.ws = []) (hd : D (dmOf H) ρ d.v v) : Outc P w0 M ρ H d w ((pure (.value v) : Sem Next).run P w) :=
  .inl ⟨v, w, .inl rfl, ρ, .refl _ _, by rw [hw]; exact hd, by rw [hw]; exact hm⟩

/-- What a known key's block holds. -/
theorem Mem.segs (hm : Mem w0 M ρ H w) {key : Nat} {ro : Bool} {l : List Seg} (h : H key = some (.segs ro l)) :
    ∃ vs, SegsD (dmOf H) ρ l vs ∧ vs.length ≤ (ρ key).cap ∧ w.rangeAt (ρ key).blk (ρ key).off vs ∧ (ro = false → w.there (ρ key).blk (ρ key).off (ρ key).cap) := hm.heap.blk key _ h

theorem dm_of {key : Nat} {b : SB} (h : H key = some b) : dmOf H key := by unfold dmOf; rw [h]; rfl

theorem load_sound {T : TypeId} {ti : TInfo} (hT : RowOk P T ti) (hm : Mem w0 M ρ H w) {a : SV} {va : Value} (ha : D (dmOf H) ρ a va) {d : Delta} {rs rs' : List Nat}
    (h : (loadOp ti a).run H rs = some (d, rs')) (hp : AllP d.pre) : d.ws = [] ∧ ∃ v, (Instr.loadAt T va).run P w = .ok v w ∧ D (dmOf H) ρ d.v v := by
  cases a with
  | p key c =>
    simp only [D] at ha
    obtain ⟨_, rfl⟩ := ha
    simp only [loadOp, RP.run] at h
    split at h
    · rename_i ro l hk
      split at h
      · rename_i p v hv
        have e := run_ret h; subst e
        obtain ⟨vs, h1, h2, h3, _⟩ := hm.segs hk
        exact ⟨rfl, load_run hT h3 (readVar_sound h1 ti.ty c p v hv hp)⟩
      · simp [RP.run] at h
    · simp [RP.run] at h
  | pd key c est x j =>
    simp only [D] at ha
    obtain ⟨_, hx, rfl⟩ := ha
    simp only [loadOp, RP.run] at h
    split at h
    · rename_i ro l hk
      split at h
      · rename_i g hg
        split at h
        · rename_i p v hv
          have e := run_ret h; subst e
          obtain ⟨vs, h1, h2, h3, _⟩ := hm.segs hk
          unfold segHead at hg
          split at hg
          · rename_i g' hs
            simp only [Option.some.injEq] at hg; subst hg
            obtain ⟨pre, cs, post, e1, e2, e3, e4, _⟩ := segAt_D l c vs g' 0 h1 hs
            have hro := (readDyn_sound hv hp e2).mid (pre := pre) (post := post)
            rw [← e1] at hro
            rw [show pre.length + (est * x.toNat + j) = c + est * x.toNat + j by omega] at hro
            exact ⟨rfl, load_run hT h3 hro⟩
          · cases hg
        · simp [RP.run] at h
      · simp [RP.run] at h
    · simp [RP.run] at h
  | _ => simp [loadOp, RP.run] at h

mutual
theorem ofTy_size {dm : Nat → Prop} {ρ : Nat → Pl} : ∀ (t : Ty) (x : SV) (v : Value), ofTy t x = true → D dm ρ x v → v.cells.size = t.size
  | .arr n e, x, v, h, hv => by
    cases e with
    | int k =>
      cases x <;> simp only [ofTy, fits, Bool.false_eq_true] at h
      simp only [Bool.and_eq_true] at h
      have := Nat.eq_of_beq_eq_true h.2
      simp only [D] at hv
      rw [hv.2.2]
      simp only [Value.cells, List.size_toArray, List.length_map, Ty.size, Nat.mul_one]
      omega
    | _ => cases x <;> simp [ofTy, fits] at h
  | .struct fs, x, v, h, hv => by
    cases x <;> simp only [ofTy, fits, Bool.false_eq_true] at h
    rename_i xs
    simp only [D] at hv
    obtain ⟨cs, h1, rfl⟩ := hv
    have := ofTys_size fs xs cs h h1
    simpa [Value.cells, Ty.size] using this
  | .int k, x, v, h, hv => by cases x <;> simp [ofTy, fits] at h; rw [(single_cell (x := .i _ _) rfl hv).2]; rfl
  | .bool, x, v, h, hv => by cases x <;> simp [ofTy, fits] at h; rw [(single_cell (x := .b _ _) rfl hv).2]; rfl
  | .str, x, v, h, hv => by cases x <;> simp [ofTy, fits] at h; rw [(single_cell (x := .s _) rfl hv).2]; rfl
  | .ptr, x, v, h, hv => by
    cases x <;> simp [ofTy, fits] at h
    · rw [(single_cell (x := .np) rfl hv).2]; rfl
    · rw [(single_cell (x := .p _ _) rfl hv).2]; rfl
  | .slice, x, v, h, hv => by
    cases x <;> simp [ofTy, fits] at h
    · rw [(single_cell (x := .nsl) rfl hv).2]; rfl
    · rw [(single_cell (x := .sl _ _ _ _ _) rfl hv).2]; rfl
  | .func, x, v, h, hv => by cases x <;> simp [ofTy, fits] at h; rw [(single_cell (x := .fn _) rfl hv).2]; rfl
  | .iface, x, v, h, hv => by cases x <;> simp [ofTy, fits] at h
theorem ofTys_size {dm : Nat → Prop} {ρ : Nat → Pl} : ∀ (ts : List Ty) (xs : List SV) (cs : List Value), ofTys ts xs = true → Cs dm ρ xs cs → cs.length = Ty.sizes ts
  | [], xs, cs, h, hc => by
    cases xs <;> simp [ofTys] at h
    rw [show cs = [] from hc]; rfl
  | t :: ts, xs, cs, h, hc => by
    cases xs <;> simp only [ofTys, Bool.false_eq_true, Bool.and_eq_true] at h
    simp only [Cs] at hc
    obtain ⟨v, c, h1, rfl, h3⟩ := hc
    have e1 := ofTy_size t _ v h.1 h1
    have e2 := ofTys_size ts _ c h.2 h3
    simp [Ty.sizes, e1, e2]
end

theorem store_sound {T : TypeId} {ti : TInfo} (hT : RowOk P T ti) (hm : Mem w0 M ρ H w) {a x : SV} {va vx : Value} (ha : D (dmOf H) ρ a va) (hx : D (dmOf H) ρ x vx) (hty : ofTy ti.ty x = true) {d : Delta} {rs rs' : List Nat}
    (h : (storeOp a x).run H rs = some (d, rs')) (hp : AllP d.pre) : d.v = .any ∧ ∃ w', (Instr.storeAt T va vx).run P w = .ok () w' ∧ Mem w0 M ρ (updsH H d.ws) w' := by
  have hsz := ofTy_size ti.ty x vx hty hx
  cases a with
  | p key c =>
    simp only [D] at ha
    obtain ⟨_, rfl⟩ := ha
    simp only [storeOp, RP.run] at h
    split at h
    · rename_i l hk
      split at h
      · rename_i xs hxs
        split at h
        · rename_i p l' hw
          have e := run_ret h; subst e
          obtain ⟨vs, h1, h2, h3, h4⟩ := hm.segs hk
          have hys := segsOf_D x xs vx hxs hx
          obtain ⟨a1, a2⟩ := writeSegs_sound xs l l' c p vs vx.cells.toList hw hp h1 hys
          have hle : c + vx.cells.toList.length ≤ vs.length ∨ vx.cells.toList = [] := by
            rcases a2 with a2 | rfl
            · exact .inl a2
            · exact .inr hys
          refine ⟨rfl, w.setCells (ρ key).blk ((ρ key).off + c) vx.cells.toList, ?_, ?_⟩
          · refine store_run (by rw [hT.size, hsz]) (fun i hi => ?_) (fun u hu => hys.oneCell u hu)
            rcases hle with hle | hle
            · have := h4 rfl (c + i) (by simp at hle; omega)
              rwa [← Nat.add_assoc] at this
            · rw [← Array.length_toList, hle] at hi; simp at hi
          · rcases hle with hle | hle
            · exact hm.store hk h3 (by omega) (by omega) h2 rfl a1
            · rw [hle, over_nil] at a1
              rw [hle]
              have := hm.store (nv := []) (o := 0) hk h3 (by omega) (by simp) h2 rfl (by simpa using a1)
              simp only [World.setCells] at this ⊢
              exact this
        · simp [RP.run] at h
      · simp [RP.run] at h
    · simp [RP.run] at h
  | pd key c est z j =>
    simp only [D] at ha
    obtain ⟨_, hz, rfl⟩ := ha
    simp only [storeOp, RP.run] at h
    split at h
    · rename_i l hk
      split at h
      · rename_i g hg
        split at h
        · rename_i p g' hw
          split at h
          · rename_i l' hset
            have e := run_ret h; subst e
            obtain ⟨vs, h1, h2, h3, h4⟩ := hm.segs hk
            unfold segHead at hg
            split at hg
            · rename_i g0 hs
              simp only [Option.some.injEq] at hg; subst hg
              obtain ⟨pre, cs, post, e1, e2, e3, e4, e5⟩ := segAt_D l c vs g0 0 h1 hs
              obtain ⟨a1, a2⟩ := writeDyn_sound hw hp e2 hx
              have a3 := e5 g' _ l' hset a1
              rw [← over_mid _ _ _ _ _ (by simpa using a2), ← e1, show pre.length + (est * z.toNat + j) = c + est * z.toNat + j by omega] at a3
              have hle : c + est * z.toNat + j + vx.cells.toList.length ≤ vs.length := by rw [e1]; simp; omega
              have hone : ∀ u ∈ vx.cells.toList, u.oneCell' = true := by
                cases x <;> simp only [writeDyn, reduceCtorEq] at hw
                case i => intro u hu; rw [(single_cell (x := .i _ _) rfl hx).2] at hu; simp at hu; rw [hu]; exact (single_cell (x := .i _ _) rfl hx).1
                case arr =>
                  simp only [D] at hx
                  intro u hu; rw [hx.2.2] at hu; simp [Value.cells] at hu; obtain ⟨q, _, rfl⟩ := hu; rfl
                all_goals (cases g0 <;> simp [writeDyn] at hw)
              refine ⟨rfl, w.setCells (ρ key).blk ((ρ key).off + (c + est * z.toNat + j)) vx.cells.toList, ?_, hm.store hk h3 (by omega) (by omega) h2 rfl a3⟩
              refine store_run (by rw [hT.size, hsz]) (fun i hi => ?_) hone
              have := h4 rfl (c + est * z.toNat + j + i) (by simp at hle; omega)
              rwa [← Nat.add_assoc] at this
            · cases hg
          · simp [RP.run] at h
        · simp [RP.run] at h
      · simp [RP.run] at h
    · simp [RP.run] at h
  | _ => simp [storeOp, RP.run] at h

end
end Go.Gx
