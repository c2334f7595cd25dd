/- copy, clear; bytes and texts. -/
import Derived.Test.YtihihilhfijloaaDoorOpsJ
import Derived.Lib.SliceRun
namespace Go.Gx
open Go.RowKit
set_option linter.unusedVariables false

section
variable {P : Program} {w0 : World} {M : Nat → Prop} {ρ : Nat → Pl} {H : Nat → Option SB} {w : World}

theorem laySeg_sound {dm : Nat → Prop} {g g' : Seg} {k : IntKind} {off n : Int} {z : List Int} {p : Prop} {cs : List Value} (h : laySeg g k off n z = some (p, g')) (hg : SegD dm ρ g cs) (hp : p) (ho : 0 ≤ off) (hz : (z.length : Int) ≤ n) (hk : AllR k z) :
    SegD dm ρ g' (over cs off.toNat (z.map (Value.int k))) ∧ off.toNat + z.length ≤ cs.length := by
  have hall : ∀ {y : List Int}, AllR k y → AllR k (over y off.toNat z) := fun hy u hu => by
    unfold over at hu
    rcases List.mem_append.1 hu with hu | hu
    · rcases List.mem_append.1 hu with hu | hu
      · exact hy u (List.mem_of_mem_take hu)
      · exact hk u hu
    · exact hy u (List.mem_of_mem_drop hu)
  cases g <;> simp only [laySeg, reduceCtorEq] at h
  · rename_i k' m ex y
    split at h
    · rename_i e
      have e := keq_eq e
      subst e
      simp only [Option.some.injEq, Prod.mk.injEq] at h
      obtain ⟨rfl, rfl⟩ := h
      obtain ⟨h1, h2, h3⟩ := hg
      have hle : off.toNat + z.length ≤ y.length := by omega
      exact ⟨⟨by show (over y off.toNat z).length = m; rw [over_length hle, h1], hall h2, by rw [h3]; exact (map_over _ _ _ _).symm⟩, by rw [h3]; simpa using hle⟩
    · cases h
  · rename_i k' y
    split at h
    · rename_i e
      have e := keq_eq e
      subst e
      simp only [Option.some.injEq, Prod.mk.injEq] at h
      obtain ⟨rfl, rfl⟩ := h
      obtain ⟨h2, h3⟩ := hg
      have hle : off.toNat + z.length ≤ y.length := by omega
      exact ⟨⟨hall h2, by rw [h3]; exact (map_over _ _ _ _).symm⟩, by rw [h3]; simpa using hle⟩
    · cases h

/-- Numbers stored into a slice's elements. -/
theorem lay_sound (hm : Mem w0 M ρ H w) {key c : Nat} {off len : SI} {l l' : List Seg} (hkey : H key = some (.segs false l)) {g g' : Seg} (hs : segAt l c = some (g, 0)) {k : IntKind} {z : List Int} {p : Prop}
    (hlay : laySeg g k off.z len.z z = some (p, g')) (hp : p) (ho : 0 ≤ off.z) (hz : (z.length : Int) ≤ len.z) (hk : AllR k z) (hset : segSet l c g' = some l') :
    (∀ ad cap, ((ad = some (at_ (ρ key) (c + 1 * off.z.toNat)) ∧ c + 1 * off.z.toNat + 1 * cap ≤ (ρ key).cap) ∨ (len.z = 0 ∧ cap = 0)) →
      ∃ w', (∀ a, ad = some a → (storeCells a (z.map (Value.int k))).run P w = .ok () w') ∧ (ad = none → w' = w) ∧ Mem w0 M ρ (updH H key (.segs false l')) w' ∧
        (z = [] → w' = w)) := by
  intro ad cap hdis
  obtain ⟨vs, h1, h2, h3, h4⟩ := hm.segs hkey
  obtain ⟨pre, cs, post, e1, e2, e3, _, e5⟩ := segAt_D l c vs g 0 h1 hs
  obtain ⟨a1, a2⟩ := laySeg_sound hlay e2 hp ho hz hk
  have a3 := e5 g' _ l' hset a1
  rw [← over_mid _ _ _ _ _ (by simpa using a2), ← e1, show pre.length + off.z.toNat = c + off.z.toNat by omega] at a3
  have hle : c + off.z.toNat + z.length ≤ vs.length := by rw [e1]; simp; omega
  have hth := h4 rfl
  rcases hdis with ⟨rfl, hcap⟩ | ⟨d1, d2⟩
  · refine ⟨w.setCells (ρ key).blk ((ρ key).off + (c + off.z.toNat)) (z.map (Value.int k)), fun a ha => ?_, (fun ha => by cases ha), hm.store hkey h3 (by omega) (by simp; omega) h2 rfl a3, (fun hz => by rw [hz]; rfl)⟩
    simp only [Option.some.injEq] at ha
    subst ha
    have hst := run_storeCells_cells (P := P) (ρ key).blk ((ρ key).off + (c + off.z.toNat)) (z.map (Value.int k)) 0 w
      (fun j hj => by simp only [List.length_map] at hj; have := (hth (c + off.z.toNat + j) (by omega)).1; simpa [Nat.add_assoc] using this)
      (fun j hj => by simp only [List.length_map] at hj; have := (hth (c + off.z.toNat + j) (by omega)).2; simpa [Nat.add_assoc] using this)
      (fun v hv => by simp only [List.mem_map] at hv; obtain ⟨q, _, rfl⟩ := hv; rfl)
    simpa [at_] using hst
  · have hz0 : z = [] := List.eq_nil_of_length_eq_zero (by omega)
    subst hz0
    refine ⟨w, fun a _ => rfl, fun _ => rfl, ?_, fun _ => rfl⟩
    rw [List.map_nil, over_nil] at a3
    have := hm.store (nv := []) (o := 0) hkey h3 (by omega) (by simp) h2 rfl (by simpa using a3)
    simpa only [World.setCells] using this

theorem intElem_of {T : TypeId} {ti : TInfo} {ty : List (Nat × TInfo)} (hT : RowOk P T ti) (hty : tabB P ty = true) (h : intElem ty ti = true) : P.underlying T = some (.slice ti.elem) ∧ ∃ ie, P.info? ti.elem = some ie ∧ ie.size = 1 := by
  unfold intElem at h
  split at h
  · rename_i te ht hte
    obtain ⟨ie, z, hi1, hi2, hi3, hi4, hi5⟩ := (rowB_ok (tabB_row hty hte)).info
    refine ⟨slice_of hT ht, ie, hi1, ?_⟩
    split at h
    · rename_i k hk; rw [hi2, hk]; rfl
    · cases h
  · cases h

theorem copy_run {T T2 tyy e : TypeId} {ie : TypeInfo} (hu : P.underlying T = some (.slice e)) (hi : P.info? e = some ie) (h1 : ie.size = 1) {ad : Option Addr} {n cap : Nat} {v : Value} {q : Con} (hq : ConAt P w v q) (hs : conSize q = 1) {w' : World}
    (hst : ∀ a, ad = some a → (storeCells a ((conCells q).take (Nat.min (conLen q) n))).run P w = .ok () w') (hst' : ad = none → w' = w) :
    (Builtin.copy_ #[T, T2] tyy #[.slice ad n cap, v]).run P w = .ok (.int .i64 (Nat.min (conLen q) n)) w' := by
  have hl := hq.len w
  have hc := hq.cells w (fun _ _ h => h) (Nat.min (conLen q) n) (Nat.min_le_left _ _)
  rw [hs] at hc
  simp only [Nat.mul_one] at hc
  cases ad with
  | none =>
    have := hst' rfl
    subst this
    simp [Builtin.copy_, run_underlying hu, hl, sizeOf, typeInfo, hi, h1, hc, goInt]
  | some a =>
    have := hst a rfl
    simp [Builtin.copy_, run_underlying hu, hl, sizeOf, typeInfo, hi, h1, hc, goInt, this]

theorem copy_sound {T T2 tyy : TypeId} {ti : TInfo} {ty : List (Nat × TInfo)} (hT : RowOk P T ti) (hty : tabB P ty = true) (hm : Mem w0 M ρ H w) {x y : SV} {vx vy : Value} (hx : D (dmOf H) ρ x vx) (hy : D (dmOf H) ρ y vy)
    {d : Delta} {rs rs' : List Nat} (h : (copyOp ty ti x y).run H rs = some (d, rs')) (hp : AllP d.pre) :
    ∃ v w', (Builtin.copy_ #[T, T2] tyy #[vx, vy]).run P w = .ok v w' ∧ After w0 M ρ H d v w' := by
  unfold copyOp at h
  split at h
  · rename_i key c est off len hie
    obtain ⟨hu, ie, hi1, hi2⟩ := intElem_of hT hty hie
    obtain ⟨p, q, rs1, hw, hq⟩ := withCon_sound (P := P) hm hy h
    simp only [RP.run] at hw
    split at hw
    · rename_i l hkey
      split at hw
      · rename_i g k z hs hest
        have hest := Nat.eq_of_beq_eq_true hest
        subst hest
        split at hw
        · rename_i p' g' hlay
          split at hw
          · rename_i l' hset
            have e := run_ret hw
            subst e
            have hq := hq hp.2
            simp only [D] at hx
            obtain ⟨hk, ho, hl, hr, ad, cap, rfl, hlc, hdis⟩ := hx
            have htl : ((z.take len.z.toNat).length : Int) ≤ len.z := by simp; omega
            have htk : AllR k (z.take len.z.toNat) := fun u hu => hq.ok u (List.mem_of_mem_take hu)
            obtain ⟨w', f1, f2, f3, _⟩ := lay_sound (P := P) hm hkey hs hlay hp.1 ho htl htk hset ad cap hdis
            have hmin : (conCells (.ints k z)).take (Nat.min (conLen (.ints k z)) len.z.toNat) = (z.take len.z.toNat).map (Value.int k) := by
              simp only [conCells, conLen, ← List.map_take]
              congr 1
              have : Nat.min z.length len.z.toNat = min len.z.toNat z.length := Nat.min_comm _ _
              rw [this, ← List.take_take, List.take_length]
            refine ⟨_, w', copy_run hu hi1 hi2 hq rfl (fun a ha => by rw [hmin]; exact f1 a ha) f2, ρ, .refl _ _, ?_, f3⟩
            simp only [InR] at hr
            refine ⟨?_, by simp only [InR]; omega⟩
            simp only [conLen]
            congr 1
            have : Nat.min z.length len.z.toNat = min z.length len.z.toNat := rfl
            rw [this]; omega
          · simp [RP.run] at hw
        · simp [RP.run] at hw
      · simp [RP.run] at hw
    · simp [RP.run] at hw
  · simp [RP.run] at h

theorem clear_sound {T tyy : TypeId} {ti : TInfo} {ty : List (Nat × TInfo)} (hT : RowOk P T ti) (hty : tabB P ty = true) (hm : Mem w0 M ρ H w) {x : SV} {vx : Value} (hx : D (dmOf H) ρ x vx)
    {d : Delta} {rs rs' : List Nat} (h : (clearOp ty ti x).run H rs = some (d, rs')) (hp : AllP d.pre) :
    ∃ v w', (Builtin.clear_ #[T] tyy #[vx]).run P w = .ok v w' ∧ After w0 M ρ H d v w' := by
  unfold clearOp at h
  split at h
  · rename_i key c est off len te ht hte
    obtain ⟨ie, z, hi1, hi2, hi3, hi4, hi5⟩ := (rowB_ok (tabB_row hty hte)).info
    have hu := slice_of hT ht
    simp only [RP.run] at h
    split at h
    · rename_i l hkey
      split at h
      · rename_i g k hs hk hest
        have hest := Nat.eq_of_beq_eq_true hest
        subst hest
        split at h
        · rename_i p' g' hlay
          split at h
          · rename_i l' hset
            have e := run_ret h
            subst e
            simp only [D] at hx
            obtain ⟨hkk, ho, hl, hr, ad, cap, rfl, hlc, hdis⟩ := hx
            obtain ⟨w', f1, f2, f3, f4⟩ := lay_sound (P := P) hm hkey hs hlay hp.1 ho (by simp; omega) (allR_rep k _) hset ad cap hdis
            refine ⟨.tuple #[], w', ?_, ρ, .refl _ _, trivial, f3⟩
            rw [hk] at hi5
            obtain ⟨u, hu1, hu2⟩ := madeCells_zero (dm := fun _ => False) hi5 rfl 0
            have hu3 : u = .int k 0 := by
              have := zeroB_D (dm := fun _ => False) (ρ := ρ) hi5
              simp only [zero, D] at this
              rw [this.1] at hu1
              simp [Value.cells] at hu1
              exact hu1.symm
            rcases Nat.eq_zero_or_pos len.z.toNat with h0 | h0
            · have := f4 (by rw [h0]; rfl)
              subst this
              rw [h0]
              cases ad <;> simp [Builtin.clear_, run_underlying hu]
            · cases ad with
              | none =>
                rcases hdis with ⟨d1, _⟩ | ⟨d1, _⟩
                · cases d1
                · omega
              | some a =>
                have := f1 a rfl
                have hzc : (Builtin.zeroCells z.cells len.z.toNat).toList = (List.replicate len.z.toNat (0 : Int)).map (Value.int k) := by
                  rw [hu1, hu3]
                  simp [Builtin.zeroCells]
                  apply List.ext_getElem
                  · simp
                  · intro i h1 h2
                    simp [Nat.mod_one]
                obtain ⟨m, hm'⟩ : ∃ m, len.z.toNat = m + 1 := ⟨len.z.toNat - 1, by omega⟩
                rw [hm'] at this hzc ⊢
                simp only [List.map_replicate] at this hzc
                simp [Builtin.clear_, run_underlying hu, zeroValue, typeInfo, hi1, hi4, hzc, this]
          · simp [RP.run] at h
        · simp [RP.run] at h
      · simp [RP.run] at h
    · simp [RP.run] at h
  · simp [RP.run] at h

/-! ### Bytes and texts -/

theorem isBytes_of {ti : TInfo} {ty : List (Nat × TInfo)} (hty : tabB P ty = true) (h : isBytes ty ti = true) : P.underlying ti.elem = some (.int .u8) := by
  unfold isBytes at h
  split at h
  · rename_i te hte
    have hT := rowB_ok (tabB_row hty hte)
    split at h
    · rename_i hk
      have h1 := hT.ty
      rw [hk] at h1
      unfold tyB at h1
      split at h1
      · rename_i k' hu
        rw [hu, keq_eq h1]
      · cases h1
    · cases h
  · cases h

theorem ofBytes_run {a : Option Addr} {n cap : Nat} {l : List Int} (h : ConAt P w (.slice a n cap) (.ints .u8 l)) (hn : n = l.length) : (Conv.bytesToString (.slice a n cap)).run P w = .ok (.string (ofBytesI l)) w := by
  have hc := h.all w (fun _ _ h => h)
  simp only [conSize, conLen] at hc
  have hf : ∀ (l : List Int) (r : ByteArray), l.foldl (fun r n => r.push (UInt8.ofNat n.toNat)) r = ⟨r.data ++ (l.map fun z => UInt8.ofNat z.toNat).toArray⟩ := by
    intro l
    induction l with
    | nil => intro r; simp
    | cons b l ih => intro r; simp only [List.foldl_cons]; rw [ih]; simp [ByteArray.push]
  cases a with
  | none =>
    simp only [Builtin.firstCells, Sem.run_pure] at hc
    have : l = [] := by
      have := congrArg (fun r : Result (Array Value) => match r with | .ok x _ => x.size | _ => 0) hc
      simp [conCells] at this
      exact List.eq_nil_of_length_eq_zero this.symm
    subst this
    simp [Conv.bytesToString, ofBytesI]; rfl
  | some a =>
    simp only [Builtin.firstCells, Nat.mul_one] at hc
    rw [run_bytesToString w a n cap l (by rw [hn]; exact hc), hf]
    have he0 : ByteArray.empty.data = #[] := rfl
    rw [he0]
    simp [ofBytesI]

theorem convert_sound {Ts Td : TypeId} {ti ti2 : TInfo} {ty : List (Nat × TInfo)} (hT : RowOk P Ts ti) (hT2 : RowOk P Td ti2) (hty : tabB P ty = true) (hm : Mem w0 M ρ H w) {stamp : Nat} {x : SV} {vx : Value} (hx : D (dmOf H) ρ x vx)
    {d : Delta} {rs rs' : List Nat} (h : (convertOp ty stamp ti ti2 x).run H rs = some (d, rs')) (hp : AllP d.pre) :
    ∃ v w', (convert Ts Td vx).run P w = .ok v w' ∧ After w0 M ρ H d v w' := by
  have same : ∀ {v : Value}, d.ws = [] → D (dmOf H) ρ d.v v → (convert Ts Td vx).run P w = .ok v w → ∃ v w', (convert Ts Td vx).run P w = .ok v w' ∧ After w0 M ρ H d v w' :=
    fun hw hv hr => ⟨_, w, hr, ρ, .refl _ _, by rw [hw]; exact hv, by rw [hw]; exact hm⟩
  have hint : ∀ {t : TInfo} {T : TypeId} {k : IntKind}, RowOk P T t → t.ty = .int k → P.underlying T = some (.int k) := fun hT ht => by
    have h1 := hT.ty
    rw [ht] at h1
    unfold tyB at h1
    split at h1
    · rename_i k' hu; rw [hu, keq_eq h1]
    · cases h1
  have hstr : ∀ {t : TInfo} {T : TypeId}, RowOk P T t → t.ty = .str → P.underlying T = some .string := fun hT ht => by
    have h1 := hT.ty
    rw [ht] at h1
    unfold tyB at h1
    split at h1
    · rename_i hu; exact hu
    · cases h1
  unfold convertOp at h
  split at h
  · rename_i ks k k' a h1 h2
    have u1 := hint hT h1
    have u2 := hint hT2 h2
    simp only [D] at hx
    obtain ⟨rfl, hr⟩ := hx
    have hrun := convInt_sound (w := w) (k' := k') (a := a.z) u1 u2
    split at h
    · rename_i e
      have e := keq_eq e
      subst e
      have e := run_ret h; subst e
      refine same rfl ⟨rfl, hr⟩ (by rw [hrun, wrap_of_InR hr])
    · split at h
      · split at h
        · rename_i hb
          have e := run_ret h; subst e
          have hb := InRb_iff hb
          refine same rfl ⟨rfl, hb⟩ (by rw [hrun, wrap_of_InR hb])
        · have e := run_ret h; subst e
          exact same rfl ⟨rfl, inR_wrap _ _⟩ hrun
      · have e := run_ret h; subst e
        exact same rfl ⟨rfl, inR_wrap _ _⟩ hrun
  · rename_i s h1 h2
    have u1 := hstr hT h1
    have u2 := hstr hT2 h2
    have e := run_ret h; subst e
    simp only [D] at hx
    obtain ⟨rfl, hs⟩ := hx
    exact same rfl ⟨rfl, hs⟩ (by simp [convert, run_underlying u1, run_underlying u2])
  · rename_i s h1 h2
    have u1 := hstr hT h1
    have u2 := slice_of hT2 h2
    split at h
    · rename_i hb
      have u3 := isBytes_of hty hb
      obtain ⟨hn, rfl⟩ := fresh_run h
      simp only [D] at hx
      obtain ⟨rfl, hs⟩ := hx
      have hrun := run_bytes_of_string (P := P) w Ts Td ti2.elem s u1 u2 u3
      have hge := grownCap_ge w s.size 0 ti2.elem
      generalize grownCap w s.size 0 ti2.elem = cp at *
      refine ⟨_, _, hrun, ?_⟩
      have hsz : (bytesRow s cp).size = cp := by
        have : s.data.size = s.size := rfl
        simp [bytesRow, this]; omega
      have hd : Mem w0 M ρ H w.drew := hm.drew _
      refine After.alloc (hd) hn (segs_one (dm := dmOf H) (g := .rowI .u8 (bytesI s)) (cs := (bytesI s).map (Value.int .u8)) ⟨bytesI_ok s, rfl⟩) (extra := List.replicate (cp - s.size) (.int .u8 0)) (by simp [bytesRow, bytesI, Function.comp_def]) (fun j hj => by simp only; omega) rfl ?_
      refine sl_D (dm_new _ _ _) _ hs hge (.inl ⟨?_, ?_⟩)
      · rw [updP_same]; rfl
      · rw [updP_same, hsz]; simp
    · simp [RP.run] at h
  · rename_i h1 h2
    have u1 := slice_of hT h1
    have u2 := hstr hT2 h2
    split at h
    · rename_i hb
      have u3 := isBytes_of hty hb
      have e := run_ret h; subst e
      simp only [D] at hx
      subst hx
      refine same (v := .string ByteArray.empty) rfl ⟨rfl, by decide⟩ ?_
      rw [run_convert_bytes_string w Ts Td ti.elem none 0 0 u1 u3 u2]; rfl
    · simp [RP.run] at h
  · rename_i key c est off len h1 h2
    have u1 := slice_of hT h1
    have u2 := hstr hT2 h2
    split at h
    · rename_i hb
      have u3 := isBytes_of hty hb
      obtain ⟨p, q, rs1, hw, hq⟩ := withCon_sound (P := P) hm hx h
      split at hw
      · rename_i l
        have e := run_ret hw; subst e
        have hq := hq hp
        simp only [D] at hx
        obtain ⟨hk, ho, hl, hr, ad, cap, rfl, hlc, hdis⟩ := hx
        have hll : l.length = len.z.toNat := by
          have := hq.len w
          simp [Builtin.lenOf, conLen] at this
          omega
        refine same rfl ⟨rfl, ?_⟩ (by rw [run_convert_bytes_string w Ts Td ti.elem ad len.z.toNat cap u1 u3 u2]; exact ofBytes_run hq hll.symm)
        simp only [InR] at hr
        have : (ofBytesI l).size = l.length := by simp [ofBytesI, ByteArray.size]
        rw [this, hll]; omega
      · simp [RP.run] at hw
    · simp [RP.run] at h
  · rename_i key sh dd h1 h2
    have u1 := slice_of hT h1
    have u2 := hstr hT2 h2
    split at h
    · rename_i hb
      have u3 := isBytes_of hty hb
      obtain ⟨p, q, rs1, hw, hq⟩ := withCon_sound (P := P) hm hx h
      split at hw
      · rename_i l
        have e := run_ret hw; subst e
        have hq := hq hp
        simp only [D] at hx
        obtain ⟨hk, hrel, hF, ad, cap, rfl, hlc, hl63, hdis⟩ := hx
        have hll : l.length = roLen sh dd := by
          have := hq.len w
          simp [Builtin.lenOf, conLen] at this
          omega
        refine same rfl ⟨rfl, ?_⟩ (by rw [run_convert_bytes_string w Ts Td ti.elem ad (roLen sh dd) cap u1 u3 u2]; exact ofBytes_run hq hll.symm)
        have : (ofBytesI l).size = l.length := by simp [ofBytesI, ByteArray.size]
        rw [this, hll]; omega
      · simp [RP.run] at hw
    · simp [RP.run] at h
  · simp [RP.run] at h

end
end Go.Gx
