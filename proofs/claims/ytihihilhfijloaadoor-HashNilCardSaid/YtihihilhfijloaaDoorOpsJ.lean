/- append, copy, clear; bytes and texts: what they come to. -/
import Derived.Test.YtihihilhfijloaaDoorOpsI
import Derived.Laws.AppendOwn
import Derived.Laws.IdiomStrings
namespace Go.Gx
open Go.RowKit
set_option linter.unusedVariables false

section
variable {P : Program} {w0 : World} {M : Nat → Prop} {ρ : Nat → Pl} {H : Nat → Option SB} {w : World}

theorem appendTo_run {stamp : Nat} {te : TInfo} {old x : Con} {gone : List (Nat × SB)} {pre : List Prop} {d : Delta} {rs rs' : List Nat} (h : (appendTo stamp te old x gone pre).run H rs = some (d, rs')) :
    ∃ r, conJoin old x = some r ∧ 0 < te.bytes ∧ te.ty.size = conSize old ∧ H stamp = none ∧
      d = ⟨(((conLen r : Nat) : Int) * (te.bytes : Int) ≤ 70368744177664) :: pre, .sl stamp 0 (conSize r) ⟨true, 0⟩ ⟨false, ((conLen r : Nat) : Int)⟩, (stamp, .segs false [conRow r]) :: gone, true⟩ := by
  unfold appendTo at h
  split at h
  · rename_i r hr hb
    simp only [Bool.and_eq_true] at hb
    simp only [RP.run] at h
    split at h
    · rename_i hn
      refine ⟨r, hr, ?_, Nat.eq_of_beq_eq_true hb.2, hn, run_ret h⟩
      have := hb.1
      simp [Nat.blt] at this
      omega
    · simp [RP.run] at h
  · simp [RP.run] at h

theorem segs_one {dm : Nat → Prop} {g : Seg} {cs : List Value} (h : SegD dm ρ g cs) : SegsD dm ρ [g] cs := ⟨cs, [], h, by simp, rfl⟩

theorem sl_D {dm : Nat → Prop} {key es : Nat} {a : Option Addr} {cap : Nat} (hk : dm key) (n : Nat) (hn : (n : Int) < 9223372036854775808) (hc : n ≤ cap)
    (h : (a = some (at_ (ρ key) 0) ∧ es * cap ≤ (ρ key).cap) ∨ (n = 0 ∧ cap = 0)) : D dm ρ (.sl key 0 es ⟨true, 0⟩ ⟨false, (n : Int)⟩) (.slice a n cap) := by
  refine ⟨hk, by simp, by simp, by simp only [InR]; omega, a, cap, by simp, by simpa using hc, ?_⟩
  rcases h with ⟨h1, h2⟩ | ⟨h1, h2⟩
  · exact .inl ⟨by simpa using h1, by simpa using h2⟩
  · exact .inr ⟨by simpa using h1, h2⟩

/-- A row that grows: into a new block. -/
theorem grow_after (hm : Mem w0 M ρ H w) {stamp : Nat} (hn : H stamp = none) {te : TInfo} {ie : TypeInfo} {z : Value} (hz1 : z.cells.size = ie.size) {e : TypeId} {old x r : Con} (hr : conJoin old x = some r) (h1 : conOk old) (h2 : conOk x)
    (hes : conSize old = ie.size) {sLen sCap : Nat} (hl : sLen = conLen old) (hg : sCap < sLen + conLen x) (hb : 0 < ie.bytes) (hpre : ((conLen r : Nat) : Int) * (ie.bytes : Int) ≤ 70368744177664)
    {d : Delta} (hdv : d.v = .sl stamp 0 (conSize r) ⟨true, 0⟩ ⟨false, ((conLen r : Nat) : Int)⟩) (hws : d.ws = [(stamp, .segs false [conRow r])] ∨ ∃ key, (H key).isSome = true ∧ d.ws = [(stamp, .segs false [conRow r]), (key, .gone)]) :
    After w0 M ρ H d (.slice (some ⟨w.heap.size, 0, none⟩) (sLen + conLen x) (grownCap w (sLen + conLen x) sCap e))
      (w.drew.alloc (.cells ((conCells old).toArray ++ (conCells x).toArray ++ Builtin.zeroCells z.cells (grownCap w (sLen + conLen x) sCap e - (sLen + conLen x))) e)) := by
  obtain ⟨q1, q2, q3, q4, q5⟩ := conJoin_sound hr h1 h2
  have hge := grownCap_ge w (sLen + conLen x) sCap e
  generalize grownCap w (sLen + conLen x) sCap e = cp at *
  have hd : Mem w0 M ρ H w.drew := hm.drew _
  have hlen : conLen r = sLen + conLen x := by rw [q3, hl]
  have hsmall : (conLen r : Int) < 9223372036854775808 := by
    have : (conLen r : Int) * 1 ≤ (conLen r : Int) * (ie.bytes : Int) := Int.mul_le_mul_of_nonneg_left (by omega) (by omega)
    omega
  have hal := hd.alloc hn (segs_one (conRow_D (ρ := ρ) (dm := dmOf H) q1)) (cells := (conCells old).toArray ++ (conCells x).toArray ++ Builtin.zeroCells z.cells (cp - (sLen + conLen x)))
    (T := e) (fr := (0, 0)) (extra := (Builtin.zeroCells z.cells (cp - (sLen + conLen x))).toList) (by simp [q2]) (fun j hj => by omega)
  have hsz : ((conCells old).toArray ++ (conCells x).toArray ++ Builtin.zeroCells z.cells (cp - (sLen + conLen x))).size = conSize r * cp := by
    have e1 := conCells_length h1
    have e2 := conCells_length h2
    rw [q5, hes] at e2
    rw [hes] at e1
    simp only [Array.size_append, List.size_toArray, Builtin.zeroCells, Array.size_map, Array.size_range, e1, e2, hz1, q4, hes]
    rw [← Nat.add_mul, ← Nat.add_mul, ← hl, Nat.add_sub_cancel' hge, Nat.mul_comm]
  have hD : ∀ (dm : Nat → Prop), dm stamp → D dm (updP ρ stamp ({ blk := w.drew.heap.size, off := 0, cap := ((conCells old).toArray ++ (conCells x).toArray ++ Builtin.zeroCells z.cells (cp - (sLen + conLen x))).size } : Pl)) d.v (.slice (some ⟨w.heap.size, 0, none⟩) (sLen + conLen x) cp) := fun dm hs => by
    rw [hdv, hlen]
    refine sl_D hs _ (by omega) hge (.inl ⟨?_, ?_⟩)
    · rw [updP_same]; rfl
    · rw [updP_same, hsz]; exact Nat.le_refl _
  rcases hws with hws | ⟨key, hk, hws⟩
  · exact ⟨_, updP_keeps hn, hD _ (by rw [hws]; exact dm_new _ _ _), by rw [hws]; exact hal⟩
  · exact ⟨_, updP_keeps hn, hD _ (by rw [hws]; exact dm_updH _ _ _ _ (dm_new _ _ _)), by rw [hws]; exact hal.gone key (dm_updH _ _ _ key hk)⟩

theorem append_sound {T T2 tyy : TypeId} {ti ti2 : TInfo} {ty : List (Nat × TInfo)} (hT : RowOk P T ti) (hT2 : RowOk P T2 ti2) (hty : tabB P ty = true) (hm : Mem w0 M ρ H w) {stamp : Nat} {s x : SV} {vs vx : Value} (hs : D (dmOf H) ρ s vs) (hx : D (dmOf H) ρ x vx)
    {d : Delta} {rs rs' : List Nat} (h : (appendOp ty stamp ti ti2 s x).run H rs = some (d, rs')) (hp : AllP d.pre) :
    ∃ v w', (Builtin.append_ #[T, T2] tyy #[vs, vx]).run P w = .ok v w' ∧ After w0 M ρ H d v w' := by
  unfold appendOp at h
  split at h
  · rename_i te ht hte hsq
    have hTe := rowB_ok (tabB_row hty hte)
    obtain ⟨ie, z, hi1, hi2, hi3, hi4, hi5⟩ := hTe.info
    have hu := slice_of hT ht
    have hz1 : z.cells.size = ie.size := by rw [zeroB_size hi5, hi2]
    have h2 := noInt_of hT2 (show (match ti2.ty with | .slice => true | .str => true | _ => false) = true from hsq)
    split at h
    · -- nil
      simp only [D] at hs
      subst hs
      split at h
      · rename_i old hold
        obtain ⟨p, q, rs1, hw, hq⟩ := withCon_sound (P := P) hm hx h
        obtain ⟨r, hr, hb, hsz, hn, rfl⟩ := appendTo_run hw
        have hq := hq hp.2
        have hok : conOk old ∧ conLen old = 0 ∧ conCells old = [] := by
          unfold emptyCon at hold
          split at hold <;> simp only [Option.some.injEq, reduceCtorEq] at hold <;> subst hold
          · exact ⟨fun z hz => by simp at hz, rfl, rfl⟩
          · exact ⟨fun z hz => by simp at hz, rfl, rfl⟩
        obtain ⟨q1, q2, q3, q4, q5⟩ := conJoin_sound hr hok.1 hq.ok
        have hes : conSize q = ie.size := by rw [q5, ← hsz, hi2]
        rcases Nat.eq_zero_or_pos (conLen q) with h0 | h0
        · have hc0 : conCells q = [] := List.eq_nil_of_length_eq_zero (by rw [conCells_length hq.ok, h0]; simp)
          refine ⟨_, w, append_room hu hi1 h2 hq hes (by omega) (fun a ha => by cases ha) (fun _ => rfl), updP ρ stamp ({ blk := 0, off := 0, cap := 0 } : Pl), updP_keeps hn, ?_, ?_⟩
          · have : conLen r = 0 + conLen q := by rw [q3, hok.2.1]
            rw [this]
            exact sl_D (dm_new _ _ _) _ (by omega) (by omega) (.inr ⟨by omega, rfl⟩)
          · exact hm.virtual hn (by have := segs_one (conRow_D (ρ := ρ) (dm := dmOf H) q1); rwa [q2, hok.2.2, hc0] at this)
        · have hlr : conLen r = 0 + conLen q := by rw [q3, hok.2.1]
          have hb' : ((conLen r : Nat) : Int) * (ie.bytes : Int) ≤ 70368744177664 := by rw [hi3]; exact hp.1
          have hbn : (0 + conLen q) * ie.bytes ≤ 140737488355328 := by
            rw [← hlr]
            have : ((conLen r * ie.bytes : Nat) : Int) ≤ 70368744177664 := by simpa using hb'
            omega
          refine ⟨_, _, append_grow (xs := []) hu hi1 hi4 h2 hq hes (by omega) (by simp [Builtin.firstCells]) ?_ (growslice_fits (by omega) hbn), ?_⟩
          · have : (0 + conLen q) * 1 ≤ (0 + conLen q) * ie.bytes := Nat.mul_le_mul_left _ (by omega)
            omega
          · have := grow_after (e := ti.elem) (te := te) hm hn hz1 hr hok.1 hq.ok (by rw [← hsz, hi2]) (sLen := 0) (sCap := 0) hok.2.1.symm (by omega) (by omega) hb' (d := ⟨(((conLen r : Nat) : Int) * (te.bytes : Int) ≤ 70368744177664) :: p, _, _, true⟩) rfl (.inl rfl)
            rw [hok.2.2] at this
            exact this
      · simp [RP.run] at h
    · -- a row of the call's own
      rename_i key est len
      simp only [D] at hs
      obtain ⟨hk, ho, hl, hr0, ad, cap, rfl, hlc, hdis⟩ := hs
      simp only [RP.run] at h
      split at h
      · rename_i g hkey
        split at h
        · rename_i old hold
          split at h
          · rename_i hest
            have hest := Nat.eq_of_beq_eq_true hest
            obtain ⟨p, q, rs1, hw, hq⟩ := withCon_sound (P := P) hm hx h
            obtain ⟨r, hr, hb, hsz, hn, rfl⟩ := appendTo_run hw
            have hq := hq hp.2.2
            have hlz := hp.2.1
            obtain ⟨vs, h1, h3, h4, h5⟩ := hm.segs hkey
            obtain ⟨c1, c2, e1, e2, e3⟩ := h1
            have e4 : c2 = [] := e3
            subst e4
            simp only [List.append_nil] at e2
            subst e2
            have hok : conOk old ∧ conCells old = vs ∧ conRow old = g := by
              cases g <;> simp only [rowCon, Option.some.injEq, reduceCtorEq] at hold <;> subst hold <;> exact ⟨e1.1, e1.2.symm, rfl⟩
            obtain ⟨q1, q2, q3, q4, q5⟩ := conJoin_sound hr hok.1 hq.ok
            have hes : conSize q = ie.size := by rw [q5, ← hsz, hi2]
            have hlen : len.z.toNat = conLen old := by omega
            have hcl := conCells_length hok.1
            have hlr : conLen r = len.z.toNat + conLen q := by rw [q3, hlen]
            have hb' : ((conLen r : Nat) : Int) * (ie.bytes : Int) ≤ 70368744177664 := by rw [hi3]; exact hp.1
            have hbn : (len.z.toNat + conLen q) * ie.bytes ≤ 140737488355328 := by
              rw [← hlr]; have : ((conLen r * ie.bytes : Nat) : Int) ≤ 70368744177664 := by simpa using hb'
              omega
            have hsmall : len.z.toNat + conLen q ≤ 140737488355328 := by
              have : (len.z.toNat + conLen q) * 1 ≤ (len.z.toNat + conLen q) * ie.bytes := Nat.mul_le_mul_left _ (by omega)
              omega
            rcases Nat.lt_or_ge cap (len.z.toNat + conLen q) with hroom | hroom
            · -- it grows
              refine ⟨_, _, append_grow (xs := conCells old) hu hi1 hi4 h2 hq hes (by omega) ?_ (by omega) (growslice_fits (by omega) hbn), ?_⟩
              · rcases hdis with ⟨rfl, hcap⟩ | ⟨d1, d2⟩
                · refine firstCells_some _ _ _ _ _ _ (by rw [hcl, ← hsz, hi2, hlen]) (fun j u hu2 => ?_)
                  rw [addr_add]
                  rw [hok.2.1] at hu2
                  have := h4 j u hu2
                  simpa [at_] using this
                · have : conCells old = [] := List.eq_nil_of_length_eq_zero (by rw [hcl, ← hlen, d1]; simp)
                  rw [this, d1]
                  cases ad <;> simp [Builtin.firstCells, loadCells, loadCellsFrom]
              · exact grow_after (e := ti.elem) (te := te) hm hn hz1 hr hok.1 hq.ok (by rw [← hsz, hi2]) hlen (by omega) (by omega) hb' (d := ⟨(((conLen r : Nat) : Int) * (te.bytes : Int) ≤ 70368744177664) :: (len.z = ((conLen old : Nat) : Int)) :: p, _, _, true⟩) rfl (.inr ⟨key, by rw [hkey]; rfl, rfl⟩)
            · rcases hdis with ⟨rfl, hcap⟩ | ⟨d1, d2⟩
              · -- there is room
                have hcap' : conSize old * cap ≤ (ρ key).cap := by rw [← hest]; simpa using hcap
                have hfit : (conCells old).length + (conCells q).length ≤ (ρ key).cap := by
                  rw [hcl, conCells_length hq.ok, q5, ← Nat.add_mul, Nat.mul_comm, ← hlen]
                  exact Nat.le_trans (Nat.mul_le_mul_left _ hroom) hcap'
                have hclen : (conCells old).length = len.z.toNat * ie.size := by rw [hcl, ← hsz, hi2, hlen]
                have hth := h5 rfl
                have hst := run_storeCells_cells (P := P) (ρ key).blk ((ρ key).off + len.z.toNat * ie.size) (conCells q) 0 w
                  (fun j hj => by have := (hth (len.z.toNat * ie.size + j) (by omega)).1; simpa [Nat.add_assoc] using this)
                  (fun j hj => by have := (hth (len.z.toNat * ie.size + j) (by omega)).2; simpa [Nat.add_assoc] using this) conCells_one
                simp only [Nat.add_zero] at hst
                refine ⟨_, w.setCells (ρ key).blk ((ρ key).off + len.z.toNat * ie.size) (conCells q), append_room hu hi1 h2 hq hes hroom (fun a ha => ?_) (fun ha => by cases ha), ?_⟩
                · simp only [Option.some.injEq] at ha
                  subst ha
                  rw [addr_add]
                  simpa [at_] using hst
                · have hmm := hm.store (nv := conCells q) (o := len.z.toNat * ie.size) (vs' := conCells r) (l' := [conRow r]) hkey h4 (by rw [← hok.2.1]; omega) (by omega) h3
                    (by rw [← hok.2.1, ← hclen, List.take_length, List.drop_eq_nil_of_le (by omega), List.append_nil, q2]) (segs_one (conRow_D q1))
                  have hn' : updH H key (.segs false [conRow r]) stamp = none := by
                    rw [updH_ne]; exact hn
                    intro e; rw [e, hkey] at hn; cases hn
                  have hne : stamp ≠ key := fun e => by rw [e, hkey] at hn; cases hn
                  have hre := hmm.rekey (new := stamp) (updH_same _ _ _) hn'
                  rw [updH_over, updH_comm (Ne.symm hne)] at hre
                  refine ⟨updP ρ stamp (ρ key), updP_keeps hn, ?_, hre⟩
                  rw [hlr]
                  refine sl_D (dm_updH _ _ _ _ (dm_new _ _ _)) _ (by omega) hroom (.inl ⟨?_, ?_⟩)
                  · rw [updP_same]; simp
                  · rw [updP_same, q4]; exact hcap'
              · -- nothing to nothing
                have hq0 : conLen q = 0 := by omega
                have hc0 : conCells q = [] := List.eq_nil_of_length_eq_zero (by rw [conCells_length hq.ok, hq0]; simp)
                have ho0 : conCells old = [] := List.eq_nil_of_length_eq_zero (by rw [hcl, ← hlen, d1]; simp)
                refine ⟨_, w, append_room hu hi1 h2 hq hes hroom (fun a ha => by rw [hc0]; rfl) (fun _ => rfl), updP ρ stamp ({ blk := 0, off := 0, cap := 0 } : Pl), updP_keeps hn, ?_, ?_⟩
                · rw [hlr]
                  exact sl_D (dm_updH _ _ _ _ (dm_new _ _ _)) _ (by omega) hroom (.inr ⟨by omega, d2⟩)
                · have hv := hm.virtual hn (by have := segs_one (conRow_D (ρ := ρ) (dm := dmOf H) q1); rwa [q2, ho0, hc0] at this)
                  exact hv.gone key (dm_updH _ _ _ key (by rw [dmOf, hkey]; rfl))
          · simp [RP.run] at h
        · simp [RP.run] at h
      · simp [RP.run] at h
    · simp [RP.run] at h
  · simp [RP.run] at h

end
end Go.Gx
