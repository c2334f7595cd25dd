/- ScalarInverts: the inverses of all scalars of a list, asked again and again, are those of the document, each one its own; the list stays as it was, the room behind it too; what is handed out is the caller's; and so for the same list written over. For all lists whose scalars are not more than the cards' bound; the table lies as the program's text lays it. -/
import Derived.Test.YtnjcbedjhokfhaaDoorM5
import Derived.ChangeSlices
import Derived.SizedLaws
import Derived.Test.YtnjcbedjhokfhaaDoorM7
import Derived.Test.YtnjcbedjhokfhaaDoorRows
import Derived.OpenShut

/- A law off a world that holds the globals: its arguments as data that is only read. -/
namespace Go.Gx
open Go.RowKit Go.ChangeShapes Go.WideShapes Go.ChangeAt
open Go.Proofs.YtnjcbedjhokfhaaDoor.Rows (uptoBulk uptoBulkAll uptoSmall)
set_option linter.unusedVariables false

mutual
def shTyB (P : Program) : Sh → TypeId → Bool
  | .i k, t => (match P.underlying t with | some (.int k') => keq k k' | _ => false)
  | .tb, t => (match P.underlying t with | some .bool => true | _ => false)
  | .ts, t => (match P.underlying t with | some .string => true | _ => false)
  | .ints k, t => (match P.underlying t with
    | some (.slice e) => (match P.underlying e with | some (.int k') => keq k k' && (Nat.beq (P.cellsOf e) 1 && Nat.blt 0 (P.bytesOf e)) | _ => false)
    | _ => false)
  | .l sh, t => (match P.underlying t with
    | some (.slice e) => shTyB P sh e && (Nat.beq (P.cellsOf e) (shSize sh) && (Nat.blt 0 (shSize sh) && Nat.blt 0 (P.bytesOf e)))
    | _ => false)
  | .r fs, t => (match P.underlying t with
    | some (.struct ff) => shTysB P fs ff.toList 0 && Nat.beq (P.cellsOf t) (shSizes fs)
    | _ => false)
  | .arr n k, t => (match P.underlying t with
    | some (.array m e) => Nat.beq m n && (Nat.beq (P.cellsOf t) n && (Nat.beq (P.cellsOf e) 1 && (match P.underlying e with | some (.int k') => keq k k' | _ => false)))
    | _ => false)
def shTysB (P : Program) : List Sh → List Field → Nat → Bool
  | [], ff, _ => (match ff with | [] => true | _ => false)
  | s :: r, ff, o => (match ff with
    | f :: ff => Nat.beq f.offset o && (shTyB P s f.type && (Nat.beq (P.cellsOf f.type) (shSize s) && shTysB P r ff (o + shSize s)))
    | [] => false)
end

mutual
/-- How much data holds. -/
def roM : Sh → RO → Nat
  | .ts, d => (roS d).size
  | .ints _, d => (roL d).length
  | .l e, d => (roX d).length + ((roX d).map (roM e)).sum
  | .r fs, d => roMs fs d 0
  | .i _, _ => 0
  | .tb, _ => 0
  | .arr _ _, _ => 0
def roMs : List Sh → RO → Nat → Nat
  | [], _, _ => 0
  | s :: r, d, i => roM s (roN d i) + roMs r d (i + 1)
end

mutual
/-- Is each slice and text of data of at most so many parts? -/
def roMx (N : Nat) : Sh → RO → Prop
  | .ts, d => (roS d).size ≤ N
  | .ints _, d => (roL d).length ≤ N
  | .l e, d => (roX d).length ≤ N ∧ ∀ x ∈ roX d, roMx N e x
  | .r fs, d => roMxs N fs d 0
  | .i _, _ => True
  | .tb, _ => True
  | .arr _ _, _ => True
def roMxs (N : Nat) : List Sh → RO → Nat → Prop
  | [], _, _ => True
  | s :: r, d, i => roMx N s (roN d i) ∧ roMxs N r d (i + 1)
end

section
variable {P : Program}

theorem weightsAll_mem {H : Type} {e : TypeId} {d : DataW H} : ∀ {l : List (DataW H)}, d ∈ l → ∀ n ∈ d.weights P e, n ∈ DataW.weightsAll P e l
  | y :: r, h, n, hn => by
    simp only [DataW.weightsAll, List.mem_append]
    rcases List.mem_cons.1 h with rfl | h
    · exact .inl hn
    · exact .inr (weightsAll_mem h n hn)

theorem bulk_pos {H : Type} (d : DataW H) : 1 ≤ uptoBulk d := by unfold uptoBulk; split <;> omega
theorem bulkAll_len {H : Type} : ∀ (l : List (DataW H)), l.length ≤ uptoBulkAll l
  | [] => by simp [uptoBulkAll]
  | d :: r => by have := bulk_pos d; have := bulkAll_len r; simp only [uptoBulkAll, List.length_cons]; omega
theorem bulkAll_app {H : Type} : ∀ (a b : List (DataW H)), uptoBulkAll (a ++ b) = uptoBulkAll a + uptoBulkAll b
  | [], b => by simp [uptoBulkAll]
  | d :: r, b => by simp only [List.cons_append, uptoBulkAll, bulkAll_app r b]; omega

theorem ChainR.snoc {R : RO → Value → Prop} {x : RO} {v : Value} (hx : R x v) : ∀ (xs : List RO) (cs : List Value), ChainR R xs cs → ChainR R (xs ++ [x]) (cs ++ v.cells.toList)
  | [], cs, h => by rw [show cs = [] from h]; exact ⟨v, [], hx, by simp, rfl⟩
  | y :: r, cs, h => by
    obtain ⟨u, c, h1, rfl, h3⟩ := h
    exact ⟨u, c ++ v.cells.toList, h1, by simp [List.append_assoc], ChainR.snoc hx r c h3⟩

theorem addr_of_cell {W : World} {a : Addr} {v : Value} (h : W.cell? a = some v) : a = ⟨a.block, a.off, none⟩ ∧ a.block < W.heap.size := by
  obtain ⟨bk, of, sp⟩ := a
  unfold World.cell? at h
  split at h
  · rename_i hb
    have hb : W.heap[bk]? = _ := hb
    refine ⟨?_, (Array.getElem?_eq_some_iff.1 hb).1⟩
    split at h
    · cases h
    · rename_i hs
      have hs : ¬ sp.isSome = true := hs
      have : sp = none := by simpa using hs
      rw [this]
  · cases h

theorem add_add_addr (a : Addr) (i j : Nat) : (a.add i).add j = a.add (i + j) := by
  unfold Addr.add
  by_cases h1 : i = 0 <;> by_cases h2 : j = 0 <;> simp [h1, h2, Nat.add_assoc]
theorem add_zero_addr (a : Addr) : a.add 0 = a := by simp [Addr.add]

mutual
/-- An argument's reading, as data. -/
theorem trod_ro {H : Type} {enc : TypeId × Value → H} {W : World} (N : Nat) : ∀ (sh : Sh) (t : TypeId) (fuel : Nat) (cs : List Value) (x : DataW H × List MemPlace), shTyB P sh t = true → DataW.trod enc P W 0 (fun _ => true) true fuel t cs = some x →
    ∃ ro v, cs = v.cells.toList ∧ RoD W (OutB W fun _ => False) sh ro v ∧ roM sh ro + 1 ≤ uptoBulk x.1 ∧ ((∀ n ∈ x.1.weights P t, n ≤ N) → roMx N sh ro)
  | .i k, t, fuel, cs, x, hs, h => by
    simp only [shTyB] at hs
    split at hs
    · rename_i k' hu
      have hk := keq_eq hs
      subst hk
      cases fuel with
      | zero => simp [DataW.trod] at h
      | succ n =>
        unfold DataW.trod at h
        rw [hu] at h
        rcases cs with _ | ⟨c, _ | ⟨c2, r⟩⟩
        · simp at h
        · cases c <;> simp at h
          rename_i k2 z
          obtain ⟨⟨rfl, hz⟩, rfl⟩ := h
          refine ⟨.i z, .int k2 z, rfl, ?_, by simp [roM, uptoBulk], fun _ => trivial⟩
          simp only [RoD, roZ]
          refine ⟨trivial, ?_⟩
          simp only [Lit.wf, Bool.and_eq_true, decide_eq_true_eq] at hz
          cases k2 <;> simp [InR, IntKind.min, IntKind.max, IntKind.bits, IntKind.signed] at hz ⊢ <;> omega
        · simp at h
    · cases hs
  | .tb, t, fuel, cs, x, hs, h => by
    simp only [shTyB] at hs
    split at hs
    · rename_i hu
      cases fuel with
      | zero => simp [DataW.trod] at h
      | succ n =>
        unfold DataW.trod at h
        rw [hu] at h
        rcases cs with _ | ⟨c, _ | ⟨c2, r⟩⟩
        · simp at h
        · cases c <;> simp at h
          rename_i b
          subst h
          exact ⟨.b b, .bool b, rfl, by simp only [RoD, roB], by simp [roM, uptoBulk], fun _ => trivial⟩
        · simp at h
    · cases hs
  | .ts, t, fuel, cs, x, hs, h => by
    simp only [shTyB] at hs
    split at hs
    · rename_i hu
      cases fuel with
      | zero => simp [DataW.trod] at h
      | succ n =>
        unfold DataW.trod at h
        rw [hu] at h
        rcases cs with _ | ⟨c, _ | ⟨c2, r⟩⟩
        · simp at h
        · cases c <;> simp at h
          rename_i s
          obtain ⟨hz, rfl⟩ := h
          refine ⟨.s s, .string s, rfl, ?_, ?_, fun hw => ?_⟩
          · simp only [RoD, roS]
            refine ⟨trivial, ?_⟩
            have : s.size ≤ maxLen := hz
            simp only [maxLen] at this
            omega
          · simp only [roM, roS, uptoBulk]
            have : s.data.toList.length = s.size := by simp
            omega
          · have := hw s.data.toList.length (by simp [DataW.weights])
            have e : s.data.toList.length = s.size := by simp
            simp only [roMx, roS]
            omega
        · simp at h
    · cases hs
  | .ints k, t, fuel, cs, x, hs, h => by
    simp only [shTyB] at hs
    split at hs
    · rename_i e hu
      split at hs
      · rename_i k' hue
        simp only [Bool.and_eq_true] at hs
        have hk := keq_eq hs.1
        subst hk
        have hbs : 0 < P.bytesOf e := by have := hs.2.2; simp [Nat.blt] at this; omega
        rcases open_ints hu hue (Nat.eq_of_beq_eq_true hs.2.1) h with ⟨rfl, rfl⟩ | ⟨a, len, cap, zs, rfl, h2, h3, h4, h5, h6, h7, h8⟩
        · refine ⟨.l [], .slice none 0 0, rfl, ?_, by simp [roM, roL, uptoBulk], fun _ => Nat.zero_le _⟩
          simp only [RoD]
          exact ⟨none, 0, rfl, Nat.le_refl _, by simp [roL], (fun z hz => by cases hz), .inr ⟨rfl, rfl⟩⟩
        · have hzl : zs.length = cap := by simpa using h5
          have hR : AllR k zs := fun z hz => by
            have := h8 z hz
            simp only [Lit.wf, Bool.and_eq_true, decide_eq_true_eq] at this
            cases k <;> simp [InR, IntKind.min, IntKind.max, IntKind.bits, IntKind.signed] at this ⊢ <;> omega
          have hlen : (zs.take len).length = len := by rw [List.length_take]; omega
          have hmax : cap ≤ 140737488355328 ∨ True := .inr trivial
          refine ⟨.l (zs.take len), .slice (some a) len cap, rfl, ?_, ?_, fun hw => ?_⟩
          · simp only [RoD]
            have er : roL (.l (zs.take len)) = zs.take len := rfl
            rw [er]
            refine ⟨some a, cap, by rw [hlen], by omega, ?_, fun z hz => hR z (List.mem_of_mem_take hz), ?_⟩
            · rw [hlen]; simp only [maxLen] at h4; omega
            · rcases Nat.eq_zero_or_pos cap with h0 | h0
              · exact .inr ⟨by omega, h0⟩
              · have h00 := h7 0 (by omega)
                rw [add_zero_addr] at h00
                obtain ⟨ha, hb⟩ := addr_of_cell h00
                refine .inl ⟨a.block, a.off, by rw [← ha], ⟨hb, fun h => h⟩, fun i u hu => ?_⟩
                rw [List.getElem?_map, Option.map_eq_some_iff] at hu
                obtain ⟨z, hz, rfl⟩ := hu
                rw [List.getElem?_take] at hz
                split at hz
                · rename_i hi
                  have := h7 i (by omega)
                  have ea : a.add i = ⟨a.block, a.off + i, none⟩ := by rw [ha]; exact Addr.add_mid _ _ _
                  rw [ea] at this
                  rw [this]
                  simp [List.getD, hz]
                · cases hz
          · rw [h6]
            simp only [roM, roL, uptoBulk]
            have := bulkAll_len (lits (H := H) k (zs.take len))
            have e : (lits (H := H) k (zs.take len)).length = (zs.take len).length := by simp [lits]
            omega
          · rw [h6] at hw
            have elen : ∀ l : List Int, (lits (H := H) k l).length = l.length := fun l => by simp [lits]
            have := hw (((lits (H := H) k (zs.take len)).length + (lits (H := H) k (zs.drop len)).length) * P.bytesOf e) (by simp [DataW.weights, hu])
            rw [elen, elen] at this
            have h9 : ((zs.take len).length + (zs.drop len).length) * 1 ≤ ((zs.take len).length + (zs.drop len).length) * P.bytesOf e := Nat.mul_le_mul_left _ hbs
            show (zs.take len).length ≤ N
            omega
      · cases hs
    · cases hs
  | .l sh, t, fuel, cs, x, hs, h => by
    simp only [shTyB] at hs
    split at hs
    · rename_i e hu
      simp only [Bool.and_eq_true] at hs
      obtain ⟨hs1, hs2, hs3, hs4⟩ := hs
      have hbs : 0 < P.bytesOf e := by simp [Nat.blt] at hs4; omega
      have hc := Nat.eq_of_beq_eq_true hs2
      have hpos : 0 < shSize sh := by simp [Nat.blt] at hs3; omega
      rcases DataW.trod_slice hu h with ⟨rfl, rfl⟩ | ⟨a, len, cap, elems, rest, n, rfl, rfl, rfl, hb, hl, hm, hlen, hel, hsp, hns⟩
      · refine ⟨.r [], .slice none 0 0, rfl, ?_, by simp [roM, roX, uptoBulk], fun _ => ⟨Nat.zero_le _, fun x hx => by cases hx⟩⟩
        simp only [RoD]
        exact ⟨none, 0, [], rfl, Nat.le_refl _, by simp [roX], rfl, .inr ⟨rfl, rfl⟩⟩
      · obtain ⟨hrl, hrest⟩ := hsp rfl
        have hall : ∀ i, i < cap → ∃ ccs y, W.cells? 0 (a.add (i * P.cellsOf e)) (P.cellsOf e) = some ccs ∧ DataW.trod enc P W 0 (fun _ => true) true n e ccs = some y ∧ (i < len → elems[i]? = some y) := fun i hi => by
          by_cases hil : i < len
          · have h1 := hel i hil
            have h2 : elems[i]? = some elems[i] := List.getElem?_eq_getElem (by omega)
            rw [h2, Option.bind_eq_some_iff] at h1
            obtain ⟨ccs, q1, q2⟩ := h1
            exact ⟨ccs, _, q1, q2, fun _ => h2⟩
          · have h1 := hrest (i - len) (by omega)
            have h2 : rest[i - len]? = some rest[i - len] := List.getElem?_eq_getElem (by omega)
            rw [h2, Option.bind_eq_some_iff, show len + (i - len) = i by omega] at h1
            obtain ⟨ccs, q1, q2⟩ := h1
            exact ⟨ccs, _, q1, q2, fun h => absurd h hil⟩
        have hblk : 0 < cap → a = ⟨a.block, a.off, none⟩ ∧ a.block < W.heap.size := fun h0 => by
          obtain ⟨ccs, y, q1, q2, _⟩ := hall 0 h0
          obtain ⟨_, q3, q4⟩ := World.cells?_some q1
          have := q4 0 (by omega)
          rw [Nat.zero_mul, add_zero_addr, add_zero_addr] at this
          obtain ⟨v, hv⟩ : ∃ v, ccs[0]? = some v := ⟨ccs[0]'(by omega), List.getElem?_eq_getElem _⟩
          rw [hv] at this
          exact addr_of_cell this
        have hchain : ∀ m, m ≤ len → ∃ ros cs', ros.length = m ∧ ChainR (RoD W (OutB W fun _ => False) sh) ros cs' ∧ cs'.length = shSize sh * m ∧ (∀ i u, cs'[i]? = some u → W.cell? (a.add i) = some u) ∧ ros.length + (ros.map (roM sh)).sum ≤ uptoBulkAll ((elems.take m).map (·.1)) ∧ ((∀ y ∈ elems, ∀ n ∈ y.1.weights P e, n ≤ N) → ∀ ro ∈ ros, roMx N sh ro) := by
          intro m
          induction m with
          | zero => intro _; exact ⟨[], [], rfl, rfl, by simp, (fun i u h => by simp at h), by simp, fun _ x hx => by cases hx⟩
          | succ m ih =>
            intro hm'
            obtain ⟨ros, cs', r1, r2, r3, r4, r5, r6⟩ := ih (by omega)
            obtain ⟨ccs, y, q1, q2, q3⟩ := hall m (by omega)
            have q3 := q3 (by omega)
            obtain ⟨ro, v, rfl, s2, s3, s4⟩ := trod_ro N sh e n ccs y hs1 q2
            obtain ⟨_, q5, q6⟩ := World.cells?_some q1
            have hvl := RoD_cells sh ro v s2
            refine ⟨ros ++ [ro], cs' ++ v.cells.toList, by simp [r1], ChainR.snoc s2 ros cs' r2, by rw [List.length_append, r3, hvl, Nat.mul_add]; omega, fun i u hu => ?_, ?_, fun hy ro' hr => ?_⟩
            · rcases Nat.lt_or_ge i cs'.length with hi | hi
              · rw [List.getElem?_append_left hi] at hu; exact r4 i u hu
              · rw [List.getElem?_append_right hi] at hu
                have hi2 : i - cs'.length < v.cells.toList.length := (List.getElem?_eq_some_iff.1 hu).1
                have := q6 (i - cs'.length) (by omega)
                rw [hu] at this
                have e1 : m * P.cellsOf e = cs'.length := by rw [hc, r3, Nat.mul_comm]
                rw [← this, add_add_addr, e1, Nat.add_sub_cancel' hi]
            · rw [List.map_append, List.sum_append, List.length_append, List.take_add_one, q3, List.map_append, bulkAll_app]
              simp only [List.map_cons, List.map_nil, List.sum_cons, List.sum_nil, List.length_cons, List.length_nil, Option.toList_some, uptoBulkAll]
              omega
            · rcases List.mem_append.1 hr with hr | hr
              · exact r6 hy ro' hr
              · simp only [List.mem_cons, List.not_mem_nil, or_false] at hr
                subst hr
                exact s4 fun k hk => hy y (List.mem_of_getElem? q3) k hk
        obtain ⟨ros, cs', r1, r2, r3, r4, r5, r6⟩ := hchain len (Nat.le_refl _)
        refine ⟨.r ros, .slice (some a) len cap, rfl, ?_, ?_, fun hw => ⟨?_, ?_⟩⟩
        · simp only [RoD]
          have er : roX (.r ros) = ros := rfl
          rw [er]
          refine ⟨some a, cap, cs', by rw [r1], by omega, ?_, r2, ?_⟩
          · rw [r1]; simp only [maxLen] at hm; omega
          · rcases Nat.eq_zero_or_pos cap with h0 | h0
            · exact .inr ⟨by omega, h0⟩
            · obtain ⟨ha, hb⟩ := hblk h0
              refine .inl ⟨a.block, a.off, by rw [← ha], ⟨hb, fun h => h⟩, fun i u hu => ?_⟩
              have := r4 i u hu
              have ea : a.add i = ⟨a.block, a.off + i, none⟩ := by rw [ha]; exact Addr.add_mid _ _ _
              rwa [ea] at this
        · simp only [roM, roX, uptoBulk]
          rw [List.take_of_length_le (by omega)] at r5
          have := bulkAll_len (elems.map (·.1))
          rw [List.length_map] at this
          omega
        · have := hw (((elems.map (·.1)).length + (rest.map (·.1)).length) * P.bytesOf e) (by simp [DataW.weights, hu])
          rw [List.length_map, List.length_map] at this
          have h9 : (elems.length + rest.length) * 1 ≤ (elems.length + rest.length) * P.bytesOf e := Nat.mul_le_mul_left _ hbs
          show ros.length ≤ N
          omega
        · refine r6 fun y hy k hk => hw k ?_
          simp only [DataW.weights, hu, List.mem_cons, List.mem_append]
          exact .inr (.inl (weightsAll_mem (List.mem_map.2 ⟨y, hy, rfl⟩) k hk))
    · cases hs
  | .arr n k, t, fuel, cs, x, hs, h => by
    simp only [shTyB] at hs
    split at hs
    · rename_i m e hu
      simp only [Bool.and_eq_true] at hs
      obtain ⟨h1, h2, h3, h4⟩ := hs
      have h1 := Nat.eq_of_beq_eq_true h1
      have h2 := Nat.eq_of_beq_eq_true h2
      have h3 := Nat.eq_of_beq_eq_true h3
      subst h1
      split at h4
      · rename_i k' hue
        have hk := keq_eq h4
        subst hk
        obtain ⟨xs, q, rfl, rfl, hl, hxl, hel⟩ := DataW.trod_array hu h
        have hcell : ∀ i, i < cs.length → ∃ z, cs[i]? = some (.int k z) ∧ InR k z := fun i hi => by
          have := hel i (by omega)
          rw [h3, Nat.mul_one, List.drop_eq_getElem_cons hi, List.take_succ_cons, List.take_zero, List.getElem?_eq_getElem (by omega)] at this
          cases q with
          | zero => simp [DataW.trod] at this
          | succ q =>
            unfold DataW.trod at this
            rw [hue] at this
            rw [List.getElem?_eq_getElem hi]
            generalize cs[i] = c at *
            cases c <;> simp at this
            rename_i k2 z
            obtain ⟨⟨rfl, hz⟩, _⟩ := this
            refine ⟨z, rfl, ?_⟩
            simp only [Lit.wf, Bool.and_eq_true, decide_eq_true_eq] at hz
            cases k2 <;> simp [InR, IntKind.min, IntKind.max, IntKind.bits, IntKind.signed] at hz ⊢ <;> omega
        have hall : ∀ (cs : List Value), (∀ i, i < cs.length → ∃ z, cs[i]? = some (.int k z) ∧ InR k z) → ∃ l : List Int, cs = l.map (Value.int k) ∧ AllR k l := by
          intro cs
          induction cs with
          | nil => intro _; exact ⟨[], rfl, fun z hz => by cases hz⟩
          | cons c r ih =>
            intro hc
            obtain ⟨l, e1, e2⟩ := ih fun i hi => by
              have := hc (i + 1) (by simpa using hi)
              simpa using this
            obtain ⟨z, z1, z2⟩ := hc 0 (by simp)
            simp only [List.getElem?_cons_zero, Option.some.injEq] at z1
            refine ⟨z :: l, by rw [List.map_cons, ← e1, z1], fun y hy => ?_⟩
            rcases List.mem_cons.1 hy with rfl | hy
            · exact z2
            · exact e2 y hy
        obtain ⟨l, e1, e2⟩ := hall cs hcell
        refine ⟨.l l, .agg (l.map (Value.int k)).toArray, by rw [e1]; simp [Value.cells], ?_, by simp [roM, uptoBulk], fun _ => trivial⟩
        simp only [RoD]
        have er : roL (.l l) = l := rfl
        rw [er]
        refine ⟨?_, e2, rfl⟩
        have : cs.length = l.length := by rw [e1, List.length_map]
        omega
      · cases h4
    · cases hs
  | .r fs, t, fuel, cs, x, hs, h => by
    simp only [shTyB] at hs
    split at hs
    · rename_i ff hu
      simp only [Bool.and_eq_true] at hs
      obtain ⟨xs, n, rfl, rfl, hl, hxl, hel⟩ := DataW.trod_struct hu h
      have hsz := Nat.eq_of_beq_eq_true hs.2
      obtain ⟨ros, r1, r2, r3, r4⟩ := trods_ro N fs ff.toList 0 n cs xs hs.1 (by simpa using hxl) (fun i f hf => hel i f (by simpa using hf)) (by omega)
      have r2 := r2 []
      have r3 := r3 []
      rw [List.drop_zero] at r2
      refine ⟨.r ros, .agg cs.toArray, by simp [Value.cells], ?_, ?_, fun hw => ?_⟩
      · simp only [RoD]
        exact ⟨cs, r2, rfl⟩
      · simp only [roM, uptoBulk]
        have : roMs fs (.r ros) 0 + fs.length ≤ uptoBulkAll (xs.map (·.1)) := r3
        omega
      · simp only [roMx]
        refine r4 (fun k hk => hw k ?_) []
        simp only [DataW.weights, hu]
        exact hk
    · cases hs
theorem trods_ro {H : Type} {enc : TypeId × Value → H} {W : World} (N : Nat) : ∀ (fs : List Sh) (ff : List Field) (o n : Nat) (cs : List Value) (xs : List (DataW H × List MemPlace)), shTysB P fs ff o = true → xs.length = ff.length →
    (∀ (i : Nat) (f : Field), ff[i]? = some f → DataW.trod enc P W 0 (fun _ => true) true n f.type ((cs.drop f.offset).take (P.cellsOf f.type)) = xs[i]?) → cs.length = o + shSizes fs →
    ∃ ros : List RO, ros.length = fs.length ∧ (∀ pre : List RO, RoCs W (OutB W fun _ => False) fs (.r (pre ++ ros)) pre.length (cs.drop o)) ∧ (∀ pre : List RO, roMs fs (.r (pre ++ ros)) pre.length + fs.length ≤ uptoBulkAll (xs.map (·.1))) ∧
      ((∀ k ∈ DataW.weightsEach P (ff.map (·.type)) (xs.map (·.1)), k ≤ N) → ∀ pre : List RO, roMxs N fs (.r (pre ++ ros)) pre.length)
  | [], ff, o, n, cs, xs, hs, hx, hel, hl => by
    refine ⟨[], rfl, fun pre => ?_, fun pre => by simp [roMs], fun _ pre => by simp only [roMxs]⟩
    simp only [RoCs]
    exact List.drop_eq_nil_of_le (by simp only [shSizes] at hl; omega)
  | s :: r, ff, o, n, cs, xs, hs, hx, hel, hl => by
    simp only [shTysB] at hs
    split at hs
    · rename_i f ff
      simp only [Bool.and_eq_true] at hs
      obtain ⟨h1, h2, h3, h4⟩ := hs
      have h1 := Nat.eq_of_beq_eq_true h1
      have h3 := Nat.eq_of_beq_eq_true h3
      rcases xs with _ | ⟨x, xt⟩
      · simp at hx
      simp only [shSizes] at hl
      have e0 := hel 0 f rfl
      rw [h1, h3] at e0
      obtain ⟨ro, v, q1, q2, q3, q4⟩ := trod_ro N s f.type n _ x h2 e0
      obtain ⟨ros, r1, r2, r3, r4⟩ := trods_ro N r ff (o + shSize s) n cs xt h4 (by simpa using hx) (fun i f' hf => by have := hel (i + 1) f' (by simpa using hf); simpa using this) (by omega)
      have hro : ∀ pre : List RO, roN (.r (pre ++ ro :: ros)) pre.length = ro := fun pre => by simp [roN, roX, List.getD_eq_getElem?_getD]
      have hpre : ∀ pre : List RO, (pre ++ [ro]) ++ ros = pre ++ ro :: ros := fun pre => by simp
      refine ⟨ro :: ros, by simp [r1], fun pre => ?_, fun pre => ?_, fun hw pre => ?_⟩
      · simp only [RoCs]
        refine ⟨v, cs.drop (o + shSize s), by rw [hro]; exact q2, ?_, ?_⟩
        · rw [← q1, ← List.drop_drop, List.take_append_drop]
        · have := r2 (pre ++ [ro])
          rw [hpre, List.length_append] at this
          exact this
      · have := r3 (pre ++ [ro])
        rw [hpre, List.length_append] at this
        have h5 : roMs r (.r (pre ++ ro :: ros)) (pre.length + 1) + r.length ≤ uptoBulkAll (xt.map (·.1)) := this
        simp only [roMs, hro, List.map_cons, uptoBulkAll, List.length_cons]
        omega
      · simp only [List.map_cons, DataW.weightsEach, List.mem_append] at hw
        have := r4 (fun k hk => hw k (.inr hk)) (pre ++ [ro])
        rw [hpre, List.length_append] at this
        simp only [roMxs, hro]
        exact ⟨q4 fun k hk => hw k (.inl hk), this⟩
    · cases hs
end

def slSh : Sh → Bool
  | .ints _ => true
  | .l _ => true
  | _ => false

/-- An argument that is a slice, as data. -/
theorem arg_ro {H : Type} {enc : TypeId × Value → H} {W : World} (N : Nat) (sh : Sh) {t : TypeId} {v : Value} {d : DataW H} {ps : List MemPlace} (hs : shTyB P sh t = true) (hsl : slSh sh = true) (hv : v.cells.toList = [v]) (h : DataW.Trod enc P W 0 (fun _ => true) true t v d ps) :
    ∃ ro, RoD W (OutB W fun _ => False) sh ro v ∧ (∃ ad n cap, v = .slice ad n cap) ∧ roM sh ro + 1 ≤ uptoBulk d ∧ ((∀ n ∈ d.weights P t, n ≤ N) → roMx N sh ro) := by
  obtain ⟨fuel, h⟩ := h
  obtain ⟨ro, u, e, q1, q2, q3⟩ := trod_ro N sh t fuel _ _ hs h
  have hu : ∃ ad n cap, u = .slice ad n cap := by
    cases sh <;> simp only [slSh, Bool.false_eq_true] at hsl <;> simp only [RoD] at q1
    · obtain ⟨a, cap, rfl, _⟩ := q1; exact ⟨_, _, _, rfl⟩
    · obtain ⟨a, cap, cs, rfl, _⟩ := q1; exact ⟨_, _, _, rfl⟩
  have huv : v = u := by
    obtain ⟨ad, n, cap, rfl⟩ := hu
    rw [hv] at e
    simpa [Value.cells] using e
  subst huv
  exact ⟨ro, q1, hu, q2, q3⟩

/-- A law as a call off a world that holds the globals. -/
theorem law_gen {Γ : Tab} (hΓ : TabOk P Γ) (hgl : Γ.gl = keysOf Γ.gh) (hlow : ∀ g ∈ keysOf Γ.gh, g < 490) {f : FuncId} {fn : Func} (hf : P.funcs[f]? = some fn) {av : List AV} {args' : List SV} {L : Loops} {K : List RV → List (Option (List Seg)) → Prop} {inv : Nat → List Pv → Nat → Prop}
    (k1 : okA 600 av args' []) (k2 : args'.length ≤ fn.ntmps) (k3 : VcG 0 Γ fn L (Γ.gh ++ (490, .world) :: []) args' K inv) (hK : ∀ rvs fin, K rvs fin → ∃ e, rvs = [.v (.b e true)])
    {W : World} {vs : List Value} (hG : Glob Γ.gh W fun _ => False) (hA : AsD W (OutB W fun _ => False) (fun _ => none) (fun _ => { blk := 0, off := 0, cap := 0 }) av vs []) :
    Calls P f vs.toArray W fun e w' => e = .returned (.bool true) ∧ Below W.heap.size W w' := by
  have hm := mem_start W fun _ => { blk := 0, off := 0, cap := 0 }
  obtain ⟨hh1, hh2⟩ := okA_heap av vs [] 600 args' [] hA k1
  obtain ⟨ρ1, m1, m2, m3, m4, m5⟩ := gen_mem hG hgl hlow hm (ks := []) (fun k hk => by cases hk) List.nodup_nil (M' := fun _ => False) (fun b => ⟨fun h => h.elim, fun ⟨k, hk, _⟩ => by cases hk⟩) hh1 hh2
  have hargs := okA_args m3 m4 av vs [] 600 args' [] hA k1 (fun i hi => by simp at hi)
  refine (vcG_calls hΓ hf k3 k2 m2 m1 hargs).mono fun e w' he => ?_
  obtain ⟨x, v, h', ρ', rfl, r1, r2, r3, r4⟩ := he
  obtain ⟨rvs', fin', t1, t3, t4, t5⟩ := kvG_sound r3 r2 r1
  obtain ⟨e, rfl⟩ := hK _ _ t1
  rcases t3 with ⟨r, hr, hd⟩ | ⟨hn, _⟩
  · simp only [List.cons.injEq, and_true] at hr
    subst hr
    simp only [RvD, D] at hd
    exact ⟨by rw [hd], r3.frame.below fun _ h => h⟩
  · exact absurd rfl hn

end
end Go.Gx

/- ScalarInverts: the inverses of all scalars of a list, asked again and again, are those of the document, each one its own; the list stays as it was, the room behind it too; what is handed out is the caller's; and so for the same list written over. For all lists whose scalars are not more than the cards' bound; the table lies as the program's text lays it. -/
namespace Go.Gx
open Go.Proofs Go.Sp Go.RowKit
open Go.Sp (prI mlL adL sbL pwL invL)
set_option linter.unusedVariables false
set_option maxRecDepth 100000
namespace ScalarInverts
def L13 : Loops := [(14, ⟨[.ro 490 shA (.r []), .any, .any, .sl 1000 0 4 ⟨true, .ofNat 0⟩ ⟨false, 0⟩, .any, .any, .any, .any, .sl 1001 0 4 ⟨true, .ofNat 0⟩ ⟨false, 0⟩, .i .i64 ⟨false, 0⟩] ++ reps .any 114, gW ++ [(1000, .segs false [.rowA .u64 4 []]), (1001, .segs false [.rowA .u64 4 []])], 2000⟩)]
def vc13 (d : RO) (K : List RV → List (Option (List Seg)) → Prop) (Q : Nat → List Pv → Prop) : Prop := fnVcG 0 Γ15i Tryd.f13 L13 [.ro 490 shA d] gW K Q
def lc13 (d : RO) (n m i : Int) (l c : List (List Int)) (K : List RV → List (Option (List Seg)) → Prop) (Q : Nat → List Pv → Prop) : Prop := loopVcG 0 Γ15i Tryd.f13 L13 14 [.ro d, .z n, .z m, .z i, .ll l, .ll c] K Q
theorem vc13_eq : ∀ (d : RO) (K : List RV → List (Option (List Seg)) → Prop) (Q : Nat → List Pv → Prop), vc13 d K Q = (Need ((((roX d).length : Int) + (2 : Int)) * (32 : Int) ≤ (140737488355328 : Int)) ∧ ∀ (x1 : List (List Int)), x1 = hndA d → AllA IntKind.u64 (4 : Nat) x1 → ∀ (x2 : Int), x2 = ↑(hndA d).length → (0 : Int) ≤ x2 → InR IntKind.i64 x2 → Need ((0 : Int) ≤ (0 : Int) ∧ (0 : Int) ≤ ((roX d).length : Int) ∧ ((roX d).length : Int) ≤ x2) ∧ Need ((0 : Int) + ((roX d).length : Int) ≤ ↑x1.length) ∧ Need (↑(roX (RO.r (List.map RO.l (List.take (((roX d).length : Int)).toNat (List.drop (0 : Nat) x1))))).length * (32 : Int) ≤ (140737488355328 : Int)) ∧ ∀ (x3 : List (List Int)), x3 = invsA (RO.r (List.map RO.l (List.take (((roX d).length : Int)).toNat (List.drop (0 : Nat) x1)))) → AllA IntKind.u64 (4 : Nat) x3 → ∀ (x4 : Int), x4 = ↑(invsA (RO.r (List.map RO.l (List.take (((roX d).length : Int)).toNat (List.drop (0 : Nat) x1))))).length → (0 : Int) ≤ x4 → InR IntKind.i64 x4 → ∀ (x5 : Int), x5 = IntKind.i64.wrap ((((roX d).length : Int)).tdiv (2 : Int)) → InR IntKind.i64 x5 → Need ((0 : Int) ≤ (0 : Int) ∧ (0 : Int) ≤ x5 ∧ x5 ≤ x2) ∧ Need ((0 : Int) + x5 ≤ ↑x1.length) ∧ Need (↑(roX (RO.r (List.map RO.l (List.take x5.toNat (List.drop (0 : Nat) x1))))).length * (32 : Int) ≤ (140737488355328 : Int)) ∧ ∀ (x6 : List (List Int)), x6 = invsA (RO.r (List.map RO.l (List.take x5.toNat (List.drop (0 : Nat) x1)))) → AllA IntKind.u64 (4 : Nat) x6 → ∀ (x7 : Int), x7 = ↑(invsA (RO.r (List.map RO.l (List.take x5.toNat (List.drop (0 : Nat) x1))))).length → (0 : Int) ≤ x7 → InR IntKind.i64 x7 → Need ((0 : Int) ≤ (0 : Int) ∧ (0 : Int) ≤ ((roX d).length : Int) ∧ ((roX d).length : Int) ≤ x2) ∧ Need ((0 : Int) + ((roX d).length : Int) ≤ ↑x1.length) ∧ Need (↑(roX (RO.r (List.map RO.l (List.take (((roX d).length : Int)).toNat (List.drop (0 : Nat) x1))))).length * (32 : Int) ≤ (140737488355328 : Int)) ∧ ∀ (x8 : List (List Int)), x8 = invsA (RO.r (List.map RO.l (List.take (((roX d).length : Int)).toNat (List.drop (0 : Nat) x1)))) → AllA IntKind.u64 (4 : Nat) x8 → ∀ (x9 : Int), x9 = ↑(invsA (RO.r (List.map RO.l (List.take (((roX d).length : Int)).toNat (List.drop (0 : Nat) x1))))).length → (0 : Int) ≤ x9 → InR IntKind.i64 x9 → Need ((0 : Int) + x4 ≤ ↑x3.length) ∧ Need (eqA (RO.r (List.map RO.l (List.take x4.toNat (List.drop (0 : Nat) x3)))) d) ∧ ∀ (x10 : Int), x10 = IntKind.i64.wrap ((((roX d).length : Int)).tdiv (2 : Int)) → InR IntKind.i64 x10 → Need ((0 : Int) ≤ (0 : Int) ∧ (0 : Int) ≤ x10 ∧ x10 ≤ ((roX d).length : Int)) ∧ Need ((0 : Int) + x7 ≤ ↑x6.length) ∧ Need (eqA (RO.r (List.map RO.l (List.take x7.toNat (List.drop (0 : Nat) x6)))) (RO.r (List.take (x10 - (0 : Int)).toNat (List.drop (0 : Nat) (roX d))))) ∧ Need ((0 : Int) + x9 ≤ ↑x8.length) ∧ Need (eqA (RO.r (List.map RO.l (List.take x9.toNat (List.drop (0 : Nat) x8)))) d) ∧ Need ((0 : Int) + x2 ≤ ↑x1.length) ∧ Need (styA (RO.r (List.map RO.l (List.take x2.toNat (List.drop (0 : Nat) x1)))) d) ∧ Need (ap3 x4 x7 x9 x3 x6 x8) ∧ Need ((0 : Int) ≤ (0 : Int) ∧ (0 : Int) ≤ ((roX d).length : Int) ∧ ((roX d).length : Int) ≤ x2) ∧ Need ((0 : Int) + ((roX d).length : Int) ≤ ↑x1.length) ∧ Need (↑(roX (RO.r (List.map RO.l (List.take (((roX d).length : Int)).toNat (List.drop (0 : Nat) x1))))).length * (32 : Int) ≤ (140737488355328 : Int)) ∧ ∀ (x11 : List (List Int)), x11 = invsA (RO.r (List.map RO.l (List.take (((roX d).length : Int)).toNat (List.drop (0 : Nat) x1)))) → AllA IntKind.u64 (4 : Nat) x11 → ∀ (x12 : Int), x12 = ↑(invsA (RO.r (List.map RO.l (List.take (((roX d).length : Int)).toNat (List.drop (0 : Nat) x1))))).length → (0 : Int) ≤ x12 → InR IntKind.i64 x12 → Need ((0 : Int) + x12 ≤ ↑x11.length) ∧ Need (eqA (RO.r (List.map RO.l (List.take x12.toNat (List.drop (0 : Nat) x11)))) d) ∧ ∀ (x13 : Int), x13 = (1 : Int) → InR IntKind.u64 x13 → ∀ (x14 : Int), x14 = (0 : Int) → InR IntKind.u64 x14 → ∀ (x15 : Int), x15 = (0 : Int) → InR IntKind.u64 x15 → ∀ (x16 : Int), x16 = (0 : Int) → InR IntKind.u64 x16 → Need ((1 : Int) ≤ ↑[[x13, x14, x15, x16]].length) ∧ Need (↑(roX (RO.r (List.map RO.l (List.take (1 : Nat) (List.drop (0 : Nat) [[x13, x14, x15, x16]]))))).length * (32 : Int) ≤ (140737488355328 : Int)) ∧ ∀ (x17 : List (List Int)), x17 = invsA (RO.r (List.map RO.l (List.take (1 : Nat) (List.drop (0 : Nat) [[x13, x14, x15, x16]])))) → AllA IntKind.u64 (4 : Nat) x17 → ∀ (x18 : Int), x18 = ↑(invsA (RO.r (List.map RO.l (List.take (1 : Nat) (List.drop (0 : Nat) [[x13, x14, x15, x16]]))))).length → (0 : Int) ≤ x18 → InR IntKind.i64 x18 → Need ((0 : Int) + x2 ≤ ↑x1.length) ∧ Need (styA (RO.r (List.map RO.l (List.take x2.toNat (List.drop (0 : Nat) x1)))) d) ∧ ((x18 != (1 : Int)) = true → K [RV.v (SV.b true false)] []) ∧ ((x18 != (1 : Int)) = false → Need ((0 : Int) ≤ (0 : Int) ∧ (0 : Int) < x18) ∧ Need (((0 : Nat) + (4 : Nat) * (0 : Nat)) / (4 : Nat) < x17.length) ∧ ((!([(x17.getD (((0 : Nat) + (4 : Nat) * (0 : Nat)) / (4 : Nat)) []).getD (0 : Nat) (0 : Int), (x17.getD (((0 : Nat) + (4 : Nat) * (0 : Nat)) / (4 : Nat)) []).getD (1 : Nat) (0 : Int), (x17.getD (((0 : Nat) + (4 : Nat) * (0 : Nat)) / (4 : Nat)) []).getD (2 : Nat) (0 : Int), (x17.getD (((0 : Nat) + (4 : Nat) * (0 : Nat)) / (4 : Nat)) []).getD (3 : Nat) (0 : Int)] == [(1 : Int), (0 : Int), (0 : Int), (0 : Int)])) = true → K [RV.v (SV.b true false)] []) ∧ ((!([(x17.getD (((0 : Nat) + (4 : Nat) * (0 : Nat)) / (4 : Nat)) []).getD (0 : Nat) (0 : Int), (x17.getD (((0 : Nat) + (4 : Nat) * (0 : Nat)) / (4 : Nat)) []).getD (1 : Nat) (0 : Int), (x17.getD (((0 : Nat) + (4 : Nat) * (0 : Nat)) / (4 : Nat)) []).getD (2 : Nat) (0 : Int), (x17.getD (((0 : Nat) + (4 : Nat) * (0 : Nat)) / (4 : Nat)) []).getD (3 : Nat) (0 : Int)] == [(1 : Int), (0 : Int), (0 : Int), (0 : Int)])) = false → Need ((([] ++ List.map roL (roX d)).length : Int) * (32 : Int) ≤ (140737488355328 : Int)) ∧ Need ((0 : Int) = (0 : Int)) ∧ ∀ (x19 : List (List Int)), x19 = [] ++ List.map roL (roX d) → AllA IntKind.u64 (4 : Nat) x19 → ∀ (x20 : Int), x20 = (([] ++ List.map roL (roX d)).length : Int) → (0 : Int) ≤ x20 → InR IntKind.i64 x20 → Same Tryd.f13 (14 : Nat) (itemsOf Tryd.f13 (14 : Nat)) ∧ Q (14 : Nat) [Pv.ro d, Pv.z x2, Pv.z x20, Pv.z (0 : Int), Pv.ll x1, Pv.ll x19]))) := by
  intros
  kernel_rfl

theorem lc13_eq : ∀ (d : RO) (n m i : Int) (l c : List (List Int)) (K : List RV → List (Option (List Seg)) → Prop) (Q : Nat → List Pv → Prop), lc13 d n m i l c K Q = ((decide (i < ((roX d).length : Int)) = true → ∀ (x1 : Int), x1 = IntKind.u64.wrap i → InR IntKind.u64 x1 → ∀ (x2 : Int), x2 = IntKind.u64.wrap (x1 + (3 : Int)) → InR IntKind.u64 x2 → Need ((0 : Int) ≤ i ∧ i < ((roX d).length : Int)) ∧ ∀ (x3 : Int), x3 = (roL (roN d i.toNat)).getD (1 : Nat) (0 : Int) → InR IntKind.u64 x3 → Need ((0 : Int) ≤ i ∧ i < n) ∧ Need ((0 : Int) ≤ i ∧ i < ↑l.length) ∧ ∀ (x4 : List (List Int)), x4 = l.set i.toNat [x2, x3, (0 : Int), (0 : Int)] → AllA IntKind.u64 (4 : Nat) x4 → Need ((0 : Int) ≤ i ∧ i < n) ∧ Need ((0 : Int) ≤ i ∧ i < ↑x4.length) ∧ ∀ (x5 : Int), x5 = (x4.getD i.toNat []).getD (0 : Nat) (0 : Int) → InR IntKind.u64 x5 → ∀ (x6 : Int), x6 = (x4.getD i.toNat []).getD (1 : Nat) (0 : Int) → InR IntKind.u64 x6 → ∀ (x7 : Int), x7 = (x4.getD i.toNat []).getD (2 : Nat) (0 : Int) → InR IntKind.u64 x7 → ∀ (x8 : Int), x8 = (x4.getD i.toNat []).getD (3 : Nat) (0 : Int) → InR IntKind.u64 x8 → Need ((0 : Int) ≤ i ∧ i < m) ∧ Need ((0 : Int) ≤ i ∧ i < ↑c.length) ∧ ∀ (x9 : List (List Int)), x9 = c.set i.toNat [x5, x6, x7, x8] → AllA IntKind.u64 (4 : Nat) x9 → ∀ (x10 : Int), x10 = IntKind.i64.wrap (i + (1 : Int)) → InR IntKind.i64 x10 → Same Tryd.f13 (14 : Nat) (itemsOf Tryd.f13 (14 : Nat)) ∧ Q (14 : Nat) [Pv.ro d, Pv.z n, Pv.z m, Pv.z x10, Pv.ll x4, Pv.ll x9]) ∧ (decide (i < ((roX d).length : Int)) = false → Need ((0 : Int) ≤ (0 : Int) ∧ (0 : Int) ≤ ((roX d).length : Int) ∧ ((roX d).length : Int) ≤ n) ∧ Need ((0 : Int) + ((roX d).length : Int) ≤ ↑l.length) ∧ Need (↑(roX (RO.r (List.map RO.l (List.take (((roX d).length : Int)).toNat (List.drop (0 : Nat) l))))).length * (32 : Int) ≤ (140737488355328 : Int)) ∧ ∀ (x11 : List (List Int)), x11 = invsA (RO.r (List.map RO.l (List.take (((roX d).length : Int)).toNat (List.drop (0 : Nat) l)))) → AllA IntKind.u64 (4 : Nat) x11 → ∀ (x12 : Int), x12 = ↑(invsA (RO.r (List.map RO.l (List.take (((roX d).length : Int)).toNat (List.drop (0 : Nat) l))))).length → (0 : Int) ≤ x12 → InR IntKind.i64 x12 → Need ((0 : Int) + x12 ≤ ↑x11.length) ∧ Need ((0 : Int) + m ≤ ↑c.length) ∧ Need (eqA (RO.r (List.map RO.l (List.take x12.toNat (List.drop (0 : Nat) x11)))) (RO.r (List.map RO.l (List.take m.toNat (List.drop (0 : Nat) c))))) ∧ K [RV.v (SV.b true true)] [])) := by
  intros
  kernel_rfl

/-- A list's scalars. -/
def mp (d : RO) : List (List Int) := (roX d).map roL
theorem mp_len (d : RO) : (mp d).length = (roX d).length := List.length_map _
theorem rl (l : List (List Int)) : mp (.r (l.map RO.l)) = l := by
  show (l.map RO.l).map roL = l
  rw [List.map_map]
  exact List.map_id'' (fun _ => rfl) l
theorem rlen (l : List (List Int)) : (roX (.r (l.map RO.l))).length = l.length := List.length_map _
theorem inv_cong {a b : RO} (h : mp a = mp b) : invsA a = invsA b := by
  have e : ∀ d, vsA d = (mp d).map val4 := fun d => by unfold vsA mp; rw [List.map_map]; rfl
  unfold invsA
  rw [e, e, h]
theorem inv_len (d : RO) : (invsA d).length = (roX d).length := by unfold invsA; rw [List.length_map, vsA_len]
/-- A list of inverses, as it is seen. -/
theorem eq_of {x : List (List Int)} {m : Int} {a c : RO} (hx : x = invsA a) (hm : m = (x.length : Int)) (h : mp a = mp c) : eqA (.r (List.map RO.l (List.take m.toNat (List.drop 0 x)))) c := by
  rw [List.drop_zero, hm, Int.toNat_natCast, List.take_length]
  show mp _ = _
  rw [rl, hx, inv_cong h]
theorem hnd_len (d : RO) : (hndA d).length = (roX d).length + 2 := by unfold hndA; simp
theorem hnd_take (d : RO) {h : Nat} (hh : h ≤ (roX d).length) : List.take h (List.drop 0 (hndA d)) = (mp d).take h := by
  rw [List.drop_zero]
  exact List.take_append_of_le_length (by rw [List.length_map]; exact hh)
theorem hnd_all (d : RO) : List.take (roX d).length (List.drop 0 (hndA d)) = mp d := by
  rw [hnd_take d (Nat.le_refl _), List.take_of_length_le (by rw [mp_len]; exact Nat.le_refl _)]
theorem sty_of (d : RO) : styA (.r (List.map RO.l (List.take ((roX d).length + 2) (List.drop 0 (hndA d))))) d := by
  show mp _ = _
  rw [rl, List.drop_zero, List.take_of_length_le (by rw [hnd_len]; exact Nat.le_refl _)]
theorem inv_1 : invsA (.r (List.map RO.l (List.take 1 (List.drop 0 [[1, 0, 0, 0]])))) = [[1, 0, 0, 0]] := by
  show [words4 (invL 1)] = _
  rw [← inv_one (a := 1) (x := 1) (by decide) (by decide)]
  rfl
def inv13 (d : RO) (key : Nat) (ps : List Pv) (mm : Nat) : Prop := key = 14 ∧ ∃ (k : Nat) (l c : List (List Int)), k ≤ (roX d).length ∧ l.length = (roX d).length + 2 ∧ c.length = (roX d).length ∧ (∀ j, j < k → l.getD j [] = c.getD j []) ∧
  ps = [.ro d, .z (((roX d).length + 2 : Nat) : Int), .z ((roX d).length : Int), .z (k : Int), .ll l, .ll c] ∧ mm = (roX d).length - k
theorem take_eq {l c : List (List Int)} (hl : c.length ≤ l.length) (h : ∀ j, j < c.length → l.getD j [] = c.getD j []) : List.take c.length l = c := by
  refine List.ext_getElem (by rw [List.length_take]; omega) fun j h1 h2 => ?_
  have := h j h2
  rw [List.getD_eq_getElem?_getD, List.getD_eq_getElem?_getD, List.getElem?_eq_getElem h2, List.getElem?_eq_getElem (by omega)] at this
  rw [List.getElem_take]
  exact this
set_option maxHeartbeats 1000000 in
theorem law (W : World) (hG : Glob gh W fun _ => False) (d : RO) (v : Value) (hv : RoD W (OutB W fun _ => False) (.l (.arr 4 .u64)) d v) (hs : ∃ ad n cap, v = .slice ad n cap) (hx' : roMx reachBytes (.l (.arr 4 .u64)) d)
    (hM : roM (.l (.arr 4 .u64)) d ≤ 1048576) :
    Calls Tryd.prog 13 #[v] W fun e w' => e = .returned (.bool true) ∧ Below W.heap.size W w' := by
  have hM : (roX d).length + ((roX d).map (roM (.arr 4 .u64))).sum ≤ 1048576 := hM
  have hN : (roX d).length ≤ 1048576 := by omega
  refine law_gen Γ15i_ok rfl glowS rfl (fn := Tryd.f13) (L := L13) (av := [.d (.l (.arr 4 .u64)) d]) (args' := [.ro 490 shA d]) (K := fun rvs fin => ∃ e, rvs = [.v (.b e true)]) (inv := inv13 d) ⟨rfl, trivial⟩ (Nat.le_of_ble_eq_true (by kernel_rfl)) ⟨?_, ?_, ?_⟩ (fun _ _ h => h) hG ⟨v, _, rfl, hv, rfl, rfl⟩
  · intro kk t ht g hg
    have hg : g ∈ [0, 490] := hg
    simp only [List.mem_cons, List.not_mem_nil, or_false] at hg
    simp only [L13, List.mem_cons, List.not_mem_nil, or_false, Prod.mk.injEq] at ht
    obtain ⟨rfl, rfl⟩ := ht
    rcases hg with rfl | rfl <;> exact ⟨by omega, rfl⟩
  · rintro vk t ps mm ht ⟨rfl, k, l, c, hk, hl, hc, heq, rfl, rfl⟩
    simp only [L13, List.mem_cons, List.not_mem_nil, or_false, Prod.mk.injEq, true_and] at ht
    subst ht
    show lc13 d (((roX d).length + 2 : Nat) : Int) ((roX d).length : Int) (k : Int) l c _ _
    rw [lc13_eq]
    refine ⟨fun hlt => ?_, fun hge => ?_⟩
    · have hlt := of_decide_eq_true hlt
      intro x1 e1 _ x2 e2 _
      simp only [Int.toNat_natCast]
      refine ⟨need_of (by omega), fun x3 e3 _ => ⟨need_of (by omega), need_of (by omega), fun x4 e4 _ => ?_⟩⟩
      have h4 : x4.length = (roX d).length + 2 := by rw [e4]; simpa using hl
      have g4 : x4.getD k [] = [x2, x3, 0, 0] := by rw [e4]; exact getD_set_self (by omega)
      rw [g4]
      refine ⟨need_of (by omega), need_of (by omega), fun x5 e5 _ x6 e6 _ x7 e7 _ x8 e8 _ => ⟨need_of (by omega), need_of (by omega), fun x9 e9 _ x10 e10 _ => ?_⟩⟩
      rw [wrap_i64 (by omega)] at e10
      refine ⟨rfl, (roX d).length - (k + 1), by omega, rfl, k + 1, x4, x9, by omega, h4, (by rw [e9]; simpa using hc), fun j hj => ?_, ?_, rfl⟩
      · by_cases e : j = k
        · subst e
          rw [g4, e9, getD_set_self (by omega), e5, e6, e7, e8]; rfl
        · rw [e4, e9, getD_set_ne e, getD_set_ne e]
          exact heq j (by omega)
      · rw [e10]; rfl
    · have hge := of_decide_eq_false hge
      have hkN : k = (roX d).length := by omega
      simp only [Int.toNat_natCast]
      have ht : List.take (roX d).length (List.drop 0 l) = c := by
        rw [List.drop_zero, ← hc]
        exact take_eq (by omega) fun j hj => heq j (by omega)
      have ht2 : List.take (roX d).length (List.drop 0 c) = c := by rw [List.drop_zero, ← hc, List.take_length]
      rw [ht, ht2, rlen, inv_len, rlen, hc]
      refine ⟨need_of (by omega), need_of (by omega), need_of (by omega), fun x11 e11 _ x12 e12 _ _ => ?_⟩
      have l11 : x11.length = (roX d).length := by rw [e11, inv_len, rlen, hc]
      exact ⟨need_of (by omega), need_of (by omega), need_of (eq_of e11 (by rw [e12, l11]) rfl), true, rfl⟩
  · show vc13 d _ _
    rw [vc13_eq]
    have ha := hnd_all d
    have hl := hnd_len d
    refine ⟨need_of (by omega), fun x1 e1 _ x2 e2 _ _ => ?_⟩
    rw [hl] at e2
    subst e1
    simp only [Int.toNat_natCast, ha, rlen, inv_len, mp_len]
    refine ⟨need_of (by omega), need_of (by omega), need_of (by omega), fun x3 e3 _ x4 e4 _ _ x5 e5 _ => ?_⟩
    have hh : ((roX d).length : Int).tdiv 2 = (((roX d).length / 2 : Nat) : Int) := by rw [Int.tdiv_eq_ediv_of_nonneg (by omega)]; omega
    rw [hh, wrap_i64 (by omega)] at e5
    have h5 : x5.toNat = (roX d).length / 2 := by omega
    have hle : (roX d).length / 2 ≤ (roX d).length := by omega
    rw [h5, hnd_take d hle, List.length_take, mp_len]
    have l3 : x3.length = (roX d).length := by rw [e3, inv_len, rlen, mp_len]
    refine ⟨need_of (by omega), need_of (by omega), need_of (by omega), fun x6 e6 _ x7 e7 _ _ => ?_⟩
    have l6 : x6.length = (roX d).length / 2 := by rw [e6, inv_len, rlen, List.length_take, mp_len]; omega
    refine ⟨need_of (by omega), need_of (by omega), need_of (by omega), fun x8 e8 _ x9 e9 _ _ => ?_⟩
    have l8 : x8.length = (roX d).length := by rw [e8, inv_len, rlen, mp_len]
    refine ⟨need_of (by omega), need_of (eq_of e3 (by omega) (rl _)), fun x10 e10 _ => ?_⟩
    rw [hh, wrap_i64 (by omega)] at e10
    refine ⟨need_of (by omega), need_of (by omega), need_of (eq_of e6 (by omega) ?_), need_of (by omega), need_of (eq_of e8 (by omega) (rl _)), need_of (by omega), need_of ?_, need_of ⟨by omega, by omega, by omega, by omega, by omega, by omega⟩, need_of (by omega), need_of (by omega), need_of (by omega), fun x11 e11 _ x12 e12 _ _ => ?_⟩
    · rw [rl, List.drop_zero, show (x10 - 0).toNat = (roX d).length / 2 by omega]
      show _ = ((roX d).take _).map roL
      rw [List.map_take]; rfl
    · rw [show x2.toNat = (roX d).length + 2 by omega]
      exact sty_of d
    have l11 : x11.length = (roX d).length := by rw [e11, inv_len, rlen, mp_len]
    refine ⟨need_of (by omega), need_of (eq_of e11 (by omega) (rl _)), fun x13 e13 _ x14 e14 _ x15 e15 _ x16 e16 _ => ?_⟩
    subst e13 e14 e15 e16
    rw [inv_1]
    refine ⟨need_of (by decide), need_of (by decide), fun x17 e17 _ x18 e18 _ _ => ⟨need_of (by omega), need_of ?_, ?_⟩⟩
    · rw [show x2.toNat = (roX d).length + 2 by omega]
      exact sty_of d
    have e18 : x18 = 1 := e18
    subst e17 e18
    refine ⟨fun h => by simp at h, fun _ => ⟨need_of (by omega), need_of (by decide), fun h => by simp at h, fun _ => ?_⟩⟩
    have hml : (([] : List (List Int)) ++ List.map roL (roX d)).length = (roX d).length := by rw [List.nil_append, List.length_map]
    rw [hml]
    refine ⟨need_of (by omega), need_of trivial, fun x19 e19 _ x20 e20 _ _ => ⟨rfl, (roX d).length - 0, rfl, 0, hndA d, x19, Nat.zero_le _, hl, by rw [e19, hml], fun j hj => by omega, ?_, rfl⟩⟩
    rw [e2, e20]; rfl
end ScalarInverts

namespace ScalarInverts
open Go.Proofs.YtnjcbedjhokfhaaDoor
open Go.ChangeShapes Go.WideShapes Go.ChangeAt Go.RowKit
theorem reads (t : Nat) (h : t ∈ Tryd.f13.params.toList) : Tryd.prog.readableRec t = true ∧ t < Tryd.prog.types.size := by
  have hp : Tryd.f13.params.toList = [80] := by kernel_rfl
  rw [hp] at h
  simp only [List.mem_cons, List.not_mem_nil, or_false] at h
  subst h
  exact ⟨by kernel_rfl, Nat.le_of_ble_eq_true (by kernel_rfl)⟩

set_option maxRecDepth 100000 in
/-- What the call gives, for every argument and every world that holds the tables. -/
theorem contract (H : Type) (enc : TypeId × Value → H) (W : World) (base : Nat) (args : Array Value) (ds gs : List (DataW H)) (before : List MemPlace)
    (hval : ∀ (j : Nat) t v, Tryd.f13.params[j]? = some t → args[j]? = some v → Value.okWide Tryd.prog W .any base t v)
    (hW : DataW.Whole enc Tryd.prog Tryd.f13.params.toList Rows.scalarInvertsSpec.vars false W args.toList ds gs before)
    (hw : (DataW.weightsEach Tryd.prog (Tryd.f13.params.toList ++ (Rows.OpenSpec.upto Rows.scalarInvertsSpec).bare.plain.varTypes Tryd.prog) (ds ++ gs)).all (· ≤ reachBytes) = true) (hL : laidMetH Tryd.prog Rows.scalarInvertsUptoRow.laid W) (hC : Rows.uptoSmall H (ds ++ gs) = true) :
    Calls Tryd.prog 13 args W fun e W' => ∃ v, e = .returned v ∧ Rows.scalarInvertsSpec.post enc Tryd.prog Tryd.f13 false true false false W args v W' := by
  have hA : DataW.TrodAll enc Tryd.prog W 0 (fun _ => true) true [80] args.toList ds _ := hW.choose_spec.choose_spec.1
  obtain ⟨v0, vs0, d0, ds0, p0, q0, hargs, hds, _, h0, r0⟩ := trodAll_cons hA
  obtain ⟨rfl, hdsn, _⟩ := trodAll_nil r0
  obtain rfl : args = #[v0] := by cases args; simp_all
  have hds : ds = [d0] := by rw [hds, hdsn]
  have hp : Tryd.f13.params = #[80] := by kernel_rfl
  rw [hp] at hval
  have hp2 : Tryd.f13.params.toList = [80] := by kernel_rfl
  rw [hds, hp2] at hw
  have hC : Rows.uptoBulkAll (ds ++ gs) ≤ 1048576 := of_decide_eq_true hC
  rw [hds, bulkAll_app] at hC
  simp only [Rows.uptoBulkAll] at hC
  have hc0 : v0.cells.toList = [v0] := by
    obtain ⟨a, len, cap, e⟩ := okWide_slice (e := 24) (by kernel_rfl) (hval 0 80 v0 rfl rfl)
    rw [e]; rfl
  obtain ⟨o0, e0, s0, b0, x0⟩ := arg_ro reachBytes (.l (.arr 4 .u64)) (by kernel_rfl) rfl hc0 h0
  have x0 := x0 fun n hn => by simpa using List.all_eq_true.1 hw n (DataW.weights_mem_each (j := 0) rfl rfl n hn)
  refine (law W (tab_glob hL) o0 v0 e0 s0 x0 (by omega)).mono fun e W' ⟨he, hB⟩ => ?_
  subst he
  refine ⟨_, rfl, post_true (tb := 4) laidOut rfl (by kernel_rfl) (by kernel_rfl) reads ?_ hW hB⟩
  intro ds hds
  have hds : ds.length = 1 := hds
  match ds, hds with
  | [a0], _ => exact ⟨rfl, rfl, rfl⟩

def wargs : Array Value := #[.slice none 0 0]
theorem laid_met (os : Os) : laidMet Tryd.prog Rows.scalarInvertsUptoRow.laid ((laidWorld os).forCall (fun _ _ => 0) ⟨#[], wargs, []⟩).memory :=
  laidMet_of_run' 8 (by kernel_rfl) (by kernel_rfl)
theorem reads0 (os : Os) {H : Type} (enc : TypeId × Value → H) : ∃ places, DataW.whole enc Tryd.prog ((laidWorld os).forCall (fun _ _ => 0) ⟨#[], wargs, []⟩).memory Tryd.f13.params.toList Rows.scalarInvertsSpec.vars false wargs.toList 8 = some ([.nil], [], places) :=
  ⟨[], by kernel_rfl⟩

set_option maxRecDepth 100000 in
theorem lifted (os : Os) (started : os.Started) (H : Type) (enc : TypeId × Value → H) (F : Stop.Interp) :
    ReturnsInHanded {} Tryd.checked os 13 .any ((Rows.OpenSpec.upto Rows.scalarInvertsSpec).preRow enc Tryd.prog Tryd.f13 Rows.scalarInvertsUptoRow.domain false Rows.scalarInvertsUptoRow.laid) (((Rows.OpenSpec.upto Rows.scalarInvertsSpec).at F).post enc Tryd.prog Tryd.f13 false true false false) := by
  obtain ⟨places, hx⟩ := reads0 os enc
  refine returnsInHanded_of_row (C := Tryd.checked) (s := (Rows.OpenSpec.upto Rows.scalarInvertsSpec)) own started (by kernel_rfl) Tryd.func13
    (witness_row_at (enc := enc) (C := Tryd.checked) false (laidWorld os) wargs rfl (by kernel_rfl) (by kernel_rfl) (by kernel_rfl)
      (OpenSpec.preRow_of_cond 8 hx (by kernel_rfl) (fun k hk => by cases hk; kernel_rfl) (by kernel_rfl) (laid_met os))) ?_
  intro W base args ds gs before hval hW _ hcond hw hL _ _
  exact contract H enc W base args ds gs before hval hW hw hL (hcond _ rfl)

theorem said : Rows.ScalarInvertsUptoSaid :=
  OpenClaim.holds_of_cond 13 Tryd.f13 rfl rfl rfl rfl rfl rfl rfl ⟨rfl, rfl, rfl, rfl, rfl⟩ rfl rfl rfl rfl rfl (by kernel_rfl) Tryd.func13 (by kernel_rfl)
    (of_decide_eq_true (by kernel_rfl)) (by unfold Func.isWrapper; first | (rw [if_pos (by decide +kernel)]; kernel_rfl) | (rw [if_neg (by decide +kernel)]; exact ⟨rfl, rfl⟩))
    (fun os started H enc _ F => by rw [OpenClaim.pre_eq_preRow]; exact lifted os started H enc F)

theorem plain (f : FuncId) (fn : Func) (hf : Tryd.pinned.checked.prog.funcNamed "veil/veillaw02.ScalarInverts" = some f) (hfn : Tryd.pinned.checked.prog.funcs[f]? = some fn) :
    false = Tryd.pinned.checked.prog.looks [] ∧ ∀ (j : Nat) t, fn.params[j]? = some t → Tryd.pinned.checked.prog.wantsStandIn t = false := by
  obtain rfl : f = 13 := Option.some.inj ((show Tryd.prog.funcNamed "veil/veillaw02.ScalarInverts" = some 13 by kernel_rfl).symm.trans hf) |>.symm
  obtain rfl : fn = Tryd.f13 := (Option.some.inj (Tryd.func13.symm.trans hfn)).symm
  refine ⟨by kernel_rfl, fun j t ht => ?_⟩
  have hp : Tryd.f13.params = #[80] := by kernel_rfl
  rw [hp] at ht
  have := Array.mem_of_getElem? ht
  simp only [List.mem_toArray, List.mem_cons, List.not_mem_nil, or_false] at this
  subst this
  exact (show Tryd.prog.wantsStandIn _ = false by kernel_rfl)

theorem card : Rows.ScalarInvertsUptoCardSaid :=
  Claim7.holds_tied_plain_at .later [] _ _ _ _ said (fun _ h => by cases h) (by kernel_rfl) (fun _ h => by cases h) scalarInvertsUpto_row_tie rfl ⟨rfl, rfl⟩ (by kernel_rfl) rfl plain (by kernel_rfl)
end ScalarInverts
end Go.Gx

namespace Go.Proofs.YtnjcbedjhokfhaaDoor
theorem scalarInvertsProved : Rows.ScalarInvertsUptoCardSaid := Go.Gx.ScalarInverts.card
end Go.Proofs.YtnjcbedjhokfhaaDoor
#print axioms Go.Proofs.YtnjcbedjhokfhaaDoor.scalarInvertsProved
