/- TranscriptNames: a frame's length, its first and its last byte; a new transcript's state is the hash of its frame. The tables lie as the program's text lays them. -/
import Derived.Test.YthgclfedhgmpiaaDoorM5
import Derived.Test.YthgclfedhgmpiaaDoorM4
import Derived.Test.YthgclfedhgmpiaaDoorRows

/- A law off a world that holds the globals: its arguments as data that is only read. -/
namespace Go.Gx
open Go.RowKit Go.ChangeShapes Go.WideShapes Go.ChangeAt
open Go.Proofs.YthgclfedhgmpiaaDoor.Rows (uptoBulk uptoBulkAll uptoSmall)
set_option linter.unusedVariables false

def shTyB (P : Program) : Sh → TypeId → Bool
  | .i k, t => (match P.underlying t with | some (.int k') => keq k k' | _ => false)
  | .tb, t => (match P.underlying t with | some .bool => true | _ => false)
  | .ts, t => (match P.underlying t with | some .string => true | _ => false)
  | .ints k, t => (match P.underlying t with
    | some (.slice e) => (match P.underlying e with | some (.int k') => keq k k' && (Nat.beq (P.cellsOf e) 1 && Nat.blt 0 (P.bytesOf e)) | _ => false)
    | _ => false)
  | .l sh, t => (match P.underlying t with
    | some (.slice e) => shTyB P sh e && (Nat.beq (P.cellsOf e) (shSize sh) && (Nat.blt 0 (shSize sh) && Nat.blt 0 (P.bytesOf e)))
    | _ => false)
  | _, _ => false

/-- How much data holds. -/
def roM : Sh → RO → Nat
  | .ts, d => (roS d).size
  | .ints _, d => (roL d).length
  | .l e, d => (roX d).length + ((roX d).map (roM e)).sum
  | _, _ => 0

/-- Is each slice and text of data of at most so many parts? -/
def roMx (N : Nat) : Sh → RO → Prop
  | .ts, d => (roS d).size ≤ N
  | .ints _, d => (roL d).length ≤ N
  | .l e, d => (roX d).length ≤ N ∧ ∀ x ∈ roX d, roMx N e x
  | _, _ => True

section
variable {P : Program}

theorem weightsAll_mem {H : Type} {e : TypeId} {d : DataW H} : ∀ {l : List (DataW H)}, d ∈ l → ∀ n ∈ d.weights P e, n ∈ DataW.weightsAll P e l
  | y :: r, h, n, hn => by
    simp only [DataW.weightsAll, List.mem_append]
    rcases List.mem_cons.1 h with rfl | h
    · exact .inl hn
    · exact .inr (weightsAll_mem h n hn)

theorem bulk_pos {H : Type} (d : DataW H) : 1 ≤ uptoBulk d := by unfold uptoBulk; split <;> omega
theorem bulkAll_len {H : Type} : ∀ (l : List (DataW H)), l.length ≤ uptoBulkAll l
  | [] => by simp [uptoBulkAll]
  | d :: r => by have := bulk_pos d; have := bulkAll_len r; simp only [uptoBulkAll, List.length_cons]; omega
theorem bulkAll_app {H : Type} : ∀ (a b : List (DataW H)), uptoBulkAll (a ++ b) = uptoBulkAll a + uptoBulkAll b
  | [], b => by simp [uptoBulkAll]
  | d :: r, b => by simp only [List.cons_append, uptoBulkAll, bulkAll_app r b]; omega

theorem ChainR.snoc {R : RO → Value → Prop} {x : RO} {v : Value} (hx : R x v) : ∀ (xs : List RO) (cs : List Value), ChainR R xs cs → ChainR R (xs ++ [x]) (cs ++ v.cells.toList)
  | [], cs, h => by rw [show cs = [] from h]; exact ⟨v, [], hx, by simp, rfl⟩
  | y :: r, cs, h => by
    obtain ⟨u, c, h1, rfl, h3⟩ := h
    exact ⟨u, c ++ v.cells.toList, h1, by simp [List.append_assoc], ChainR.snoc hx r c h3⟩

theorem rangeAt_app {w : World} {b o : Nat} {x y : List Value} (h1 : w.rangeAt b o x) (h2 : w.rangeAt b (o + x.length) y) : w.rangeAt b o (x ++ y) := fun j v hv => by
  rcases Nat.lt_or_ge j x.length with h | h
  · rw [List.getElem?_append_left h] at hv; exact h1 j v hv
  · rw [List.getElem?_append_right h] at hv
    have := h2 _ v hv
    rwa [show o + x.length + (j - x.length) = o + j by omega] at this

theorem addr_of_cell {W : World} {a : Addr} {v : Value} (h : W.cell? a = some v) : a = ⟨a.block, a.off, none⟩ ∧ a.block < W.heap.size := by
  obtain ⟨bk, of, sp⟩ := a
  unfold World.cell? at h
  split at h
  · rename_i hb
    have hb : W.heap[bk]? = _ := hb
    refine ⟨?_, (Array.getElem?_eq_some_iff.1 hb).1⟩
    split at h
    · cases h
    · rename_i hs
      have hs : ¬ sp.isSome = true := hs
      have : sp = none := by simpa using hs
      rw [this]
  · cases h

theorem add_add_addr (a : Addr) (i j : Nat) : (a.add i).add j = a.add (i + j) := by
  unfold Addr.add
  by_cases h1 : i = 0 <;> by_cases h2 : j = 0 <;> simp [h1, h2, Nat.add_assoc]
theorem add_zero_addr (a : Addr) : a.add 0 = a := by simp [Addr.add]

/-- An argument's reading, as data. -/
theorem trod_ro {H : Type} {enc : TypeId × Value → H} {W : World} (N : Nat) : ∀ (sh : Sh) (t : TypeId) (fuel : Nat) (cs : List Value) (x : DataW H × List MemPlace), shTyB P sh t = true → DataW.trod enc P W 0 (fun _ => true) true fuel t cs = some x →
    ∃ ro v, cs = v.cells.toList ∧ RoD W (OutB W fun _ => False) sh ro v ∧ roM sh ro + 1 ≤ uptoBulk x.1 ∧ ((∀ n ∈ x.1.weights P t, n ≤ N) → roMx N sh ro)
  | .i k, t, fuel, cs, x, hs, h => by
    simp only [shTyB] at hs
    split at hs
    · rename_i k' hu
      have hk := keq_eq hs
      subst hk
      cases fuel with
      | zero => simp [DataW.trod] at h
      | succ n =>
        unfold DataW.trod at h
        rw [hu] at h
        rcases cs with _ | ⟨c, _ | ⟨c2, r⟩⟩
        · simp at h
        · cases c <;> simp at h
          rename_i k2 z
          obtain ⟨⟨rfl, hz⟩, rfl⟩ := h
          refine ⟨.i z, .int k2 z, rfl, ?_, by simp [roM, uptoBulk], fun _ => trivial⟩
          simp only [RoD, roZ]
          refine ⟨trivial, ?_⟩
          simp only [Lit.wf, Bool.and_eq_true, decide_eq_true_eq] at hz
          cases k2 <;> simp [InR, IntKind.min, IntKind.max, IntKind.bits, IntKind.signed] at hz ⊢ <;> omega
        · simp at h
    · cases hs
  | .tb, t, fuel, cs, x, hs, h => by
    simp only [shTyB] at hs
    split at hs
    · rename_i hu
      cases fuel with
      | zero => simp [DataW.trod] at h
      | succ n =>
        unfold DataW.trod at h
        rw [hu] at h
        rcases cs with _ | ⟨c, _ | ⟨c2, r⟩⟩
        · simp at h
        · cases c <;> simp at h
          rename_i b
          subst h
          exact ⟨.b b, .bool b, rfl, by simp only [RoD, roB], by simp [roM, uptoBulk], fun _ => trivial⟩
        · simp at h
    · cases hs
  | .ts, t, fuel, cs, x, hs, h => by
    simp only [shTyB] at hs
    split at hs
    · rename_i hu
      cases fuel with
      | zero => simp [DataW.trod] at h
      | succ n =>
        unfold DataW.trod at h
        rw [hu] at h
        rcases cs with _ | ⟨c, _ | ⟨c2, r⟩⟩
        · simp at h
        · cases c <;> simp at h
          rename_i s
          obtain ⟨hz, rfl⟩ := h
          refine ⟨.s s, .string s, rfl, ?_, ?_, fun hw => ?_⟩
          · simp only [RoD, roS]
            refine ⟨trivial, ?_⟩
            have : s.size ≤ maxLen := hz
            simp only [maxLen] at this
            omega
          · simp only [roM, roS, uptoBulk]
            have : s.data.toList.length = s.size := by simp
            omega
          · have := hw s.data.toList.length (by simp [DataW.weights])
            have e : s.data.toList.length = s.size := by simp
            simp only [roMx, roS]
            omega
        · simp at h
    · cases hs
  | .ints k, t, fuel, cs, x, hs, h => by
    simp only [shTyB] at hs
    split at hs
    · rename_i e hu
      split at hs
      · rename_i k' hue
        simp only [Bool.and_eq_true] at hs
        have hk := keq_eq hs.1
        subst hk
        have hbs : 0 < P.bytesOf e := by have := hs.2.2; simp [Nat.blt] at this; omega
        rcases open_ints hu hue (Nat.eq_of_beq_eq_true hs.2.1) h with ⟨rfl, rfl⟩ | ⟨a, len, cap, zs, rfl, h2, h3, h4, h5, h6, h7, h8⟩
        · refine ⟨.l [], .slice none 0 0, rfl, ?_, by simp [roM, roL, uptoBulk], fun _ => Nat.zero_le _⟩
          simp only [RoD]
          exact ⟨none, 0, rfl, Nat.le_refl _, by simp [roL], (fun z hz => by cases hz), .inr ⟨rfl, rfl⟩⟩
        · have hzl : zs.length = cap := by simpa using h5
          have hR : AllR k zs := fun z hz => by
            have := h8 z hz
            simp only [Lit.wf, Bool.and_eq_true, decide_eq_true_eq] at this
            cases k <;> simp [InR, IntKind.min, IntKind.max, IntKind.bits, IntKind.signed] at this ⊢ <;> omega
          have hlen : (zs.take len).length = len := by rw [List.length_take]; omega
          have hmax : cap ≤ 140737488355328 ∨ True := .inr trivial
          refine ⟨.l (zs.take len), .slice (some a) len cap, rfl, ?_, ?_, fun hw => ?_⟩
          · simp only [RoD]
            have er : roL (.l (zs.take len)) = zs.take len := rfl
            rw [er]
            refine ⟨some a, cap, by rw [hlen], by omega, ?_, fun z hz => hR z (List.mem_of_mem_take hz), ?_⟩
            · rw [hlen]; simp only [maxLen] at h4; omega
            · rcases Nat.eq_zero_or_pos cap with h0 | h0
              · exact .inr ⟨by omega, h0⟩
              · have h00 := h7 0 (by omega)
                rw [add_zero_addr] at h00
                obtain ⟨ha, hb⟩ := addr_of_cell h00
                refine .inl ⟨a.block, a.off, by rw [← ha], ⟨hb, fun h => h⟩, fun i u hu => ?_⟩
                rw [List.getElem?_map, Option.map_eq_some_iff] at hu
                obtain ⟨z, hz, rfl⟩ := hu
                rw [List.getElem?_take] at hz
                split at hz
                · rename_i hi
                  have := h7 i (by omega)
                  have ea : a.add i = ⟨a.block, a.off + i, none⟩ := by rw [ha]; exact Addr.add_mid _ _ _
                  rw [ea] at this
                  rw [this]
                  simp [List.getD, hz]
                · cases hz
          · rw [h6]
            simp only [roM, roL, uptoBulk]
            have := bulkAll_len (lits (H := H) k (zs.take len))
            have e : (lits (H := H) k (zs.take len)).length = (zs.take len).length := by simp [lits]
            omega
          · rw [h6] at hw
            have elen : ∀ l : List Int, (lits (H := H) k l).length = l.length := fun l => by simp [lits]
            have := hw (((lits (H := H) k (zs.take len)).length + (lits (H := H) k (zs.drop len)).length) * P.bytesOf e) (by simp [DataW.weights, hu])
            rw [elen, elen] at this
            have h9 : ((zs.take len).length + (zs.drop len).length) * 1 ≤ ((zs.take len).length + (zs.drop len).length) * P.bytesOf e := Nat.mul_le_mul_left _ hbs
            show (zs.take len).length ≤ N
            omega
      · cases hs
    · cases hs
  | .l sh, t, fuel, cs, x, hs, h => by
    simp only [shTyB] at hs
    split at hs
    · rename_i e hu
      simp only [Bool.and_eq_true] at hs
      obtain ⟨hs1, hs2, hs3, hs4⟩ := hs
      have hbs : 0 < P.bytesOf e := by simp [Nat.blt] at hs4; omega
      have hc := Nat.eq_of_beq_eq_true hs2
      have hpos : 0 < shSize sh := by simp [Nat.blt] at hs3; omega
      rcases DataW.trod_slice hu h with ⟨rfl, rfl⟩ | ⟨a, len, cap, elems, rest, n, rfl, rfl, rfl, hb, hl, hm, hlen, hel, hsp, hns⟩
      · refine ⟨.r [], .slice none 0 0, rfl, ?_, by simp [roM, roX, uptoBulk], fun _ => ⟨Nat.zero_le _, fun x hx => by cases hx⟩⟩
        simp only [RoD]
        exact ⟨none, 0, [], rfl, Nat.le_refl _, by simp [roX], rfl, .inr ⟨rfl, rfl⟩⟩
      · obtain ⟨hrl, hrest⟩ := hsp rfl
        have hall : ∀ i, i < cap → ∃ ccs y, W.cells? 0 (a.add (i * P.cellsOf e)) (P.cellsOf e) = some ccs ∧ DataW.trod enc P W 0 (fun _ => true) true n e ccs = some y ∧ (i < len → elems[i]? = some y) := fun i hi => by
          by_cases hil : i < len
          · have h1 := hel i hil
            have h2 : elems[i]? = some elems[i] := List.getElem?_eq_getElem (by omega)
            rw [h2, Option.bind_eq_some_iff] at h1
            obtain ⟨ccs, q1, q2⟩ := h1
            exact ⟨ccs, _, q1, q2, fun _ => h2⟩
          · have h1 := hrest (i - len) (by omega)
            have h2 : rest[i - len]? = some rest[i - len] := List.getElem?_eq_getElem (by omega)
            rw [h2, Option.bind_eq_some_iff, show len + (i - len) = i by omega] at h1
            obtain ⟨ccs, q1, q2⟩ := h1
            exact ⟨ccs, _, q1, q2, fun h => absurd h hil⟩
        have hblk : 0 < cap → a = ⟨a.block, a.off, none⟩ ∧ a.block < W.heap.size := fun h0 => by
          obtain ⟨ccs, y, q1, q2, _⟩ := hall 0 h0
          obtain ⟨_, q3, q4⟩ := World.cells?_some q1
          have := q4 0 (by omega)
          rw [Nat.zero_mul, add_zero_addr, add_zero_addr] at this
          obtain ⟨v, hv⟩ : ∃ v, ccs[0]? = some v := ⟨ccs[0]'(by omega), List.getElem?_eq_getElem _⟩
          rw [hv] at this
          exact addr_of_cell this
        have hchain : ∀ m, m ≤ len → ∃ ros cs', ros.length = m ∧ ChainR (RoD W (OutB W fun _ => False) sh) ros cs' ∧ cs'.length = shSize sh * m ∧ (∀ i u, cs'[i]? = some u → W.cell? (a.add i) = some u) ∧ ros.length + (ros.map (roM sh)).sum ≤ uptoBulkAll ((elems.take m).map (·.1)) ∧ ((∀ y ∈ elems, ∀ n ∈ y.1.weights P e, n ≤ N) → ∀ ro ∈ ros, roMx N sh ro) := by
          intro m
          induction m with
          | zero => intro _; exact ⟨[], [], rfl, rfl, by simp, (fun i u h => by simp at h), by simp, fun _ x hx => by cases hx⟩
          | succ m ih =>
            intro hm'
            obtain ⟨ros, cs', r1, r2, r3, r4, r5, r6⟩ := ih (by omega)
            obtain ⟨ccs, y, q1, q2, q3⟩ := hall m (by omega)
            have q3 := q3 (by omega)
            obtain ⟨ro, v, rfl, s2, s3, s4⟩ := trod_ro N sh e n ccs y hs1 q2
            obtain ⟨_, q5, q6⟩ := World.cells?_some q1
            have hvl := RoD_cells sh ro v s2
            refine ⟨ros ++ [ro], cs' ++ v.cells.toList, by simp [r1], ChainR.snoc s2 ros cs' r2, by rw [List.length_append, r3, hvl, Nat.mul_add]; omega, fun i u hu => ?_, ?_, fun hy ro' hr => ?_⟩
            · rcases Nat.lt_or_ge i cs'.length with hi | hi
              · rw [List.getElem?_append_left hi] at hu; exact r4 i u hu
              · rw [List.getElem?_append_right hi] at hu
                have hi2 : i - cs'.length < v.cells.toList.length := (List.getElem?_eq_some_iff.1 hu).1
                have := q6 (i - cs'.length) (by omega)
                rw [hu] at this
                have e1 : m * P.cellsOf e = cs'.length := by rw [hc, r3, Nat.mul_comm]
                rw [← this, add_add_addr, e1, Nat.add_sub_cancel' hi]
            · rw [List.map_append, List.sum_append, List.length_append, List.take_add_one, q3, List.map_append, bulkAll_app]
              simp only [List.map_cons, List.map_nil, List.sum_cons, List.sum_nil, List.length_cons, List.length_nil, Option.toList_some, uptoBulkAll]
              omega
            · rcases List.mem_append.1 hr with hr | hr
              · exact r6 hy ro' hr
              · simp only [List.mem_cons, List.not_mem_nil, or_false] at hr
                subst hr
                exact s4 fun k hk => hy y (List.mem_of_getElem? q3) k hk
        obtain ⟨ros, cs', r1, r2, r3, r4, r5, r6⟩ := hchain len (Nat.le_refl _)
        refine ⟨.r ros, .slice (some a) len cap, rfl, ?_, ?_, fun hw => ⟨?_, ?_⟩⟩
        · simp only [RoD]
          have er : roX (.r ros) = ros := rfl
          rw [er]
          refine ⟨some a, cap, cs', by rw [r1], by omega, ?_, r2, ?_⟩
          · rw [r1]; simp only [maxLen] at hm; omega
          · rcases Nat.eq_zero_or_pos cap with h0 | h0
            · exact .inr ⟨by omega, h0⟩
            · obtain ⟨ha, hb⟩ := hblk h0
              refine .inl ⟨a.block, a.off, by rw [← ha], ⟨hb, fun h => h⟩, fun i u hu => ?_⟩
              have := r4 i u hu
              have ea : a.add i = ⟨a.block, a.off + i, none⟩ := by rw [ha]; exact Addr.add_mid _ _ _
              rwa [ea] at this
        · simp only [roM, roX, uptoBulk]
          rw [List.take_of_length_le (by omega)] at r5
          have := bulkAll_len (elems.map (·.1))
          rw [List.length_map] at this
          omega
        · have := hw (((elems.map (·.1)).length + (rest.map (·.1)).length) * P.bytesOf e) (by simp [DataW.weights, hu])
          rw [List.length_map, List.length_map] at this
          have h9 : (elems.length + rest.length) * 1 ≤ (elems.length + rest.length) * P.bytesOf e := Nat.mul_le_mul_left _ hbs
          show ros.length ≤ N
          omega
        · refine r6 fun y hy k hk => hw k ?_
          simp only [DataW.weights, hu, List.mem_cons, List.mem_append]
          exact .inr (.inl (weightsAll_mem (List.mem_map.2 ⟨y, hy, rfl⟩) k hk))
    · cases hs
  | .arr _ _, t, fuel, cs, x, hs, h => by simp [shTyB] at hs
  | .r _, t, fuel, cs, x, hs, h => by simp [shTyB] at hs

def slSh : Sh → Bool
  | .ints _ => true
  | .l _ => true
  | _ => false

/-- An argument that is a slice, as data. -/
theorem arg_ro {H : Type} {enc : TypeId × Value → H} {W : World} (N : Nat) (sh : Sh) {t : TypeId} {v : Value} {d : DataW H} {ps : List MemPlace} (hs : shTyB P sh t = true) (hsl : slSh sh = true) (hv : v.cells.toList = [v]) (h : DataW.Trod enc P W 0 (fun _ => true) true t v d ps) :
    ∃ ro, RoD W (OutB W fun _ => False) sh ro v ∧ (∃ ad n cap, v = .slice ad n cap) ∧ roM sh ro + 1 ≤ uptoBulk d ∧ ((∀ n ∈ d.weights P t, n ≤ N) → roMx N sh ro) := by
  obtain ⟨fuel, h⟩ := h
  obtain ⟨ro, u, e, q1, q2, q3⟩ := trod_ro N sh t fuel _ _ hs h
  have hu : ∃ ad n cap, u = .slice ad n cap := by
    cases sh <;> simp only [slSh, Bool.false_eq_true] at hsl <;> simp only [RoD] at q1
    · obtain ⟨a, cap, rfl, _⟩ := q1; exact ⟨_, _, _, rfl⟩
    · obtain ⟨a, cap, cs, rfl, _⟩ := q1; exact ⟨_, _, _, rfl⟩
  have huv : v = u := by
    obtain ⟨ad, n, cap, rfl⟩ := hu
    rw [hv] at e
    simpa [Value.cells] using e
  subst huv
  exact ⟨ro, q1, hu, q2, q3⟩

/-- A law as a call off a world that holds the globals. -/
theorem law_gen {Γ : Tab} (hΓ : TabOk P Γ) (hgl : Γ.gl = keysOf Γ.gh) (hlow : ∀ g ∈ keysOf Γ.gh, g < 490) {f : FuncId} {fn : Func} (hf : P.funcs[f]? = some fn) {av : List AV} {args' : List SV} {L : Loops} {K : List RV → List (Option (List Seg)) → Prop} {inv : Nat → List Pv → Nat → Prop}
    (k1 : okA 600 av args' []) (k2 : args'.length ≤ fn.ntmps) (k3 : VcG 0 Γ fn L (Γ.gh ++ (490, .world) :: []) args' K inv) (hK : ∀ rvs fin, K rvs fin → ∃ e, rvs = [.v (.b e true)])
    {W : World} {vs : List Value} (hG : Glob Γ.gh W fun _ => False) (hA : AsD W (OutB W fun _ => False) (fun _ => none) (fun _ => { blk := 0, off := 0, cap := 0 }) av vs []) :
    Calls P f vs.toArray W fun e w' => e = .returned (.bool true) ∧ Below W.heap.size W w' := by
  have hm := mem_start W fun _ => { blk := 0, off := 0, cap := 0 }
  obtain ⟨hh1, hh2⟩ := okA_heap av vs [] 600 args' [] hA k1
  obtain ⟨ρ1, m1, m2, m3, m4, m5⟩ := gen_mem hG hgl hlow hm (ks := []) (fun k hk => by cases hk) List.nodup_nil (M' := fun _ => False) (fun b => ⟨fun h => h.elim, fun ⟨k, hk, _⟩ => by cases hk⟩) hh1 hh2
  have hargs := okA_args m3 m4 av vs [] 600 args' [] hA k1 (fun i hi => by simp at hi)
  refine (vcG_calls hΓ hf k3 k2 m2 m1 hargs).mono fun e w' he => ?_
  obtain ⟨x, v, h', ρ', rfl, r1, r2, r3, r4⟩ := he
  obtain ⟨rvs', fin', t1, t3, t4, t5⟩ := kvG_sound r3 r2 r1
  obtain ⟨e, rfl⟩ := hK _ _ t1
  rcases t3 with ⟨r, hr, hd⟩ | ⟨hn, _⟩
  · simp only [List.cons.injEq, and_true] at hr
    subst hr
    simp only [RvD, D] at hd
    exact ⟨by rw [hd], r3.frame.below fun _ h => h⟩
  · exact absurd rfl hn

end
end Go.Gx

/- TranscriptNames: a frame's length, its first and its last byte; a new transcript's state is the hash of its frame. The tables lie as the program's text lays them. -/
namespace Go.Gx
open Go.Proofs Go.Sp Go.RowKit
set_option linter.unusedVariables false
set_option maxRecDepth 100000
namespace TranscriptNames
def vc4 (K : List RV → List (Option (List Seg)) → Prop) (Q : Nat → List Pv → Prop) : Prop := fnVcG 0 Λ2 Tryd.f4 [] [] (gh4 ++ (490, .world) :: []) K Q
theorem vc4_eq : ∀ (K : List RV → List (Option (List Seg)) → Prop) (Q : Nat → List Pv → Prop), vc4 K Q = (Need ((1 : Int) ≤ (1 : Int)) ∧ Need ((27 : Int) ≤ (70368744177664 : Int)) ∧ ∀ (x1 : List Int), x1 = frL (bytesI { data := #[(97 : UInt8), (98 : UInt8)] }) (List.map roL (roX (RO.r [RO.l (List.take (1 : Nat) (List.drop (0 : Nat) [(99 : Int)]))]))) → AllR IntKind.u8 x1 → ∀ (x2 : Int), x2 = (27 : Int) → (0 : Int) ≤ x2 → InR IntKind.i64 x2 → Need ((1 : Int) ≤ (1 : Int)) ∧ Need ((40 : Int) ≤ (70368744177664 : Int)) ∧ ∀ (x3 : List Int), x3 = frL (bytesI { data := #[(118 : UInt8), (101 : UInt8), (105 : UInt8), (108 : UInt8), (32 : UInt8), (116 : UInt8), (114 : UInt8), (97 : UInt8), (110 : UInt8), (115 : UInt8), (99 : UInt8), (114 : UInt8), (105 : UInt8), (112 : UInt8), (116 : UInt8)] }) (List.map roL (roX (RO.r [RO.l (List.take (1 : Nat) (List.drop (0 : Nat) [(120 : Int)]))]))) → AllR IntKind.u8 x3 → ∀ (x4 : Int), x4 = (40 : Int) → (0 : Int) ≤ x4 → InR IntKind.i64 x4 → Need ((0 : Int) + x4 ≤ ((x3.length : Nat) : Int)) ∧ Need ((((roL (RO.l (List.take x4.toNat (List.drop (0 : Nat) x3)))).length : Nat) : Int) ≤ (70368744177000 : Int)) ∧ ∀ (x5 : List Int), x5 = sha (roL (RO.l (List.take x4.toNat (List.drop (0 : Nat) x3)))) → x5.length = (64 : Nat) → AllR IntKind.u8 x5 → Need ((40 : Int) ≤ (70368744177664 : Int)) ∧ ∀ (x6 : List Int), x6 = seedL (bytesI { data := #[(120 : UInt8)] }) → x6.length = (64 : Nat) → AllR IntKind.u8 x6 → ((x2 == (27 : Int)) = true → Need ((0 : Int) ≤ (0 : Int) ∧ (0 : Int) < x2) ∧ Need ((0 : Nat) < x1.length) ∧ ((x1.getD (0 : Nat) (0 : Int) == (2 : Int)) = true → Need ((0 : Int) ≤ (26 : Int) ∧ (26 : Int) < x2) ∧ Need ((26 : Nat) < x1.length) ∧ ((x1.getD (26 : Nat) (0 : Int) == (99 : Int)) = true → ∀ (x7 : List Int), x7 = x6 → x7.length = (64 : Nat) → AllR IntKind.u8 x7 → ∀ (x8 : List Int), x8 = stateL true x6 → x8.length = (64 : Nat) → AllR IntKind.u8 x8 → K [RV.v (SV.b false (if (if (if (x8 == x5) = true then true else false) = true then true else false) = true then true else false))] []) ∧ ((x1.getD (26 : Nat) (0 : Int) == (99 : Int)) = false → K [RV.v (SV.b true false)] [])) ∧ ((x1.getD (0 : Nat) (0 : Int) == (2 : Int)) = false → K [RV.v (SV.b true false)] [])) ∧ ((x2 == (27 : Int)) = false → K [RV.v (SV.b true false)] [])) := by
  intros
  kernel_rfl

theorem law (W : World) (hG : Glob gh4 W fun _ => False) : Calls Tryd.prog 4 #[] W fun e w' => e = .returned (.bool true) ∧ Below W.heap.size W w' := by
  refine law_gen Λ2_ok rfl glow4 rfl (fn := Tryd.f4) (L := []) (av := []) (args' := []) (K := fun rvs fin => ∃ e, rvs = [.v (.b e true)]) trivial (Nat.le_of_ble_eq_true (by kernel_rfl)) (vcG_noloops ?_) (fun _ _ h => h) hG ⟨rfl, rfl⟩
  show vc4 _ _
  rw [vc4_eq]
  have h1 : frL (bytesI ⟨#[97, 98]⟩) (List.map roL (roX (.r [.l (List.take 1 (List.drop 0 [(99 : Int)]))]))) = [2, 0, 0, 0, 0, 0, 0, 0, 97, 98, 1, 0, 0, 0, 0, 0, 0, 0, 1, 0, 0, 0, 0, 0, 0, 0, 99] := by decide +kernel
  have h2 : bytesI ⟨#[120]⟩ = [120] := by decide +kernel
  have h3 : frL (bytesI ⟨#[118, 101, 105, 108, 32, 116, 114, 97, 110, 115, 99, 114, 105, 112, 116]⟩) (List.map roL (roX (.r [.l (List.take 1 (List.drop 0 [(120 : Int)]))]))) = frL tagT [[120]] := by decide +kernel
  have h4 : (frL tagT [[120]]).length = 40 := by decide +kernel
  rw [h1, h2, h3]
  refine ⟨need_of (by omega), need_of (by omega), ?_⟩
  intro x1 e1 _ x2 e2 _ _
  refine ⟨need_of (by omega), need_of (by omega), ?_⟩
  intro x3 e3 _ x4 e4 _ _
  rw [← e3] at h4
  have hx : List.take x4.toNat (List.drop 0 x3) = x3 := by
    rw [List.drop_zero, e4]; exact List.take_of_length_le (by rw [h4]; decide)
  rw [hx, roL_l]
  refine ⟨need_of (by omega), need_of (by omega), ?_⟩
  intro x5 e5 _ _
  refine ⟨need_of (by omega), ?_⟩
  intro x6 e6 _ _
  subst e1; subst e2
  refine ⟨fun _ => ⟨need_of (by omega), need_of (by decide), fun _ => ⟨need_of (by omega), need_of (by decide), fun _ => ?_, fun h => absurd h (by decide)⟩, fun h => absurd h (by decide)⟩, fun h => absurd h (by decide)⟩
  intro x7 _ _ _ x8 e8 _ _
  have e85 : x8 = x5 := by
    rw [e8, e5, e3]
    show x6 = _
    rw [e6]; rfl
  refine ⟨false, ?_⟩
  rw [e85]
  simp
end TranscriptNames

namespace TranscriptNames
open Go.Proofs.YthgclfedhgmpiaaDoor
open Go.ChangeShapes Go.WideShapes Go.ChangeAt Go.RowKit
theorem reads (t : Nat) (h : t ∈ Tryd.f4.params.toList) : Tryd.prog.readableRec t = true ∧ t < Tryd.prog.types.size := by
  have hp : Tryd.f4.params.toList = [] := by kernel_rfl
  rw [hp] at h
  simp only [List.not_mem_nil] at h

set_option maxRecDepth 100000 in
/-- What the call gives, for every argument and every world that holds the tables. -/
theorem contract (H : Type) (enc : TypeId × Value → H) (W : World) (base : Nat) (args : Array Value) (ds gs : List (DataW H)) (before : List MemPlace)
    (hval : ∀ (j : Nat) t v, Tryd.f4.params[j]? = some t → args[j]? = some v → Value.okWide Tryd.prog W .any base t v)
    (hW : DataW.Whole enc Tryd.prog Tryd.f4.params.toList Rows.transcriptNamesSpec.vars false W args.toList ds gs before)
    (hw : (DataW.weightsEach Tryd.prog (Tryd.f4.params.toList ++ (OpenSpec.ofChange Rows.transcriptNamesSpec).bare.plain.varTypes Tryd.prog) (ds ++ gs)).all (· ≤ reachBytes) = true) (hL : laidMetH Tryd.prog Rows.transcriptNamesRow.laid W) :
    Calls Tryd.prog 4 args W fun e W' => ∃ v, e = .returned v ∧ Rows.transcriptNamesSpec.post enc Tryd.prog Tryd.f4 false true false false W args v W' := by
  have hA : DataW.TrodAll enc Tryd.prog W 0 (fun _ => true) true [] args.toList ds _ := hW.choose_spec.choose_spec.1
  obtain ⟨hargs, hdsn, _⟩ := trodAll_nil hA
  obtain rfl : args = #[] := by cases args; simp_all
  have hp : Tryd.f4.params = #[] := by kernel_rfl
  rw [hp] at hval
  refine (law W (tab_glob4 hL) ).mono fun e W' ⟨he, hB⟩ => ?_
  subst he
  refine ⟨_, rfl, post_true (tb := 4) laidOut rfl (by kernel_rfl) (by kernel_rfl) reads ?_ hW hB⟩
  intro ds hds
  have hds : ds.length = 0 := hds
  match ds, hds with
  | [], _ => exact ⟨rfl, rfl, rfl⟩

def wargs : Array Value := #[]
theorem laid_met (os : Os) : laidMet Tryd.prog Rows.transcriptNamesRow.laid ((laidWorld4 os).forCall (fun _ _ => 0) ⟨#[], wargs, []⟩).memory :=
  laidMet_of_run' 8 (by kernel_rfl) (by kernel_rfl)
theorem reads0 (os : Os) {H : Type} (enc : TypeId × Value → H) : ∃ places, DataW.whole enc Tryd.prog ((laidWorld4 os).forCall (fun _ _ => 0) ⟨#[], wargs, []⟩).memory Tryd.f4.params.toList Rows.transcriptNamesSpec.vars false wargs.toList 8 = some ([], [], places) :=
  ⟨[], by kernel_rfl⟩

set_option maxRecDepth 100000 in
theorem lifted (os : Os) (started : os.Started) (H : Type) (enc : TypeId × Value → H) (F : Stop.Interp) :
    ReturnsInHanded {} Tryd.checked os 4 .any ((OpenSpec.ofChange Rows.transcriptNamesSpec).preRow enc Tryd.prog Tryd.f4 Rows.transcriptNamesRow.domain false Rows.transcriptNamesRow.laid) (((OpenSpec.ofChange Rows.transcriptNamesSpec).at F).post enc Tryd.prog Tryd.f4 false true false false) := by
  obtain ⟨places, hx⟩ := reads0 os enc
  refine returnsInHanded_of_row (C := Tryd.checked) (s := (OpenSpec.ofChange Rows.transcriptNamesSpec)) own started (by kernel_rfl) Tryd.func4
    (witness_row_at (enc := enc) (C := Tryd.checked) false (laidWorld4 os) wargs rfl (by kernel_rfl) (by kernel_rfl) (by kernel_rfl)
      (OpenSpec.preRow_of_cond 8 hx (by kernel_rfl) (fun k hk => by cases hk) (by kernel_rfl) (laid_met os))) ?_
  intro W base args ds gs before hval hW _ hcond hw hL _ _
  exact contract H enc W base args ds gs before hval hW hw hL

theorem said : Rows.TranscriptNamesSaid :=
  OpenClaim.holds_of_cond 4 Tryd.f4 rfl rfl rfl rfl rfl rfl rfl ⟨rfl, rfl, rfl, rfl, rfl⟩ rfl rfl rfl rfl rfl (by kernel_rfl) Tryd.func4 (by kernel_rfl)
    (of_decide_eq_true (by kernel_rfl)) (by unfold Func.isWrapper; first | (rw [if_pos (by decide +kernel)]; kernel_rfl) | (rw [if_neg (by decide +kernel)]; exact ⟨rfl, rfl⟩))
    (fun os started H enc _ F => by rw [OpenClaim.pre_eq_preRow]; exact lifted os started H enc F)

theorem plain (f : FuncId) (fn : Func) (hf : Tryd.pinned.checked.prog.funcNamed "veil/veillaw08.TranscriptNames" = some f) (hfn : Tryd.pinned.checked.prog.funcs[f]? = some fn) :
    false = Tryd.pinned.checked.prog.looks [] ∧ ∀ (j : Nat) t, fn.params[j]? = some t → Tryd.pinned.checked.prog.wantsStandIn t = false := by
  obtain rfl : f = 4 := Option.some.inj ((show Tryd.prog.funcNamed "veil/veillaw08.TranscriptNames" = some 4 by kernel_rfl).symm.trans hf) |>.symm
  obtain rfl : fn = Tryd.f4 := (Option.some.inj (Tryd.func4.symm.trans hfn)).symm
  refine ⟨by kernel_rfl, fun j t ht => ?_⟩
  have hp : Tryd.f4.params = #[] := by kernel_rfl
  rw [hp] at ht
  simp at ht

theorem card : Rows.TranscriptNamesCardSaid :=
  Claim7.holds_tied_plain_at .later [] _ _ _ _ said (fun _ h => by cases h) (by kernel_rfl) (fun _ h => by cases h) transcriptNames_row_tie rfl ⟨rfl, rfl⟩ (by kernel_rfl) rfl plain (by kernel_rfl)
end TranscriptNames
end Go.Gx

namespace Go.Proofs.YthgclfedhgmpiaaDoor
theorem transcriptNamesProved : Rows.TranscriptNamesCardSaid := Go.Gx.TranscriptNames.card
end Go.Proofs.YthgclfedhgmpiaaDoor
#print axioms Go.Proofs.YthgclfedhgmpiaaDoor.transcriptNamesProved
