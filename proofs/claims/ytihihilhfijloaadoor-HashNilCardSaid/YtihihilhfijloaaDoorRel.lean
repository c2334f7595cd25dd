/- What symbolic values and blocks stand for; how it is kept while memory grows and is written. -/
import Derived.Test.YtihihilhfijloaaDoorRun
import Derived.Deep.MidRow
namespace Go.Gx
open Go.RowKit
set_option linter.unusedVariables false

/-- Where a block lies: its number, the first cell's place, how many cells are its own. -/
structure Pl where
  blk : Nat
  off : Nat
  cap : Nat
  rel : Sh → RO → Value → Prop := fun _ _ _ => False

mutual
/-- Is data of a shape well? -/
def RoF : Sh → RO → Prop
  | .i k, d => InR k (roZ d)
  | .tb, _ => True
  | .ts, d => ((roS d).size : Int) < 9223372036854775808
  | .arr n k, d => (roL d).length = n ∧ AllR k (roL d)
  | .r fs, d => RoFs fs d 0
  | .ints k, d => AllR k (roL d) ∧ ((roL d).length : Int) < 9223372036854775808
  | .l e, d => (∀ x ∈ roX d, RoF e x) ∧ ((roX d).length : Int) < 9223372036854775808
def RoFs : List Sh → RO → Nat → Prop
  | [], _, _ => True
  | s :: r, d, i => RoF s (roN d i) ∧ RoFs r d (i + 1)
end

/-- Cells of values that lie one behind the other. -/
def ChainR (R : RO → Value → Prop) : List RO → List Value → Prop
  | [], cs => cs = []
  | x :: r, cs => ∃ v c, R x v ∧ cs = v.cells.toList ++ c ∧ ChainR R r c

mutual
/-- What data of a shape is in a world, in the blocks 'Out'. -/
def RoD (w : World) (Out : Nat → Prop) : Sh → RO → Value → Prop
  | .i k, d, v => v = .int k (roZ d) ∧ InR k (roZ d)
  | .tb, d, v => v = .bool (roB d)
  | .ts, d, v => v = .string (roS d) ∧ ((roS d).size : Int) < 9223372036854775808
  | .arr n k, d, v => (roL d).length = n ∧ AllR k (roL d) ∧ v = .agg ((roL d).map (Value.int k)).toArray
  | .r fs, d, v => ∃ cs, RoCs w Out fs d 0 cs ∧ v = .agg cs.toArray
  | .ints k, d, v => ∃ a cap, v = .slice a (roL d).length cap ∧ (roL d).length ≤ cap ∧ ((roL d).length : Int) < 9223372036854775808 ∧ AllR k (roL d) ∧
      ((∃ b o, a = some ⟨b, o, none⟩ ∧ Out b ∧ w.rangeAt b o ((roL d).map (Value.int k))) ∨ ((roL d).length = 0 ∧ cap = 0))
  | .l e, d, v => ∃ a cap cs, v = .slice a (roX d).length cap ∧ (roX d).length ≤ cap ∧ ((roX d).length : Int) < 9223372036854775808 ∧ ChainR (RoD w Out e) (roX d) cs ∧
      ((∃ b o, a = some ⟨b, o, none⟩ ∧ Out b ∧ w.rangeAt b o cs) ∨ ((roX d).length = 0 ∧ cap = 0))
def RoCs (w : World) (Out : Nat → Prop) : List Sh → RO → Nat → List Value → Prop
  | [], _, _, cs => cs = []
  | s :: r, d, i, cs => ∃ v c, RoD w Out s (roN d i) v ∧ cs = v.cells.toList ++ c ∧ RoCs w Out r d (i + 1) c
end

theorem ChainR.mono {R R' : RO → Value → Prop} (h : ∀ x v, R x v → R' x v) : ∀ (xs : List RO) (cs : List Value), ChainR R xs cs → ChainR R' xs cs
  | [], cs, hc => hc
  | x :: r, cs, hc => by
    obtain ⟨v, c, h1, h2, h3⟩ := hc
    exact ⟨v, c, h x v h1, h2, ChainR.mono h r c h3⟩

/-- The same, in a world that has these blocks as they were. -/
def Keeps (w w' : World) (Out Out' : Nat → Prop) : Prop := ∀ b, Out b → Out' b ∧ w'.heap[b]? = w.heap[b]?

theorem Keeps.range {w w' : World} {Out Out' : Nat → Prop} (h : Keeps w w' Out Out') {b o : Nat} {cs : List Value} (hb : Out b) (hr : w.rangeAt b o cs) : w'.rangeAt b o cs := fun j v hv => by
  rw [World.cell?_of_block (a := ⟨b, o + j, none⟩) (h b hb).2]; exact hr j v hv

mutual
theorem RoD.mono {w w' : World} {Out Out' : Nat → Prop} (h : Keeps w w' Out Out') : ∀ (sh : Sh) (d : RO) (v : Value), RoD w Out sh d v → RoD w' Out' sh d v
  | .i k, d, v, hd => by simp only [RoD] at hd ⊢; exact hd
  | .tb, d, v, hd => by simp only [RoD] at hd ⊢; exact hd
  | .ts, d, v, hd => by simp only [RoD] at hd ⊢; exact hd
  | .arr n k, d, v, hd => by simp only [RoD] at hd ⊢; exact hd
  | .r fs, d, v, hd => by
    simp only [RoD] at hd ⊢
    obtain ⟨cs, h1, h2⟩ := hd
    exact ⟨cs, RoCs.mono h fs d 0 cs h1, h2⟩
  | .ints k, d, v, hd => by
    simp only [RoD] at hd ⊢
    obtain ⟨a, cap, h1, h2, h3, h4, h5⟩ := hd
    refine ⟨a, cap, h1, h2, h3, h4, ?_⟩
    rcases h5 with ⟨b, o, q1, q2, q3⟩ | h5
    · exact .inl ⟨b, o, q1, (h b q2).1, h.range q2 q3⟩
    · exact .inr h5
  | .l e, d, v, hd => by
    simp only [RoD] at hd ⊢
    obtain ⟨a, cap, cs, h1, h2, h3, h4, h5⟩ := hd
    refine ⟨a, cap, cs, h1, h2, h3, ChainR.mono (fun x v hx => RoD.mono h e x v hx) _ _ h4, ?_⟩
    rcases h5 with ⟨b, o, q1, q2, q3⟩ | h5
    · exact .inl ⟨b, o, q1, (h b q2).1, h.range q2 q3⟩
    · exact .inr h5
theorem RoCs.mono {w w' : World} {Out Out' : Nat → Prop} (h : Keeps w w' Out Out') : ∀ (fs : List Sh) (d : RO) (i : Nat) (cs : List Value), RoCs w Out fs d i cs → RoCs w' Out' fs d i cs
  | [], d, i, cs, hd => by simp only [RoCs] at hd ⊢; exact hd
  | s :: r, d, i, cs, hd => by
    simp only [RoCs] at hd ⊢
    obtain ⟨v, c, h1, h2, h3⟩ := hd
    exact ⟨v, c, RoD.mono h s _ v h1, h2, RoCs.mono h r d (i + 1) c h3⟩
end

mutual
theorem RoD.fact {w : World} {Out : Nat → Prop} : ∀ (sh : Sh) (d : RO) (v : Value), RoD w Out sh d v → RoF sh d
  | .i k, d, v, hd => by simp only [RoD] at hd; exact hd.2
  | .tb, d, v, hd => trivial
  | .ts, d, v, hd => by simp only [RoD] at hd; exact hd.2
  | .arr n k, d, v, hd => by simp only [RoD] at hd; exact ⟨hd.1, hd.2.1⟩
  | .r fs, d, v, hd => by
    simp only [RoD] at hd
    obtain ⟨cs, h1, h2⟩ := hd
    simp only [RoF]
    exact RoCs.fact fs d 0 cs h1
  | .ints k, d, v, hd => by
    simp only [RoD] at hd
    obtain ⟨a, cap, h1, h2, h3, h4, h5⟩ := hd
    exact ⟨h4, h3⟩
  | .l e, d, v, hd => by
    simp only [RoD] at hd
    obtain ⟨a, cap, cs, h1, h2, h3, h4, h5⟩ := hd
    simp only [RoF]
    refine ⟨?_, h3⟩
    have : ∀ (xs : List RO) (cs : List Value), ChainR (RoD w Out e) xs cs → ∀ x ∈ xs, RoF e x := by
      intro xs
      induction xs with
      | nil => intro cs _ x hx; cases hx
      | cons y r ih =>
        intro cs hc x hx
        obtain ⟨v, c, q1, q2, q3⟩ := hc
        rcases List.mem_cons.1 hx with rfl | hx
        · exact RoD.fact e _ v q1
        · exact ih c q3 x hx
    exact this _ _ h4
theorem RoCs.fact {w : World} {Out : Nat → Prop} : ∀ (fs : List Sh) (d : RO) (i : Nat) (cs : List Value), RoCs w Out fs d i cs → RoFs fs d i
  | [], d, i, cs, hd => trivial
  | s :: r, d, i, cs, hd => by
    simp only [RoCs] at hd
    obtain ⟨v, c, h1, h2, h3⟩ := hd
    simp only [RoFs]
    exact ⟨RoD.fact s _ v h1, RoCs.fact r d (i + 1) c h3⟩
end

def at_ (p : Pl) (c : Nat) : Addr := ⟨p.blk, p.off + c, none⟩

mutual
/-- The value that a symbolic one stands for. -/
def D (dm : Nat → Prop) (ρ : Nat → Pl) : SV → Value → Prop
  | .i k a, v => v = .int k a.z ∧ InR k a.z
  | .b _ x, v => v = .bool x
  | .s x, v => v = .string x ∧ (x.size : Int) < 9223372036854775808
  | .np, v => v = .pointer none
  | .nsl, v => v = .slice none 0 0
  | .p key c, v => dm key ∧ v = .pointer (some (at_ (ρ key) c))
  | .pd key c est x j, v => dm key ∧ 0 ≤ x ∧ v = .pointer (some (at_ (ρ key) (c + est * x.toNat + j)))
  | .sl key c est off len, v => dm key ∧ 0 ≤ off.z ∧ 0 ≤ len.z ∧ InR .i64 len.z ∧ ∃ a cap, v = .slice a len.z.toNat cap ∧ len.z.toNat ≤ cap ∧
      ((a = some (at_ (ρ key) (c + est * off.z.toNat)) ∧ c + est * off.z.toNat + est * cap ≤ (ρ key).cap) ∨ (len.z = 0 ∧ cap = 0))
  | .arr k n _ l, v => l.length = n ∧ AllR k l ∧ v = .agg (l.map (Value.int k)).toArray
  | .agg xs, v => ∃ cs, Cs dm ρ xs cs ∧ v = .agg cs.toArray
  | .tup xs, v => ∃ vs, Ds dm ρ xs vs ∧ v = .tuple vs.toArray
  | .fn f, v => v = .func (.func f) #[] #[]
  | .ro key sh d, v => dm key ∧ (ρ key).rel sh d v ∧ RoF sh d ∧ ∃ a cap, v = .slice a (roLen sh d) cap ∧ roLen sh d ≤ cap ∧ (roLen sh d : Int) < 9223372036854775808 ∧ ((∃ b o, a = some ⟨b, o, none⟩) ∨ (roLen sh d = 0 ∧ cap = 0))
  | .rop key sh d x j, v => dm key ∧ 0 ≤ x ∧ x < (roLen sh d : Int) ∧ ∃ b o n cap, (ρ key).rel sh d (.slice (some ⟨b, o, none⟩) n cap) ∧ v = .pointer (some ⟨b, o + (shEl sh * x.toNat + j), none⟩)
  | .val x, v => v = x
  | .any, _ => True
/-- The cells of values that lie one behind the other. -/
def Cs (dm : Nat → Prop) (ρ : Nat → Pl) : List SV → List Value → Prop
  | [], cs => cs = []
  | x :: r, cs => ∃ v c, D dm ρ x v ∧ cs = v.cells.toList ++ c ∧ Cs dm ρ r c
def Ds (dm : Nat → Prop) (ρ : Nat → Pl) : List SV → List Value → Prop
  | [], vs => vs = []
  | x :: r, vs => ∃ v c, D dm ρ x v ∧ vs = v :: c ∧ Ds dm ρ r c
end

/-- A single cell's value? -/
def single : SV → Bool
  | .i .. | .b .. | .s _ | .np | .nsl | .p .. | .sl .. | .fn _ | .ro .. => true
  | _ => false

def SegD (dm : Nat → Prop) (ρ : Nat → Pl) : Seg → List Value → Prop
  | .one x, cs => single x = true ∧ ∃ v, D dm ρ x v ∧ cs = [v]
  | .arr k n _ l, cs => l.length = n ∧ AllR k l ∧ cs = l.map (Value.int k)
  | .rowI k l, cs => AllR k l ∧ cs = l.map (Value.int k)
  | .rowA k n l, cs => AllA k n l ∧ cs = l.flatten.map (Value.int k)

def SegsD (dm : Nat → Prop) (ρ : Nat → Pl) : List Seg → List Value → Prop
  | [], cs => cs = []
  | g :: r, cs => ∃ c1 c2, SegD dm ρ g c1 ∧ cs = c1 ++ c2 ∧ SegsD dm ρ r c2

mutual
theorem D.mono {dm dm' : Nat → Prop} {ρ ρ' : Nat → Pl} (hd : ∀ k, dm k → dm' k) (hρ : ∀ k, dm k → ρ' k = ρ k) : ∀ (x : SV) (v : Value), D dm ρ x v → D dm' ρ' x v
  | .i k a, v, h => h
  | .b _ x, v, h => h
  | .s x, v, h => h
  | .np, v, h => h
  | .nsl, v, h => h
  | .p key c, v, h => ⟨hd _ h.1, by rw [hρ _ h.1]; exact h.2⟩
  | .pd key c est x j, v, h => ⟨hd _ h.1, by rw [hρ _ h.1]; exact h.2⟩
  | .sl key c est off len, v, h => ⟨hd _ h.1, by rw [hρ _ h.1]; exact h.2⟩
  | .arr k n _ l, v, h => h
  | .agg xs, v, h => by
    simp only [D] at h ⊢
    obtain ⟨cs, h1, h2⟩ := h
    exact ⟨cs, Cs.mono hd hρ xs cs h1, h2⟩
  | .tup xs, v, h => by
    simp only [D] at h ⊢
    obtain ⟨cs, h1, h2⟩ := h
    exact ⟨cs, Ds.mono hd hρ xs cs h1, h2⟩
  | .fn f, v, h => h
  | .ro key sh d, v, h => ⟨hd _ h.1, by rw [hρ _ h.1]; exact h.2⟩
  | .rop key sh d x j, v, h => ⟨hd _ h.1, by rw [hρ _ h.1]; exact h.2⟩
  | .val x, v, h => h
  | .any, _, h => h
theorem Cs.mono {dm dm' : Nat → Prop} {ρ ρ' : Nat → Pl} (hd : ∀ k, dm k → dm' k) (hρ : ∀ k, dm k → ρ' k = ρ k) : ∀ (xs : List SV) (cs : List Value), Cs dm ρ xs cs → Cs dm' ρ' xs cs
  | [], cs, h => h
  | x :: r, cs, h => by
    simp only [Cs] at h ⊢
    obtain ⟨v, c, h1, h2, h3⟩ := h
    exact ⟨v, c, D.mono hd hρ x v h1, h2, Cs.mono hd hρ r c h3⟩
theorem Ds.mono {dm dm' : Nat → Prop} {ρ ρ' : Nat → Pl} (hd : ∀ k, dm k → dm' k) (hρ : ∀ k, dm k → ρ' k = ρ k) : ∀ (xs : List SV) (cs : List Value), Ds dm ρ xs cs → Ds dm' ρ' xs cs
  | [], cs, h => h
  | x :: r, cs, h => by
    simp only [Ds] at h ⊢
    obtain ⟨v, c, h1, h2, h3⟩ := h
    exact ⟨v, c, D.mono hd hρ x v h1, h2, Ds.mono hd hρ r c h3⟩
end

theorem SegD.mono {dm dm' : Nat → Prop} {ρ ρ' : Nat → Pl} (hd : ∀ k, dm k → dm' k) (hρ : ∀ k, dm k → ρ' k = ρ k) (g : Seg) (cs : List Value) (h : SegD dm ρ g cs) : SegD dm' ρ' g cs := by
  cases g with
  | one x => obtain ⟨h0, v, h1, h2⟩ := h; exact ⟨h0, v, D.mono hd hρ x v h1, h2⟩
  | arr k n ex l => exact h
  | rowI k l => exact h
  | rowA k n l => exact h

theorem SegsD.mono {dm dm' : Nat → Prop} {ρ ρ' : Nat → Pl} (hd : ∀ k, dm k → dm' k) (hρ : ∀ k, dm k → ρ' k = ρ k) : ∀ (l : List Seg) (cs : List Value), SegsD dm ρ l cs → SegsD dm' ρ' l cs
  | [], cs, h => h
  | g :: r, cs, h => by
    obtain ⟨c1, c2, h1, h2, h3⟩ := h
    exact ⟨c1, c2, SegD.mono hd hρ g c1 h1, h2, SegsD.mono hd hρ r c2 h3⟩

/-! ### Cells -/

theorem single_cell {dm : Nat → Prop} {ρ : Nat → Pl} {x : SV} {v : Value} (h1 : single x = true) (h : D dm ρ x v) : v.oneCell' = true ∧ v.cells = #[v] := by
  cases x <;> simp only [single, Bool.false_eq_true] at h1 <;> simp only [D] at h
  · rw [h.1]; exact ⟨rfl, rfl⟩
  · rw [h]; exact ⟨rfl, rfl⟩
  · rw [h.1]; exact ⟨rfl, rfl⟩
  · rw [h]; exact ⟨rfl, rfl⟩
  · rw [h]; exact ⟨rfl, rfl⟩
  · rw [h.2]; exact ⟨rfl, rfl⟩
  · obtain ⟨_, _, _, _, a, cap, h, _⟩ := h; rw [h]; exact ⟨rfl, rfl⟩
  · rw [h]; exact ⟨rfl, rfl⟩
  · obtain ⟨_, _, _, a, cap, h, _⟩ := h; rw [h]; exact ⟨rfl, rfl⟩

theorem SegD.oneCell {dm : Nat → Prop} {ρ : Nat → Pl} {g : Seg} {cs : List Value} (h : SegD dm ρ g cs) : ∀ v ∈ cs, v.oneCell' = true := by
  cases g with
  | one x => obtain ⟨h0, v, h1, h2⟩ := h; intro u hu; rw [h2] at hu; simp at hu; rw [hu]; exact (single_cell h0 h1).1
  | arr k n ex l => obtain ⟨_, _, h2⟩ := h; intro u hu; rw [h2] at hu; simp at hu; obtain ⟨z, _, rfl⟩ := hu; rfl
  | rowI k l => obtain ⟨_, h2⟩ := h; intro u hu; rw [h2] at hu; simp at hu; obtain ⟨z, _, rfl⟩ := hu; rfl
  | rowA k n l => obtain ⟨_, h2⟩ := h; intro u hu; rw [h2] at hu; simp only [List.mem_map] at hu; obtain ⟨z, _, rfl⟩ := hu; rfl

theorem SegsD.oneCell {dm : Nat → Prop} {ρ : Nat → Pl} : ∀ {l : List Seg} {cs : List Value}, SegsD dm ρ l cs → ∀ v ∈ cs, v.oneCell' = true
  | [], cs, h => by intro v hv; rw [show cs = [] from h] at hv; cases hv
  | g :: r, cs, h => by
    obtain ⟨c1, c2, h1, h2, h3⟩ := h
    intro v hv
    rw [h2] at hv
    rcases List.mem_append.1 hv with hv | hv
    · exact h1.oneCell v hv
    · exact SegsD.oneCell h3 v hv

theorem SegsD.append {dm : Nat → Prop} {ρ : Nat → Pl} : ∀ {l l' : List Seg} {cs cs' : List Value}, SegsD dm ρ l cs → SegsD dm ρ l' cs' → SegsD dm ρ (l ++ l') (cs ++ cs')
  | [], l', cs, cs', h, h' => by rw [show cs = [] from h]; exact h'
  | g :: r, l', cs, cs', h, h' => by
    obtain ⟨c1, c2, h1, h2, h3⟩ := h
    exact ⟨c1, c2 ++ cs', h1, by rw [h2, List.append_assoc], SegsD.append h3 h'⟩

mutual
/-- What a value's pieces are. -/
theorem segsOf_D {dm : Nat → Prop} {ρ : Nat → Pl} : ∀ (x : SV) (l : List Seg) (v : Value), segsOf x = some l → D dm ρ x v → SegsD dm ρ l v.cells.toList
  | .i k a, l, v, hs, h => by
    simp only [segsOf, Option.some.injEq] at hs; subst hs
    have := single_cell (x := .i k a) rfl h
    exact ⟨[v], [], ⟨rfl, v, h, rfl⟩, by rw [this.2]; rfl, rfl⟩
  | .b st y, l, v, hs, h => by
    simp only [segsOf, Option.some.injEq] at hs; subst hs
    have := single_cell (x := .b st y) rfl h
    exact ⟨[v], [], ⟨rfl, v, h, rfl⟩, by rw [this.2]; rfl, rfl⟩
  | .s y, l, v, hs, h => by
    simp only [segsOf, Option.some.injEq] at hs; subst hs
    have := single_cell (x := .s y) rfl h
    exact ⟨[v], [], ⟨rfl, v, h, rfl⟩, by rw [this.2]; rfl, rfl⟩
  | .np, l, v, hs, h => by
    simp only [segsOf, Option.some.injEq] at hs; subst hs
    have := single_cell (x := .np) rfl h
    exact ⟨[v], [], ⟨rfl, v, h, rfl⟩, by rw [this.2]; rfl, rfl⟩
  | .nsl, l, v, hs, h => by
    simp only [segsOf, Option.some.injEq] at hs; subst hs
    have := single_cell (x := .nsl) rfl h
    exact ⟨[v], [], ⟨rfl, v, h, rfl⟩, by rw [this.2]; rfl, rfl⟩
  | .p key c, l, v, hs, h => by
    simp only [segsOf, Option.some.injEq] at hs; subst hs
    have := single_cell (x := .p key c) rfl h
    exact ⟨[v], [], ⟨rfl, v, h, rfl⟩, by rw [this.2]; rfl, rfl⟩
  | .sl key c est off len, l, v, hs, h => by
    simp only [segsOf, Option.some.injEq] at hs; subst hs
    have := single_cell (x := .sl key c est off len) rfl h
    exact ⟨[v], [], ⟨rfl, v, h, rfl⟩, by rw [this.2]; rfl, rfl⟩
  | .fn f, l, v, hs, h => by
    simp only [segsOf, Option.some.injEq] at hs; subst hs
    have := single_cell (x := .fn f) rfl h
    exact ⟨[v], [], ⟨rfl, v, h, rfl⟩, by rw [this.2]; rfl, rfl⟩
  | .ro key sh d, l, v, hs, h => by
    simp only [segsOf, Option.some.injEq] at hs; subst hs
    have := single_cell (x := .ro key sh d) rfl h
    exact ⟨[v], [], ⟨rfl, v, h, rfl⟩, by rw [this.2]; rfl, rfl⟩
  | .arr k n ex y, l, v, hs, h => by
    simp only [segsOf, Option.some.injEq] at hs; subst hs
    simp only [D] at h
    obtain ⟨h1, h2, h3⟩ := h
    exact ⟨y.map (Value.int k), [], ⟨h1, h2, rfl⟩, by rw [h3]; simp [Value.cells], rfl⟩
  | .agg xs, l, v, hs, h => by
    simp only [segsOf] at hs
    simp only [D] at h
    obtain ⟨cs, h1, h2⟩ := h
    rw [h2]
    exact segsAll_D xs l cs hs h1
  | .tup _, l, v, hs, h => by simp [segsOf] at hs
  | .pd .., l, v, hs, h => by simp [segsOf] at hs
  | .rop .., l, v, hs, h => by simp [segsOf] at hs
  | .val _, l, v, hs, h => by simp [segsOf] at hs
  | .any, l, v, hs, h => by simp [segsOf] at hs
theorem segsAll_D {dm : Nat → Prop} {ρ : Nat → Pl} : ∀ (xs : List SV) (l : List Seg) (cs : List Value), segsAll xs = some l → Cs dm ρ xs cs → SegsD dm ρ l cs
  | [], l, cs, hs, h => by
    simp only [segsAll, Option.some.injEq] at hs; subst hs; exact h
  | x :: r, l, cs, hs, h => by
    simp only [Cs] at h
    obtain ⟨v, c, h1, h2, h3⟩ := h
    simp only [segsAll] at hs
    split at hs
    · rename_i a b ha hb
      simp only [Option.some.injEq] at hs; subst hs
      rw [h2]
      exact (segsOf_D x a v ha h1).append (segsAll_D r b c hb h3)
    · cases hs
end

theorem Value.cells_agg (cs : Array Value) : (Value.agg cs).cells = cs := rfl

/-- A value that has pieces: how it is stored. -/
theorem segsOf_cells {dm : Nat → Prop} {ρ : Nat → Pl} {x : SV} {l : List Seg} {v : Value} (hs : segsOf x = some l) (h : D dm ρ x v) :
    (∃ cs, v = .agg cs) ∨ (v.cells = #[v] ∧ v.oneCell' = true) := by
  cases x <;> simp only [segsOf, Option.some.injEq, reduceCtorEq] at hs
  case arr => simp only [D] at h; exact .inl ⟨_, h.2.2⟩
  case agg => simp only [D] at h; obtain ⟨cs, _, h⟩ := h; exact .inl ⟨_, h⟩
  all_goals (have := single_cell (x := _) rfl h; exact .inr ⟨this.2, this.1⟩)

/-! ### A piece, found -/

theorem segLen_D {dm : Nat → Prop} {ρ : Nat → Pl} {g : Seg} {cs : List Value} {n : Nat} (h : SegD dm ρ g cs) (hn : segLen g = some n) : cs.length = n := by
  cases g <;> simp only [segLen, Option.some.injEq, reduceCtorEq] at hn
  · obtain ⟨_, v, _, h2⟩ := h; rw [h2]; exact hn
  · obtain ⟨h0, _, h2⟩ := h; rw [h2]; simp; omega

theorem segAt_D {dm : Nat → Prop} {ρ : Nat → Pl} : ∀ (l : List Seg) (c : Nat) (vs : List Value) (g : Seg) (j : Nat), SegsD dm ρ l vs → segAt l c = some (g, j) →
    ∃ pre cs post, vs = pre ++ cs ++ post ∧ SegD dm ρ g cs ∧ pre.length + j = c ∧ (∀ n, segLen g = some n → j < n) ∧
      ∀ g' cs' l', segSet l c g' = some l' → SegD dm ρ g' cs' → SegsD dm ρ l' (pre ++ cs' ++ post)
  | [], c, vs, g, j, h, ha => by simp [segAt] at ha
  | g0 :: r, c, vs, g, j, h, ha => by
    obtain ⟨c1, c2, h1, h2, h3⟩ := h
    simp only [segAt] at ha
    split at ha
    · rename_i n hn
      have hl := segLen_D h1 hn
      split at ha
      · rename_i hb
        have hle : n ≤ c := Nat.le_of_ble_eq_true hb
        obtain ⟨pre, cs, post, e1, e2, e3, e4, e5⟩ := segAt_D r (c - n) c2 g j h3 ha
        refine ⟨c1 ++ pre, cs, post, by rw [h2, e1]; simp [List.append_assoc], e2, by simp [hl]; omega, e4, fun g' cs' l' hs hg => ?_⟩
        simp only [segSet, hn, hb] at hs
        split at hs
        · rename_i r' hr'
          simp only [Option.some.injEq] at hs; subst hs
          exact ⟨c1, pre ++ cs' ++ post, h1, by simp [List.append_assoc], e5 g' cs' r' hr' hg⟩
        · cases hs
      · rename_i hb
        simp only [Option.some.injEq, Prod.mk.injEq] at ha
        obtain ⟨rfl, rfl⟩ := ha
        have hlt : c < n := by
          rcases Nat.lt_or_ge c n with h | h
          · exact h
          · rw [Nat.ble_eq_true_of_le h] at hb; cases hb
        refine ⟨[], c1, c2, by simpa using h2, h1, by simp, (fun n' hn' => by rw [hn] at hn'; simp at hn'; omega), fun g' cs' l' hs hg => ?_⟩
        simp only [segSet, hn, hb, Option.some.injEq] at hs
        subst hs
        exact ⟨cs', c2, hg, by simp, h3⟩
    · rename_i hn
      simp only [Option.some.injEq, Prod.mk.injEq] at ha
      obtain ⟨rfl, rfl⟩ := ha
      refine ⟨[], c1, c2, by simpa using h2, h1, by simp, (fun n' hn' => by rw [hn] at hn'; cases hn'), fun g' cs' l' hs hg => ?_⟩
      simp only [segSet, hn, Option.some.injEq] at hs
      subst hs
      exact ⟨cs', c2, hg, by simp, h3⟩

end Go.Gx
