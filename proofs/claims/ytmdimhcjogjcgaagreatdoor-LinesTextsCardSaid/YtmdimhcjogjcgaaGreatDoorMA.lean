/- What a plain value says of a value in memory. -/
import Derived.Test.YtmdimhcjogjcgaaGreatDoorMH
import Derived.Calls
import Derived.Below
import Derived.ArgAppend
import Derived.Laws.Cells
set_option linter.unusedVariables false
set_option linter.unusedSimpArgs false
set_option linter.unusedSectionVars false
set_option linter.deprecated false
set_option linter.unnecessarySimpa false
namespace Go.Proofs.YtmdimhcjogjcgaaGreatDoor.Abs
open Go.RowKit

inductive Hold where
  | slot (d : Nat)
  | cell (d off : Nat)
  | comp (d i : Nat)
  | ret (i : Nat)
deriving DecidableEq
/-- What a block is: never written any more; from some cell on its holder may still write; a box. -/
inductive Kind where
  | frz
  | own (st : Nat) (h : Hold)
  | box (d : Nat)
abbrev Cls := Nat → Kind
def stab (c : Cls) (b i : Nat) : Prop := match c b with
  | .frz => True
  | .own st _ => i < st
  | .box _ => False

inductive Rep (w : World) (c : Cls) : Value → AV → Prop where
  | undef (v : Value) (h : v.oneCell' = true) : Rep w c v .undef
  | bool (b : Bool) : Rep w c (.bool b) (.bool b)
  | int (k : IntKind) (n : Int) : Rep w c (.int k n) (.int k n)
  | str (s : ByteArray) : Rep w c (.string s) (.str s.data.toList)
  | nilc : Rep w c (.slice none 0 0) .nil
  | nil (sz : Nat) : Rep w c (.slice none 0 0) (.sl sz [])
  | emp (a : Addr) (cap sz : Nat) : Rep w c (.slice (some a) 0 cap) (.sl sz [])
  | sl (b o cap sz : Nat) (l : List (List AV)) (f : Nat → Nat → Value) (hcap : l.length ≤ cap)
      (hsz : ∀ (i : Nat) (cs : List AV), l[i]? = some cs → cs.length = sz)
      (hc : ∀ i j, i < l.length → j < sz → w.cell? ⟨b, o + (i * sz + j), none⟩ = some (f i j))
      (hs : ∀ i j, i < l.length → j < sz → stab c b (o + (i * sz + j)))
      (hr : ∀ (i j : Nat) (cs : List AV) (a : AV), l[i]? = some cs → cs[j]? = some a → Rep w c (f i j) a) : Rep w c (.slice (some ⟨b, o, none⟩) l.length cap) (.sl sz l)
  | eptr (b o sz : Nat) (cs : List AV) (off : Nat) (f : Nat → Value) (hsz : cs.length = sz)
      (hc : ∀ j, j < sz → w.cell? ⟨b, o + j, none⟩ = some (f j))
      (hs : ∀ j, j < sz → stab c b (o + j))
      (hr : ∀ (j : Nat) (a : AV), cs[j]? = some a → Rep w c (f j) a) : Rep w c (.pointer (some ⟨b, o + off, none⟩)) (.eptr sz cs off)
  | fn (f : Nat) (vs : Array Value) (as_ : List AV) (hsz : vs.size = as_.length) (hr : ∀ (i : Nat) (v : Value) (a : AV), vs[i]? = some v → as_[i]? = some a → Rep w c v a) : Rep w c (.func (.func f) #[] vs) (.fn f as_)

/-- Later: what was never to be written stands as it stood. -/
structure Ext (B : Nat) (w : World) (c : Cls) (w' : World) (c' : Cls) : Prop where
  os : w'.os = w.os
  tape : w'.tape = w.tape
  output : w'.output = w.output
  size : w.heap.size ≤ w'.heap.size
  old : ∀ b, b < B → b < w.heap.size → w'.heap[b]? = w.heap[b]? ∧ c' b = c b
  cell : ∀ b i v, w.cell? ⟨b, i, none⟩ = some v → stab c b i → w'.cell? ⟨b, i, none⟩ = some v ∧ stab c' b i

theorem Ext.refl (B : Nat) (w : World) (c : Cls) : Ext B w c w c := ⟨rfl, rfl, rfl, Nat.le_refl _, fun _ _ _ => ⟨rfl, rfl⟩, fun _ _ _ h hs => ⟨h, hs⟩⟩
theorem Ext.trans {B : Nat} {w w' w'' : World} {c c' c'' : Cls} (h : Ext B w c w' c') (k : Ext B w' c' w'' c'') : Ext B w c w'' c'' :=
  ⟨k.os.trans h.os, k.tape.trans h.tape, k.output.trans h.output, Nat.le_trans h.size k.size, fun b hb hb' => by
    have h1 := h.old b hb hb'
    have h2 := k.old b hb (Nat.lt_of_lt_of_le hb' h.size)
    exact ⟨h2.1.trans h1.1, h2.2.trans h1.2⟩, fun b i v hv hs => by
    have h1 := h.cell b i v hv hs
    exact k.cell b i v h1.1 h1.2⟩
theorem Ext.mono {B B' : Nat} {w w' : World} {c c' : Cls} (h : Ext B w c w' c') (hB : B' ≤ B) : Ext B' w c w' c' :=
  ⟨h.os, h.tape, h.output, h.size, fun b hb => h.old b (by omega), h.cell⟩
theorem Rep.ext {B : Nat} {w w' : World} {c c' : Cls} (he : Ext B w c w' c') {v : Value} {a : AV} (h : Rep w c v a) : Rep w' c' v a := by
  induction h with
  | undef v h => exact .undef v h
  | bool b => exact .bool b
  | int k n => exact .int k n
  | str s => exact .str s
  | nilc => exact .nilc
  | nil sz => exact .nil sz
  | emp a cap sz => exact .emp a cap sz
  | sl b o cap sz l f hcap hsz hc hs hr ih =>
    exact .sl b o cap sz l f hcap hsz (fun i j hi hj => (he.cell _ _ _ (hc i j hi hj) (hs i j hi hj)).1) (fun i j hi hj => (he.cell _ _ _ (hc i j hi hj) (hs i j hi hj)).2) ih
  | eptr b o sz cs off f hsz hc hs hr ih =>
    exact .eptr b o sz cs off f hsz (fun j hj => (he.cell _ _ _ (hc j hj) (hs j hj)).1) (fun j hj => (he.cell _ _ _ (hc j hj) (hs j hj)).2) ih
  | fn f vs as_ hsz hr ih => exact .fn f vs as_ hsz ih

/-- A struct or array by value. -/
def AggR (w : World) (c : Cls) (v : Value) (sz : Nat) (cs : List AV) : Prop :=
  ∃ vs : Array Value, v = .agg vs ∧ vs.size = sz ∧ cs.length = sz ∧ ∀ (j : Nat) (a : AV) (u : Value), cs[j]? = some a → vs[j]? = some u → Rep w c u a
theorem AggR.ext {B : Nat} {w w' : World} {c c' : Cls} (he : Ext B w c w' c') {v : Value} {sz : Nat} {cs : List AV} (h : AggR w c v sz cs) : AggR w' c' v sz cs := by
  obtain ⟨vs, h1, h2, h3, h4⟩ := h
  exact ⟨vs, h1, h2, h3, fun j a u ha hu => (h4 j a u ha hu).ext he⟩
/-- A slice that its holder may let grow. -/
def OwnR (B : Nat) (w : World) (c : Cls) (h : Hold) (v : Value) (sz : Nat) (l : List (List AV)) : Prop :=
  Rep w c v (.sl sz l) ∧ ((v = .slice none 0 0 ∧ l = []) ∨
    ∃ b cap vs ty, v = .slice (some ⟨b, 0, none⟩) l.length cap ∧ B ≤ b ∧ w.heap[b]? = some (.cells vs ty (0, 0)) ∧ vs.size = cap * sz ∧ cap ≤ maxLen ∧ l.length ≤ cap ∧ c b = .own (l.length * sz) h)
/-- A value as an argument or a part. -/
def PlainR (w : World) (c : Cls) (v : Value) (a : AV) : Prop := match a with
  | .agg sz cs => AggR w c v sz cs
  | .own _ _ => False
  | .boxv _ _ _ => False
  | .fptr _ _ => False
  | .vw _ _ _ => False
  | .vwc _ _ _ _ => False
  | .tup _ => False
  | .lit _ _ _ => False
  | .undef => False
  | a => Rep w c v a
theorem PlainR.ext {B : Nat} {w w' : World} {c c' : Cls} (he : Ext B w c w' c') {v : Value} {a : AV} (h : PlainR w c v a) : PlainR w' c' v a := by
  cases a <;> first | exact h.elim | exact AggR.ext he h | exact Rep.ext he h
/-- A part of a result: 'h' holds it if it may grow. -/
def PartR (B : Nat) (w : World) (c : Cls) (h : Hold) (v : Value) (a : AV) : Prop := match a with
  | .own sz l => OwnR B w c h v sz l
  | a => PlainR w c v a
/-- A result. -/
def ResR (B : Nat) (w : World) (c : Cls) (v : Value) (a : AV) : Prop := match a with
  | .tup l => ∃ vs : Array Value, v = .tuple vs ∧ vs.size = l.length ∧ ∀ (i : Nat) (x : AV) (u : Value), l[i]? = some x → vs[i]? = some u → PartR B w c (.ret i) u x
  | a => PartR B w c (.ret 0) v a

/-- What is known of the package-level variables. -/
def GOK (τ : Tab) (w : World) (c : Cls) : Prop := ∀ g cs, τ.G g = some cs → Rep w c (.pointer (some ⟨g, 0, none⟩)) (.eptr cs.length cs 0)
theorem GOK.ext {τ : Tab} {B : Nat} {w w' : World} {c c' : Cls} (he : Ext B w c w' c') (h : GOK τ w c) : GOK τ w' c' := fun g cs hg => (h g cs hg).ext he

/-- An argument: as a value stands, or as one that a function literal took along. -/
def ArgR (w : World) (c : Cls) (v : Value) (a : AV) : Prop := PlainR w c v a ∨ Rep w c v a
/-- A call of f: it is entered and comes back, or it is the library's and answers at once. -/
def CallsTo (P : Program) (f : Nat) (vs : Array Value) (w : World) (R : Value → World → Prop) : Prop :=
  ((callFunc f vs).run P w = .ok (.enter f vs) w ∧ Calls P f vs w fun x w' => ∃ v, x = .returned v ∧ R v w') ∨ ∃ v w', (callFunc f vs).run P w = .ok (.value v) w' ∧ R v w'
/-- What a function's code comes to is what a call of it hands back. -/
def PC (P : Program) (τ : Tab) (f : Nat) (l : List AV) (r : AV) : Prop := ∀ (w : World) (c : Cls) (vs : Array Value), GOK τ w c → vs.size = l.length →
  (∀ (i : Nat) (v : Value) (a : AV), vs[i]? = some v → l[i]? = some a → ArgR w c v a) →
  CallsTo P f vs w fun v w' => ∃ c', Ext w.heap.size w c w' c' ∧ ResR w.heap.size w' c' v r

/-! ### A frame: its slots, the world, the plain env -/
def CellR (B : Nat) (w : World) (c : Cls) (d j : Nat) (v : Value) (a : AV) : Prop := match a with
  | .own sz l => OwnR B w c (.cell d j) v sz l
  | a => Rep w c v a
def BoxR (B : Nat) (w : World) (c : Cls) (d : Nat) (v : Value) (sz : Nat) (cs : List AV) (m : List (Nat × AV)) : Prop :=
  ∃ b vs ty, v = .pointer (some ⟨b, 0, none⟩) ∧ B ≤ b ∧ w.heap[b]? = some (.cells vs ty (0, 0)) ∧ c b = .box d ∧ vs.size = sz ∧ cs.length = sz ∧
    (∀ (j : Nat) (a : AV) (u : Value), ovr m j = none → cs[j]? = some a → vs[j]? = some u → Rep w c u a) ∧ (∀ (j : Nat) (a : AV) (u : Value), ovr m j = some a → vs[j]? = some u → CellR B w c d j u a) ∧ ∀ (j : Nat) (a : AV), ovr m j = some a → j < sz
def SlotR (B : Nat) (w : World) (c : Cls) (T : Nat → Value) (e : Env) (d : Nat) (v : Value) (a : AV) : Prop := match a with
  | .undef => True
  | .own sz l => OwnR B w c (.slot d) v sz l
  | .agg sz cs => AggR w c v sz cs
  | .lit sz cs m => AggR w c v sz cs ∧ ∀ j z, (j, z) ∈ m → ∃ vs : Array Value, v = .agg vs ∧ vs[j]? = some (.slice none 0 0)
  | .boxv sz cs m => BoxR B w c d v sz cs m
  | .fptr q off => (∀ z cs m, e q = .boxv z cs m → ∃ b, T q = .pointer (some ⟨b, 0, none⟩) ∧ v = .pointer (some ⟨b, off, none⟩))
  | .vw q sz l => Rep w c v (.sl sz l) ∧ (∀ z l', e q = .own z l' → v = T q)
  | .vwc q off sz l => Rep w c v (.sl sz l) ∧ (∀ z cs m z' l', e q = .boxv z cs m → ovr m off = some (.own z' l') → ∃ b, T q = .pointer (some ⟨b, 0, none⟩) ∧ w.cell? ⟨b, off, none⟩ = some v)
  | .tup l => ∃ vs : Array Value, v = .tuple vs ∧ vs.size = l.length ∧ ∀ (i : Nat) (x : AV) (u : Value), l[i]? = some x → vs[i]? = some u → PartR B w c (.comp d i) u x
  | a => Rep w c v a
structure SRel (τ : Tab) (B : Nat) (w : World) (c : Cls) (T : Nat → Value) (e : Env) : Prop where
  base : B ≤ w.heap.size
  g : GOK τ w c
  slot : ∀ d, SlotR B w c T e d (T d) (e d)

theorem Ext.lt {B : Nat} {w w' : World} {c c' : Cls} (he : Ext w.heap.size w c w' c') {b : Nat} {o : Obj} (h : w.heap[b]? = some o) : w'.heap[b]? = some o ∧ c' b = c b := by
  have hb : b < w.heap.size := (Array.getElem?_eq_some_iff.1 h).1
  have := he.old b hb hb
  exact ⟨this.1.trans h, this.2⟩
theorem OwnR.alloc {B : Nat} {w w' : World} {c c' : Cls} (he : Ext w.heap.size w c w' c') {h : Hold} {v : Value} {sz : Nat} {l : List (List AV)} (ho : OwnR B w c h v sz l) : OwnR B w' c' h v sz l := by
  refine ⟨ho.1.ext he, ho.2.imp id ?_⟩
  rintro ⟨b, cap, vs, ty, h1, h2, h3, h4, h5, h6, h7⟩
  have := he.lt (B := 0) h3
  exact ⟨b, cap, vs, ty, h1, h2, this.1, h4, h5, h6, this.2.trans h7⟩
theorem PartR.alloc {B : Nat} {w w' : World} {c c' : Cls} (he : Ext w.heap.size w c w' c') {h : Hold} {v : Value} {a : AV} (hp : PartR B w c h v a) : PartR B w' c' h v a := by
  cases a <;> simp only [PartR] at hp ⊢ <;> first | exact OwnR.alloc he hp | exact PlainR.ext he hp
theorem CellR.alloc {B : Nat} {w w' : World} {c c' : Cls} (he : Ext w.heap.size w c w' c') {d j : Nat} {v : Value} {a : AV} (hp : CellR B w c d j v a) : CellR B w' c' d j v a := by
  cases a <;> first | exact OwnR.alloc he hp | exact Rep.ext he hp
theorem BoxR.alloc {B : Nat} {w w' : World} {c c' : Cls} (he : Ext w.heap.size w c w' c') {d : Nat} {v : Value} {sz : Nat} {cs : List AV} {m : List (Nat × AV)} (hp : BoxR B w c d v sz cs m) : BoxR B w' c' d v sz cs m := by
  obtain ⟨b, vs, ty, h1, h2, h3, h4, h5, h6, h7, h8, h9⟩ := hp
  have := he.lt (B := 0) h3
  exact ⟨b, vs, ty, h1, h2, this.1, this.2.trans h4, h5, h6, fun j a u x y z => (h7 j a u x y z).ext he, fun j a u x y => (h8 j a u x y).alloc he, h9⟩
theorem cell_heap {w w' : World} {a : Addr} (h : w'.heap[a.block]? = w.heap[a.block]?) : w'.cell? a = w.cell? a := by simp [World.cell?, h]
theorem cell_lt {w : World} {b i : Nat} {v : Value} (h : w.cell? ⟨b, i, none⟩ = some v) : b < w.heap.size := by
  unfold World.cell? at h
  split at h
  · rename_i x; exact (Array.getElem?_eq_some_iff.1 x).1
  · cases h
theorem Ext.cells {w w' : World} {c c' : Cls} (he : Ext w.heap.size w c w' c') {b i : Nat} {v : Value} (h : w.cell? ⟨b, i, none⟩ = some v) : w'.cell? ⟨b, i, none⟩ = some v := by
  have hb := cell_lt h
  rw [cell_heap (w := w) (he.old b hb hb).1]; exact h
theorem SlotR.alloc {B : Nat} {w w' : World} {c c' : Cls} (he : Ext w.heap.size w c w' c') {T : Nat → Value} {e : Env} {d : Nat} {v : Value} {a : AV} (h : SlotR B w c T e d v a) : SlotR B w' c' T e d v a := by
  cases a <;> first
    | exact h
    | exact OwnR.alloc he h
    | exact AggR.ext he h
    | exact BoxR.alloc he h
    | exact Rep.ext he h
    | skip
  case lit sz l m => exact ⟨AggR.ext he h.1, h.2⟩
  case vw q sz l => exact ⟨h.1.ext he, h.2⟩
  case vwc q off sz l =>
    refine ⟨h.1.ext he, fun z cs m z' l' h1 h2 => ?_⟩
    obtain ⟨b, h3, h4⟩ := h.2 z cs m z' l' h1 h2
    exact ⟨b, h3, he.cells h4⟩
  case tup l =>
    obtain ⟨vs, h1, h2, h3⟩ := h
    exact ⟨vs, h1, h2, fun i x u hx hu => (h3 i x u hx hu).alloc he⟩
theorem SRel.alloc {τ : Tab} {B : Nat} {w w' : World} {c c' : Cls} {T : Nat → Value} {e : Env} (he : Ext w.heap.size w c w' c') (h : SRel τ B w c T e) : SRel τ B w' c' T e :=
  ⟨Nat.le_trans h.base he.size, h.g.ext he, fun d => (h.slot d).alloc he⟩

/-- Less is said. -/
inductive Weak : AV → AV → Prop where
  | refl (a : AV) : Weak a a
  | undef (a : AV) : Weak a .undef
  | vw (q sz : Nat) (l : List (List AV)) : Weak (.vw q sz l) (.sl sz l)
  | vwc (q off sz : Nat) (l : List (List AV)) : Weak (.vwc q off sz l) (.sl sz l)
  | own (sz : Nat) (l : List (List AV)) : Weak (.own sz l) (.sl sz l)
def upd (T : Nat → Value) (d : Nat) (v : Value) : Nat → Value := fun i => if i = d then v else T i
theorem Weak.eq_boxv {a : AV} {z : Nat} {cs : List AV} {m : List (Nat × AV)} (h : Weak a (.boxv z cs m)) : a = .boxv z cs m := by cases h; rfl
theorem Weak.eq_own {a : AV} {z : Nat} {l : List (List AV)} (h : Weak a (.own z l)) : a = .own z l := by cases h; rfl
/-- A slot that is left alone, the env having become weaker elsewhere. -/
theorem SlotR.weak {B : Nat} {w : World} {c : Cls} {T T' : Nat → Value} {e e' : Env} {d : Nat} {v : Value} {a a' : AV} (h : SlotR B w c T e d v a) (hw : Weak a a')
    (he : ∀ q, (∃ o, a' = .fptr q o) ∨ (∃ z l, a' = .vw q z l) ∨ (∃ o z l, a' = .vwc q o z l) → (Weak (e q) (e' q) ∧ T' q = T q) ∨ ((∀ z cs m, e' q ≠ .boxv z cs m) ∧ ∀ z l, e' q ≠ .own z l)) : SlotR B w c T' e' d v a' := by
  cases hw with
  | undef => trivial
  | vw q sz l => exact h.1
  | vwc q off sz l => exact h.1
  | own sz l => exact h.1
  | refl =>
    cases a <;> first
      | exact h
      | skip
    case fptr q off =>
      intro z cs m hq
      rcases he q (.inl ⟨_, rfl⟩) with ⟨hw, hT⟩ | ⟨h1, h2⟩
      · have := h z cs m (by rw [hq] at hw; exact hw.eq_boxv)
        rw [hT]; exact this
      · exact absurd hq (h1 z cs m)
    case vw q sz l =>
      refine ⟨h.1, fun z l' hq => ?_⟩
      rcases he q (.inr (.inl ⟨_, _, rfl⟩)) with ⟨hw, hT⟩ | ⟨h1, h2⟩
      · have := h.2 z l' (by rw [hq] at hw; exact hw.eq_own)
        rw [hT]; exact this
      · exact absurd hq (h2 z l')
    case vwc q off sz l =>
      refine ⟨h.1, fun z cs m z' l' hq ho => ?_⟩
      rcases he q (.inr (.inr ⟨_, _, _, rfl⟩)) with ⟨hw, hT⟩ | ⟨h1, h2⟩
      · have := h.2 z cs m z' l' (by rw [hq] at hw; exact hw.eq_boxv) ho
        rw [hT]; exact this
      · exact absurd hq (h1 z cs m)
theorem SRel.weak {τ : Tab} {B : Nat} {w : World} {c : Cls} {T : Nat → Value} {e e' : Env} (h : SRel τ B w c T e) (hw : ∀ s, Weak (e s) (e' s)) : SRel τ B w c T e' :=
  ⟨h.base, h.g, fun d => (h.slot d).weak (hw d) fun q _ => .inl ⟨hw q, rfl⟩⟩
/-- One slot is written. -/
theorem SRel.put {τ : Tab} {B : Nat} {w : World} {c : Cls} {T : Nat → Value} {e e' : Env} {d : Nat} {u : Value} {v : AV} (h : SRel τ B w c T e) (hv : SlotR B w c T e d u v) (hd : e' d = v)
    (hw : ∀ s, s ≠ d → Weak (e s) (e' s)) (hr : holds v = true → ∀ s, s ≠ d → (∀ o, e' s ≠ .fptr d o) ∧ (∀ z l, e' s ≠ .vw d z l) ∧ (∀ o z l, e' s ≠ .vwc d o z l)) : SRel τ B w c (upd T d u) e' := by
  have hno : holds v = false → (∀ z cs m, e' d ≠ .boxv z cs m) ∧ ∀ z l, e' d ≠ .own z l := fun hh => by
    rw [hd]; exact ⟨fun z cs m hx => (by rw [hx] at hh; cases hh), fun z l hx => (by rw [hx] at hh; cases hh)⟩
  refine ⟨h.base, h.g, fun s => ?_⟩
  by_cases hs : s = d
  · subst hs
    rw [hd, show upd T s u s = u by simp [upd]]
    refine hv.weak (.refl _) fun q hq => ?_
    by_cases hqs : q = s
    · subst hqs
      refine .inr (hno ?_)
      rcases hq with ⟨o, rfl⟩ | ⟨z, l, rfl⟩ | ⟨o, z, l, rfl⟩ <;> rfl
    · exact .inl ⟨hw q hqs, by simp [upd, hqs]⟩
  · rw [show upd T d u s = T s by simp [upd, hs]]
    refine (h.slot s).weak (hw s hs) fun q hq => ?_
    by_cases hqd : q = d
    · subst hqd
      cases hh : holds v with
      | false => exact .inr (hno hh)
      | true =>
        obtain ⟨r1, r2, r3⟩ := hr hh s hs
        rcases hq with ⟨o, hx⟩ | ⟨z, l, hx⟩ | ⟨o, z, l, hx⟩
        · exact absurd hx (r1 o)
        · exact absurd hx (r2 z l)
        · exact absurd hx (r3 o z l)
    · exact .inl ⟨hw q hqd, by simp [upd, hqd]⟩
theorem set_same (e : Env) (d : Nat) (v : AV) : set e d v d = v := by simp [set, pick2]
theorem set_ne (e : Env) {d s : Nat} (v : AV) (h : s ≠ d) : set e d v s = e s := by
  have : Nat.beq s d = false := by cases hb : Nat.beq s d with | false => rfl | true => exact absurd (Nat.eq_of_beq_eq_true hb) h
  simp [set, pick2, this]
theorem beq_ne {a b : Nat} (h : a ≠ b) : Nat.beq a b = false := by
  cases hb : Nat.beq a b with | false => rfl | true => exact absurd (Nat.eq_of_beq_eq_true hb) h
theorem beq_rfl (a : Nat) : Nat.beq a a = true := by simp
theorem klv_weak (d : Nat) (a : AV) : Weak a (klv d a) := by
  cases a <;> first
    | exact .refl _
    | skip
  case fptr q o => show Weak _ (pick2 _ _ _); cases Nat.beq q d <;> first | exact .refl _ | exact .undef _
  case vw q z l => show Weak _ (pick2 _ _ _); cases Nat.beq q d <;> first | exact .refl _ | exact .vw ..
  case vwc q o z l => show Weak _ (pick2 _ _ _); cases Nat.beq q d <;> first | exact .refl _ | exact .vwc ..
theorem klv_no (d : Nat) (a : AV) : (∀ o, klv d a ≠ .fptr d o) ∧ (∀ z l, klv d a ≠ .vw d z l) ∧ (∀ o z l, klv d a ≠ .vwc d o z l) := by
  cases a <;> first
    | (refine ⟨fun o => ?_, fun z l => ?_, fun o z l => ?_⟩ <;> (simp [klv]; done))
    | skip
  case fptr q o =>
    by_cases h : q = d
    · subst h; simp [klv, pick2]
    · simp [klv, pick2, beq_ne h, h]
  case vw q z l =>
    by_cases h : q = d
    · subst h; simp [klv, pick2]
    · simp [klv, pick2, beq_ne h, h]
  case vwc q o z l =>
    by_cases h : q = d
    · subst h; simp [klv, pick2]
    · simp [klv, pick2, beq_ne h, h]
theorem setH_false {e : Env} {d : Nat} {v : AV} (h : holds v = false) : Abs.setH e (some d) v = set e d v := by simp [Abs.setH, pick2, h]
theorem setH_true {e : Env} {d : Nat} {v : AV} (h : holds v = true) : Abs.setH e (some d) v = set (kill d e) d v := by simp [Abs.setH, pick2, h]
theorem SRel.setH {τ : Tab} {B : Nat} {w : World} {c : Cls} {T : Nat → Value} {e : Env} {d : Nat} {u : Value} {v : AV} (h : SRel τ B w c T e) (hv : SlotR B w c T e d u v) : SRel τ B w c (upd T d u) (setH e (some d) v) := by
  cases hh : holds v with
  | false =>
    rw [setH_false hh]
    refine h.put hv (set_same ..) (fun s hs => by rw [set_ne _ _ hs]; exact .refl _) (fun h => by rw [hh] at h; cases h)
  | true =>
    rw [setH_true hh]
    refine h.put hv (set_same ..) (fun s hs => by rw [set_ne _ _ hs]; exact klv_weak d _) fun _ s hs => ?_
    rw [set_ne _ _ hs]
    exact klv_no d _
theorem SRel.setO {τ : Tab} {B : Nat} {w : World} {c : Cls} {T : Nat → Value} {e : Env} {d : Nat} {u : Value} {v : AV} (h : SRel τ B w c T e) (hv : SlotR B w c T e d u v)
    (hr : ∀ s, s ≠ d → (∀ o, e s ≠ .fptr d o) ∧ (∀ z l, e s ≠ .vw d z l) ∧ (∀ o z l, e s ≠ .vwc d o z l)) : SRel τ B w c (upd T d u) (set e d v) :=
  h.put hv (set_same ..) (fun s hs => by rw [set_ne _ _ hs]; exact .refl _) (fun _ s hs => by rw [set_ne _ _ hs]; exact hr s hs)
theorem cl_weak (a : AV) : Weak a (cl a) := by cases a <;> first | exact .refl _ | exact .undef _ | exact .vw .. | exact .vwc ..
theorem SRel.clean {τ : Tab} {B : Nat} {w : World} {c : Cls} {T : Nat → Value} {e : Env} (h : SRel τ B w c T e) : SRel τ B w c T (clean e) := h.weak fun s => cl_weak _

theorem ikeq_eq {a b : IntKind} (h : ikeq a b = true) : a = b := by cases a <;> cases b <;> first | rfl | cases h
section
variable {α : Type} {r : α}
theorem guardK_inv {b : Bool} {k : Option α} (h : guardK b k = some r) : b = true ∧ k = some r := by cases b <;> first | exact ⟨rfl, h⟩ | cases h
theorem ifB_inv {b : Bool} {x y : Option α} (h : ifB b x y = some r) : (b = true ∧ x = some r) ∨ (b = false ∧ y = some r) := by cases b <;> first | exact .inl ⟨rfl, h⟩ | exact .inr ⟨rfl, h⟩
theorem asB_inv {a : AV} {k : Bool → Option α} (h : asB a k = some r) : ∃ b, a = .bool b ∧ k b = some r := by cases a <;> first | cases h | exact ⟨_, rfl, h⟩
theorem asI_inv {kd : IntKind} {a : AV} {k : Int → Option α} (h : asI kd a k = some r) : ∃ n, a = .int kd n ∧ k n = some r := by
  cases a <;> first | cases h | (obtain ⟨h1, h2⟩ := guardK_inv h; obtain rfl := ikeq_eq h1; exact ⟨_, rfl, h2⟩)
theorem asN_inv {a : AV} {k : Int → Option α} (h : asN a k = some r) : ∃ kd n, a = .int kd n ∧ k n = some r := by cases a <;> first | cases h | exact ⟨_, _, rfl, h⟩
theorem asS_inv {a : AV} {k : List UInt8 → Option α} (h : asS a k = some r) : ∃ s, a = .str s ∧ k s = some r := by cases a <;> first | cases h | exact ⟨_, rfl, h⟩
def IsL (sz : Nat) (a : AV) (l : List (List AV)) : Prop := (a = .nil ∧ l = []) ∨ a = .sl sz l ∨ a = .own sz l ∨ (∃ q, a = .vw q sz l) ∨ ∃ q o, a = .vwc q o sz l
theorem asL_inv {sz : Nat} {a : AV} {k : List (List AV) → Option α} (h : asL sz a k = some r) : ∃ l, IsL sz a l ∧ k l = some r := by
  cases a <;> first
    | (cases h; done)
    | exact ⟨[], .inl ⟨rfl, rfl⟩, h⟩
    | (obtain ⟨h1, h2⟩ := guardK_inv h; obtain rfl := Nat.eq_of_beq_eq_true h1; first
        | exact ⟨_, .inr (.inl rfl), h2⟩ | exact ⟨_, .inr (.inr (.inl rfl)), h2⟩ | exact ⟨_, .inr (.inr (.inr (.inl ⟨_, rfl⟩))), h2⟩ | exact ⟨_, .inr (.inr (.inr (.inr ⟨_, _, rfl⟩))), h2⟩)
theorem asO_inv {sz : Nat} {a : AV} {k : List (List AV) → Option α} (h : asO sz a k = some r) : ∃ l, a = .own sz l ∧ k l = some r := by
  cases a <;> first | (cases h; done) | (obtain ⟨h1, h2⟩ := guardK_inv h; obtain rfl := Nat.eq_of_beq_eq_true h1; exact ⟨_, rfl, h2⟩)
theorem asC_inv {sz : Nat} {a : AV} {k : List AV → Option α} (h : asC sz a k = some r) : ∃ c, a = .agg sz c ∧ k c = some r := by
  cases a <;> first | (cases h; done) | (obtain ⟨h1, h2⟩ := guardK_inv h; obtain rfl := Nat.eq_of_beq_eq_true h1; exact ⟨_, rfl, h2⟩)
theorem asF_inv {a : AV} {k : Nat → List AV → Option α} (h : asF a k = some r) : ∃ f c, a = .fn f c ∧ k f c = some r := by cases a <;> first | cases h | exact ⟨_, _, rfl, h⟩
theorem asT0_inv {a : AV} {k : Option α} (h : asT0 a k = some r) : a = .tup [] ∧ k = some r := by unfold asT0 at h; split at h <;> first | exact ⟨rfl, h⟩ | cases h
theorem asT2_inv {a : AV} {k : AV → AV → Option α} (h : asT2 a k = some r) : ∃ x y, a = .tup [x, y] ∧ k x y = some r := by unfold asT2 at h; split at h <;> first | cases h | exact ⟨_, _, rfl, h⟩
theorem asT3_inv {a : AV} {k : AV → AV → AV → Option α} (h : asT3 a k = some r) : ∃ x y z, a = .tup [x, y, z] ∧ k x y z = some r := by unfold asT3 at h; split at h <;> first | cases h | exact ⟨_, _, _, rfl, h⟩
theorem asT4_inv {a : AV} {k : AV → AV → AV → AV → Option α} (h : asT4 a k = some r) : ∃ x y z u, a = .tup [x, y, z, u] ∧ k x y z u = some r := by unfold asT4 at h; split at h <;> first | cases h | exact ⟨_, _, _, _, rfl, h⟩
theorem getC_inv {c : List AV} {off : Nat} {k : AV → Option α} (h : getC c off k = some r) : ∃ a, c[off]? = some a ∧ k a = some r := by
  unfold getC at h; split at h
  · rename_i a ha; exact ⟨a, ha, h⟩
  · cases h
theorem getCs_inv : ∀ {n : Nat} {c : List AV} {off : Nat} {k : List AV → Option α}, getCs n c off k = some r → ∃ l, l.length = n ∧ (∀ j, j < n → l[j]? = c[off + j]?) ∧ k l = some r
  | 0, _, _, _, h => ⟨[], rfl, fun j hj => by omega, h⟩
  | n + 1, c, off, k, h => by
    obtain ⟨a, ha, h⟩ := getC_inv h
    obtain ⟨l, hl, hj, h⟩ := getCs_inv (n := n) h
    refine ⟨a :: l, by simp [hl], fun j hjn => ?_, h⟩
    cases j with
    | zero => simp [ha]
    | succ j => simp only [List.getElem?_cons_succ]; rw [hj j (by omega)]; congr 1; omega
theorem getB_inv {c : List AV} {m : List (Nat × AV)} {off : Nat} {k : AV → Option α} (h : getB c m off k = some r) : ∃ a, (ovr m off = some a ∨ (ovr m off = none ∧ c[off]? = some a)) ∧ k a = some r := by
  unfold getB at h; split at h
  · rename_i a ha; exact ⟨a, .inl ha, h⟩
  · rename_i hn; obtain ⟨a, ha, h⟩ := getC_inv h; exact ⟨a, .inr ⟨hn, ha⟩, h⟩
theorem getBs_inv : ∀ {n : Nat} {c : List AV} {m : List (Nat × AV)} {off : Nat} {k : List AV → Option α}, getBs n c m off k = some r →
    ∃ l, l.length = n ∧ (∀ j a, l[j]? = some a → ovr m (off + j) = some a ∨ (ovr m (off + j) = none ∧ c[off + j]? = some a)) ∧ k l = some r
  | 0, _, _, _, _, h => ⟨[], rfl, fun j a ha => by simp at ha, h⟩
  | n + 1, c, m, off, k, h => by
    obtain ⟨a, ha, h⟩ := getB_inv h
    obtain ⟨l, hl, hj, h⟩ := getBs_inv (n := n) h
    refine ⟨a :: l, by simp [hl], fun j b hb => ?_, h⟩
    cases j with
    | zero => simp only [List.getElem?_cons_zero, Option.some.injEq] at hb; subst hb; exact ha
    | succ j => simp only [List.getElem?_cons_succ] at hb; have := hj j b hb; rwa [show off + 1 + j = off + (j + 1) by omega] at this
theorem nz_inv {a : AV} {k : AV → Option α} (h : nz a k = some r) : a ≠ .undef ∧ k a = some r := by cases a <;> first | cases h | exact ⟨by simp, h⟩
/-- An operand's plain value. -/
def OpV (e : Env) (x : Operand) (a : AV) : Prop := a ≠ .undef ∧ ((∃ t, x = .tmp t ∧ unlit (e t) = a) ∨ (∃ v, x = .const v ∧ cv v = a) ∨ ∃ f, x = .func f ∧ a = .fn f [])
theorem opnd_inv {e : Env} {x : Operand} {k : AV → Option α} (h : opnd e x k = some r) : ∃ a, OpV e x a ∧ k a = some r := by
  cases x with
  | tmp t => obtain ⟨h1, h2⟩ := nz_inv h; exact ⟨_, ⟨h1, .inl ⟨t, rfl, rfl⟩⟩, h2⟩
  | const v => obtain ⟨h1, h2⟩ := nz_inv h; exact ⟨_, ⟨h1, .inr (.inl ⟨v, rfl, rfl⟩)⟩, h2⟩
  | global g => cases h
  | func f => exact ⟨_, ⟨by simp, .inr (.inr ⟨f, rfl, rfl⟩)⟩, h⟩
theorem opnds_inv {e : Env} : ∀ {xs : List Operand} {k : List AV → Option α}, opnds e xs k = some r → ∃ l : List AV, l.length = xs.length ∧ (∀ (i : Nat) (x : Operand) (a : AV), xs[i]? = some x → l[i]? = some a → OpV e x a) ∧ k l = some r
  | [], _, h => ⟨[], rfl, fun i x a hx => by simp at hx, h⟩
  | x :: xs, k, h => by
    obtain ⟨a, ha, h⟩ := opnd_inv h
    obtain ⟨l, hl, hi, h⟩ := opnds_inv (xs := xs) h
    refine ⟨a :: l, by simp [hl], fun i y b hy hb => ?_, h⟩
    cases i with
    | zero => simp only [List.getElem?_cons_zero, Option.some.injEq] at hy hb; subst hy; subst hb; exact ha
    | succ i => simp only [List.getElem?_cons_succ] at hy hb; exact hi i y b hy hb
theorem idx_inv {β : Type} {l : List β} {i : Int} {k : β → Option α} (h : idx l i k = some r) : ∃ c, 0 ≤ i ∧ l[i.toNat]? = some c ∧ k c = some r := by
  obtain ⟨h1, h2⟩ := guardK_inv h
  split at h2
  · rename_i c hc; exact ⟨c, of_decide_eq_true h1, hc, h2⟩
  · cases h2
variable {τ : Tab}
theorem szOf_inv {t : Nat} {k : Nat → Option α} (h : szOf τ t k = some r) : ∃ i, τ.T t = some i ∧ k i.sz = some r := by
  unfold szOf at h; split at h
  · rename_i i hi; exact ⟨i, hi, h⟩
  · cases h
theorem infoK_inv {t : Nat} {k : TI → Option α} (h : infoK τ t k = some r) : ∃ i, τ.T t = some i ∧ k i = some r := by
  unfold infoK at h; split at h
  · rename_i i hi; exact ⟨i, hi, h⟩
  · cases h
theorem elemK_inv {t : Nat} {k : Nat → Option α} (h : elemK τ t k = some r) : ∃ e s b z, τ.T t = some ⟨.slice e, s, b, z⟩ ∧ k e = some r := by
  unfold elemK at h; split at h
  · rename_i e s b z hi; exact ⟨e, s, b, z, hi, h⟩
  · cases h
theorem sliceSz_inv {t : Nat} {k : Nat → Option α} (h : sliceSz τ t k = some r) : ∃ e s b z i, τ.T t = some ⟨.slice e, s, b, z⟩ ∧ τ.T e = some i ∧ k i.sz = some r := by
  unfold sliceSz at h; split at h
  · rename_i e s b z hi; obtain ⟨i, h1, h2⟩ := szOf_inv h; exact ⟨e, s, b, z, i, hi, h1, h2⟩
  · cases h
theorem structK_inv {t : Nat} {k : List (Nat × Nat) → Nat → List AV → Option α} (h : structK τ t k = some r) : ∃ fs s b z, τ.T t = some ⟨.struct fs, s, b, z⟩ ∧ k fs s z = some r := by
  unfold structK at h; split at h
  · rename_i fs s b z hi; exact ⟨fs, s, b, z, hi, h⟩
  · cases h
theorem fieldAt_inv {t f : Nat} {k : Nat → Nat → Option α} (h : fieldAt τ t f k = some r) : ∃ fs s b z off ft, τ.T t = some ⟨.struct fs, s, b, z⟩ ∧ fs[f]? = some (off, ft) ∧ k off ft = some r := by
  unfold fieldAt at h; split at h
  · rename_i fs s b z hi
    split at h
    · rename_i off ft hf; exact ⟨fs, s, b, z, off, ft, hi, hf, h⟩
    · cases h
  · cases h
theorem isBox_inv {a : AV} {k : Option α} (h : isBox a k = some r) : (∃ z c m, a = .boxv z c m) ∧ k = some r := by cases a <;> first | (cases h; done) | exact ⟨⟨_, _, _, rfl⟩, h⟩
theorem fieldT_inv {e : Env} {s off : Nat} {k : AV → Option α} {a : AV} (h : fieldT e s off k a = some r) :
    (∃ z c m, a = .boxv z c m ∧ k (.fptr s off) = some r) ∨ (∃ d o, a = .fptr d o ∧ (∃ z c m, e d = .boxv z c m) ∧ k (.fptr d (o + off)) = some r) ∨ ∃ z c o, a = .eptr z c o ∧ k (.eptr z c (o + off)) = some r := by
  cases a <;> first
    | (cases h; done)
    | exact .inl ⟨_, _, _, rfl, h⟩
    | (obtain ⟨h1, h2⟩ := isBox_inv h; exact .inr (.inl ⟨_, _, rfl, h1, h2⟩))
    | exact .inr (.inr ⟨_, _, _, rfl, h⟩)
theorem bin_inv {t : Nat} {op : BinOp} {a b : AV} {k : AV → Option α} (h : bin τ t op a b k = some r) :
    (∃ k1 m k2 n, a = .int k1 m ∧ b = .int k2 n ∧ (shI op k1 m n k = some r ∨ (k1 = k2 ∧ binI op k1 m n k = some r))) ∨ (∃ x y, a = .str x ∧ b = .str y ∧ binS op x y k = some r) ∨
      ∃ x y, a = .bool x ∧ b = .bool y ∧ (∃ s bb z, τ.T t = some ⟨.bool, s, bb, z⟩) ∧ ((op = .eql ∧ k (.bool (x == y)) = some r) ∨ (op = .neq ∧ k (.bool (!(x == y))) = some r)) := by
  unfold bin at h
  split at h
  · refine .inl ⟨_, _, _, _, rfl, rfl, ?_⟩
    split at h
    · exact .inl h
    · obtain ⟨hg, h2⟩ := guardK_inv h; exact .inr ⟨ikeq_eq hg, h2⟩
  · exact .inr (.inl ⟨_, _, rfl, rfl, h⟩)
  · refine .inr (.inr ⟨_, _, rfl, rfl, ?_⟩)
    unfold binB at h
    split at h
    · rename_i ht; exact ⟨⟨_, _, _, ht⟩, .inl ⟨rfl, h⟩⟩
    · rename_i ht; exact ⟨⟨_, _, _, ht⟩, .inr ⟨rfl, h⟩⟩
    · cases h
  · cases h
/-- What 'cast' gives. -/
def Cst (τ : Tab) (t : Nat) (a a' : AV) : Prop :=
  ((∃ b, a = .bool b ∧ a' = .bool b) ∨ (∃ kd n, a = .int kd n ∧ a' = .int kd n) ∨ (∃ s, a = .str s ∧ a' = .str s) ∨ (∃ sz l, IsL sz a l ∧ a' = .sl sz l) ∨
    (∃ sz c, a = .agg sz c ∧ a' = .agg sz c) ∨ ∃ f c, a = .fn f c ∧ a' = .fn f c) ∧
  ∃ i, τ.T t = some i ∧ match i.k, a' with
    | .bool, .bool _ => True
    | .int kd, .int kd' _ => kd = kd'
    | .str, .str _ => True
    | .slice e, .sl sz _ => ∃ ei, τ.T e = some ei ∧ ei.sz = sz
    | .struct _, .agg sz _ => i.sz = sz
    | .array _ _, .agg sz _ => i.sz = sz
    | .func, .fn _ _ => True
    | _, _ => False
theorem cast_inv {t : Nat} {a : AV} {k : AV → Option α} (h : cast τ t a k = some r) : ∃ a', Cst τ t a a' ∧ k a' = some r := by
  unfold cast at h; split at h
  · rename_i hi; obtain ⟨b, rfl, h⟩ := asB_inv h; exact ⟨_, ⟨.inl ⟨b, rfl, rfl⟩, _, hi, trivial⟩, h⟩
  · rename_i hi; obtain ⟨n, h1, h2⟩ := asI_inv h; exact ⟨_, ⟨.inr (.inl ⟨_, n, h1, rfl⟩), _, hi, rfl⟩, h2⟩
  · rename_i hi; obtain ⟨s, rfl, h⟩ := asS_inv h; exact ⟨_, ⟨.inr (.inr (.inl ⟨s, rfl, rfl⟩)), _, hi, trivial⟩, h⟩
  · rename_i hi; obtain ⟨i, h1, h⟩ := szOf_inv h; obtain ⟨l, hl, h⟩ := asL_inv h; exact ⟨_, ⟨.inr (.inr (.inr (.inl ⟨_, l, hl, rfl⟩))), _, hi, i, h1, rfl⟩, h⟩
  · rename_i hi; obtain ⟨c, h1, h2⟩ := asC_inv h; exact ⟨_, ⟨.inr (.inr (.inr (.inr (.inl ⟨_, c, h1, rfl⟩)))), _, hi, rfl⟩, h2⟩
  · rename_i hi; obtain ⟨c, h1, h2⟩ := asC_inv h; exact ⟨_, ⟨.inr (.inr (.inr (.inr (.inl ⟨_, c, h1, rfl⟩)))), _, hi, rfl⟩, h2⟩
  · rename_i hi; obtain ⟨f, c, rfl, h⟩ := asF_inv h; exact ⟨_, ⟨.inr (.inr (.inr (.inr (.inr ⟨f, c, rfl, rfl⟩)))), _, hi, trivial⟩, h⟩
  · cases h
theorem cellsOf_inv {sz : Nat} {a : AV} {k : List AV → Option α} (h : cellsOf sz a k = some r) :
    ∃ c, ((a = .agg sz c) ∨ ((∀ s c', a ≠ .agg s c') ∧ c = [a] ∧ ((∃ b, a = .bool b) ∨ (∃ kd n, a = .int kd n) ∨ (∃ s, a = .str s) ∨ (∃ s l, a = .sl s l) ∨ ∃ f l, a = .fn f l))) ∧ k c = some r := by
  cases a <;> first
    | (cases h; done)
    | (obtain ⟨h1, h2⟩ := guardK_inv h; obtain rfl := Nat.eq_of_beq_eq_true h1; exact ⟨_, .inl rfl, h2⟩)
    | exact ⟨_, .inr ⟨by simp, rfl, by simp⟩, h⟩
end

def ZeroR (u : Value) (a : AV) : Prop := match a with
  | .own _ [] => u = .slice none 0 0
  | a => ∀ w c, Rep w c u a
/-- The table says of type t what the program says. -/
structure TyOK (P : Program) (t : Nat) (ti : TI) : Prop where
  info : ∃ i z, P.info? t = some i ∧ i.size = ti.sz ∧ i.bytes = ti.bytes ∧ i.zero = some z ∧ z.cells.size = ti.sz ∧ ti.zero.length = ti.sz ∧
    ∀ (j : Nat) (u : Value) (a : AV), z.cells[j]? = some u → ti.zero[j]? = some a → ZeroR u a
  pos : 0 < ti.sz
  kind : match ti.k with
    | .bool => P.underlying t = some .bool ∧ ti.sz = 1
    | .int kd => P.underlying t = some (.int kd) ∧ ti.sz = 1
    | .str => P.underlying t = some .string ∧ ti.sz = 1
    | .slice e => (P.underlying t = some (.slice e) ∧ ∀ ei, P.info? e = some ei → ei.bytes ≤ 128) ∧ ti.sz = 1
    | .struct fs => ∃ F : Array Field, P.underlying t = some (.struct F) ∧ fs = F.toList.map (fun f => (f.offset, f.type)) ∧ ∀ f ∈ F.toList, ∃ fi, P.info? f.type = some fi ∧ 0 < fi.size ∧ f.offset + fi.size ≤ ti.sz
    | .func => (∃ ps rs v, P.underlying t = some (.func ps rs v)) ∧ ti.sz = 1
    | .tuple _ => True
    | .array n e => P.underlying t = some (.array n e)
def TabOK (P : Program) (τ : Tab) : Prop := ∀ t ti, τ.T t = some ti → TyOK P t ti

def Does (P : Program) (o : Oper) (a : Act) (w : World) (R : Value → World → Prop) : Prop :=
  ∀ (K : Act → World → Prop) (Q : Exit → Act → World → Prop), (∀ u w', R u w' → K (a.put o.dst u) w') → o.wp P a w K Q
theorem Does.value {P : Program} {o : Oper} {a : Act} {w w' : World} {u : Value} {R : Value → World → Prop} (h : (execOp a.eval o).run P w = .ok (.value u) w') (hR : R u w') : Does P o a w R := fun K Q hK => by
  unfold Oper.wp; rw [h]; exact hK u w' hR
theorem Does.skip {P : Program} {o : Oper} {a : Act} {w w' : World} {R : Value → World → Prop} (h : (execOp a.eval o).run P w = .ok .skip w') (hR : R undef w') : Does P o a w R := fun K Q hK => by
  unfold Oper.wp; rw [h]; exact hK undef w' hR
theorem Does.enter {P : Program} {o : Oper} {a : Act} {w : World} {f : FuncId} {args : Array Value} {R : Value → World → Prop} (h : (execOp a.eval o).run P w = .ok (.enter f args) w)
    (hC : Calls P f args w fun x w' => ∃ v, x = .returned v ∧ R v w') : Does P o a w R := fun K Q hK => by
  unfold Oper.wp; rw [h]
  show Calls P f args w _
  refine hC.mono fun x w' ⟨v, hx, hR⟩ => ?_
  subst hx
  exact hK v w' hR
theorem Does.mono {P : Program} {o : Oper} {a : Act} {w : World} {R R' : Value → World → Prop} (h : Does P o a w R) (hr : ∀ u w', R u w' → R' u w') : Does P o a w R' := fun K Q hK => h K Q fun u w' hu => hK u w' (hr u w' hu)

def slots (a : Act) : Nat → Value := fun i => a.tmps.getD i undef
theorem eval_tmp (a : Act) (t : Nat) : a.eval (.tmp t) = slots a t := rfl

section
variable {P : Program} {τ : Tab} {B : Nat} {w : World} {c : Cls} {a : Act} {e : Env}
theorem run_under {t : Nat} {d : TypeDesc} (h : P.underlying t = some d) : (underlying t).run P w = .ok d w := by simp [underlying, h]
theorem run_size {t : Nat} {i : TypeInfo} (h : P.info? t = some i) : (sizeOf t).run P w = .ok i.size w := by simp [sizeOf, typeInfo, h]
theorem run_zero {t : Nat} {i : TypeInfo} {z : Value} (h : P.info? t = some i) (hz : i.zero = some z) : (zeroValue t).run P w = .ok z w := by simp [zeroValue, typeInfo, h, hz]
theorem SlotR.unlit {d : Nat} {T : Nat → Value} {u : Value} {v : AV} (h : SlotR B w c T e d u v) : SlotR B w c T e d u (unlit v) := by
  cases v <;> first
    | exact h
    | exact h.1
theorem unlit_own {v : AV} {z : Nat} {l : List (List AV)} (h : Abs.unlit v = .own z l) : v = .own z l := by cases v <;> first | exact h | cases h
theorem unlit_vw {v : AV} {q z : Nat} {l : List (List AV)} (h : Abs.unlit v = .vw q z l) : v = .vw q z l := by cases v <;> first | exact h | cases h
/-- An operand: its value, and what is said of it. -/
theorem OpV.slot (hs : SRel τ B w c (slots a) e) {x : Operand} {v : AV} (h : OpV e x v) : ∃ d, SlotR B w c (slots a) e d (a.eval x) v := by
  obtain ⟨h0, ⟨t, rfl, rfl⟩ | ⟨k, rfl, rfl⟩ | ⟨f, rfl, rfl⟩⟩ := h
  · exact ⟨t, (hs.slot t).unlit⟩
  · refine ⟨0, ?_⟩
    show SlotR B w c (slots a) e 0 k (cv k)
    cases k <;> first
      | exact absurd rfl h0
      | exact Rep.bool _
      | exact Rep.int _ _
      | exact Rep.str _
      | skip
    case slice b n m =>
      cases b with
      | some b => exact absurd rfl h0
      | none => cases n with
        | succ n => exact absurd rfl h0
        | zero => cases m with
          | succ m => exact absurd rfl h0
          | zero => exact Rep.nilc
    case func fn first cap => cases fn <;> exact absurd rfl h0
  · exact ⟨0, Rep.fn f #[] [] rfl fun i v a hv => by simp at hv⟩
theorem SlotR.isL {d sz : Nat} {u : Value} {v : AV} {l : List (List AV)} (h : SlotR B w c (slots a) e d u v) (hl : IsL sz v l) : Rep w c u (.sl sz l) := by
  rcases hl with ⟨rfl, rfl⟩ | rfl | rfl | ⟨q, rfl⟩ | ⟨q, o, rfl⟩
  · have h : Rep w c u .nil := h
    cases h; exact .nil sz
  · exact h
  · exact h.1
  · exact h.1
  · exact h.1
theorem SlotR.cst {d t : Nat} {u : Value} {v v' : AV} (h : SlotR B w c (slots a) e d u v) (hc : Cst τ t v v') : PlainR w c u v' := by
  obtain ⟨⟨b, rfl, rfl⟩ | ⟨kd, n, rfl, rfl⟩ | ⟨s, rfl, rfl⟩ | ⟨sz, l, hl, rfl⟩ | ⟨sz, cs, rfl, rfl⟩ | ⟨f, cs, rfl, rfl⟩, _⟩ := hc
  · exact h
  · exact h
  · exact h
  · exact h.isL hl
  · exact h
  · exact h
/-- What is plain serves as a slot's. -/
theorem PlainR.slot {d : Nat} {T : Nat → Value} {u : Value} {v : AV} (h : PlainR w c u v) : SlotR B w c T e d u v := by
  cases v <;> first | exact h.elim | exact h
theorem Rep.plain {u : Value} {t : Nat} {v v' : AV} (h : Rep w c u v) (hc : Cst τ t v v') : PlainR w c u v' := by
  obtain ⟨⟨b, rfl, rfl⟩ | ⟨kd, n, rfl, rfl⟩ | ⟨s, rfl, rfl⟩ | ⟨sz, l, hl, rfl⟩ | ⟨sz, cs, rfl, rfl⟩ | ⟨f, cs, rfl, rfl⟩, _⟩ := hc
  · exact h
  · exact h
  · exact h
  · rcases hl with ⟨rfl, rfl⟩ | rfl | rfl | ⟨q, rfl⟩ | ⟨q, o, rfl⟩
    · cases h; exact Rep.nil sz
    · exact h
    · cases h
    · cases h
    · cases h
  · cases h
  · exact h
theorem rep_one {u : Value} {v : AV} (h : Rep w c u v) : u.oneCell' = true := by cases h <;> first | rfl | assumption
theorem rep_bool {u : Value} {b : Bool} (h : Rep w c u (.bool b)) : u = .bool b := by cases h; rfl
theorem rep_int {u : Value} {k : IntKind} {n : Int} (h : Rep w c u (.int k n)) : u = .int k n := by cases h; rfl
theorem rep_str {u : Value} {s : List UInt8} (h : Rep w c u (.str s)) : ∃ b : ByteArray, u = .string b ∧ b.data.toList = s := by cases h; exact ⟨_, rfl, rfl⟩
theorem rep_fn {u : Value} {f : Nat} {l : List AV} (h : Rep w c u (.fn f l)) : ∃ vs : Array Value, u = .func (.func f) #[] vs ∧ vs.size = l.length ∧ ∀ (i : Nat) (v : Value) (a : AV), vs[i]? = some v → l[i]? = some a → Rep w c v a := by
  cases h with | fn f vs as_ hsz hr => exact ⟨vs, rfl, hsz, hr⟩
theorem rep_eptr {u : Value} {sz off : Nat} {cs : List AV} (h : Rep w c u (.eptr sz cs off)) : ∃ b o, u = .pointer (some ⟨b, o + off, none⟩) ∧ cs.length = sz ∧ ∃ f : Nat → Value,
    (∀ j, j < sz → w.cell? ⟨b, o + j, none⟩ = some (f j)) ∧ (∀ j, j < sz → stab c b (o + j)) ∧ ∀ (j : Nat) (a : AV), cs[j]? = some a → Rep w c (f j) a := by
  cases h with | eptr b o sz cs off f hsz hc hs hr => exact ⟨b, o, rfl, hsz, f, hc, hs, hr⟩
/-- A slice that is not empty lies in memory. -/
theorem rep_sl {u : Value} {sz : Nat} {l : List (List AV)} (h : Rep w c u (.sl sz l)) : ∃ b cap, u = .slice b l.length cap ∧ l.length ≤ cap ∧ (b = none → cap = 0) ∧ (0 < l.length → ∃ g o, b = some ⟨g, o, none⟩ ∧
    (∀ (i : Nat) (cs : List AV), l[i]? = some cs → cs.length = sz) ∧ ∃ f : Nat → Nat → Value, (∀ i j, i < l.length → j < sz → w.cell? ⟨g, o + (i * sz + j), none⟩ = some (f i j)) ∧
    (∀ i j, i < l.length → j < sz → stab c g (o + (i * sz + j))) ∧ ∀ (i j : Nat) (cs : List AV) (a : AV), l[i]? = some cs → cs[j]? = some a → Rep w c (f i j) a) := by
  cases h with
  | nil sz => exact ⟨none, 0, rfl, Nat.le_refl _, fun _ => rfl, fun h => absurd h (by simp)⟩
  | emp b cap sz => exact ⟨some b, cap, rfl, Nat.zero_le _, fun h => by (cases h), fun h => absurd h (by simp)⟩
  | sl b o cap sz l f hcap hsz hc hs hr => exact ⟨some ⟨b, o, none⟩, cap, rfl, hcap, fun h => by (cases h), fun _ => ⟨b, o, rfl, hsz, f, hc, hs, hr⟩⟩

/-- A new block. -/
def updC (c : Cls) (b : Nat) (k : Kind) : Cls := fun i => if i = b then k else c i
theorem ext_alloc (w : World) (c : Cls) (o : Obj) (k : Kind) : Ext w.heap.size w c (w.alloc o) (updC c w.heap.size k) := by
  refine ⟨rfl, rfl, rfl, by simp, fun b hb _ => ⟨Below.heap_alloc w o b hb, by simp [updC, Nat.ne_of_lt hb]⟩, fun b i v hv hs => ?_⟩
  have hb := cell_lt hv
  refine ⟨?_, by unfold stab updC at *; simpa [Nat.ne_of_lt hb] using hs⟩
  rw [cell_heap (w := w) (Below.heap_alloc w o b hb)]; exact hv
theorem alloc_new (w : World) (o : Obj) : (w.alloc o).heap[w.heap.size]? = some o := heap_alloc_new w o
theorem add_none (b o n : Nat) : (⟨b, o, none⟩ : Addr).add n = ⟨b, o + n, none⟩ := by unfold Addr.add; split <;> simp_all
theorem cell_of {w : World} {b : Nat} {vs : Array Value} {ty : TypeId} {fr : Nat × Nat} (h : w.heap[b]? = some (.cells vs ty fr)) (i : Nat) : w.cell? ⟨b, i, none⟩ = vs[i]? := by simp [World.cell?, h]
end

/-- What an operation leaves behind: its value's word, and memory that has but grown. -/
def Left (P : Program) (τ : Tab) (B : Nat) (a : Act) (e : Env) (w : World) (c : Cls) (d : Nat) (v : AV) : Value → World → Prop :=
  fun u w' => ∃ c', Ext w.heap.size w c w' c' ∧ SlotR B w' c' (slots a) e d u v

section
variable {P : Program} {τ : Tab} {B : Nat} {w : World} {c : Cls} {a : Act} {e : Env} {o : Oper} {d : Nat} {v : AV} {call : Nat → List AV → Option AV}
theorem Left.same {u : Value} (h : SlotR B w c (slots a) e d u v) : Left P τ B a e w c d v u w := ⟨c, Ext.refl .., h⟩
theorem Left.plain {u : Value} (h : PlainR w c u v) : Left P τ B a e w c d v u w := .same h.slot
theorem does_same {u : Value} (h : (execOp a.eval o).run P w = .ok (.value u) w) (hu : SlotR B w c (slots a) e d u v) : Does P o a w (Left P τ B a e w c d v) := .value h (.same hu)

theorem sim_move {x : Operand} (ho : o.op = .move x) (hs : SRel τ B w c (slots a) e) (h : val τ call e o some = some v) : Does P o a w (Left P τ B a e w c d v) := by
  unfold val at h; simp only [ho] at h
  obtain ⟨b, hb, h⟩ := opnd_inv h
  obtain ⟨q, hq⟩ := hb.slot hs
  refine does_same (u := a.eval x) (by simp [execOp, ho]) ?_
  unfold moveK at h
  split at h
  · cases h
    obtain ⟨_, ⟨t, h1, h2⟩ | ⟨k, h1, _⟩ | ⟨f, h1, _⟩⟩ := hb
    · cases h1
      rename_i t _ _ _
      have h3 := hs.slot t
      rw [unlit_own h2] at h3
      exact ⟨h3.1, fun z l' _ => rfl⟩
    · cases h1
    · cases h1
  · cases h
  · cases h
  · cases h
  · obtain ⟨v', hc, h⟩ := cast_inv h; cases h; exact (hq.cst hc).slot
  · cases h
    rename_i h1 h2 h3 h4 h5
    cases v <;> first
      | exact hq
      | (exfalso; exact h1 _ _ rfl) | (exfalso; exact h2 _ _ _ rfl) | (exfalso; exact h3 _ rfl)
theorem sim_assign {x : Operand} (ho : o.op = .assign x) (hs : SRel τ B w c (slots a) e) (h : val τ call e o some = some v) : Does P o a w (Left P τ B a e w c d v) := by
  unfold val at h; simp only [ho] at h
  obtain ⟨b, hb, h⟩ := opnd_inv h
  obtain ⟨q, hq⟩ := hb.slot hs
  refine does_same (u := a.eval x) (by simp [execOp, ho]) ?_
  unfold assignK at h
  split at h
  · cases h
  · cases h
  · cases h
  · cases h
  · obtain ⟨_, _, _, _, i, _, _, h⟩ := sliceSz_inv h; cases h
    have hq : Rep w c _ .nil := hq
    generalize a.eval x = u at *
    cases hq
    exact ⟨.nil _, .inl ⟨rfl, rfl⟩⟩
  · cases h
    rename_i h1 h2 h3 h4 h5
    cases b <;> first
      | exact hq
      | exact hq.1
      | (exfalso; exact h1 _ _ rfl) | (exfalso; exact h2 _ _ _ rfl) | (exfalso; exact h3 _ _ rfl) | (exfalso; exact h4 _ rfl)
theorem sim_pick {x y z : Operand} (ho : o.op = .pick x y z) (hs : SRel τ B w c (slots a) e) (h : val τ call e o some = some v) : Does P o a w (Left P τ B a e w c d v) := by
  unfold val at h; simp only [ho] at h
  obtain ⟨b, hb, h⟩ := opnd_inv h
  obtain ⟨q, hq⟩ := hb.slot hs
  obtain ⟨t, rfl, h⟩ := asB_inv h
  have hx : a.eval x = .bool t := rep_bool hq
  rcases ifB_inv h with ⟨rfl, h⟩ | ⟨rfl, h⟩
  · obtain ⟨b, hb, h⟩ := opnd_inv h
    obtain ⟨q, hq⟩ := hb.slot hs
    obtain ⟨v', hc, h⟩ := cast_inv h; cases h
    exact does_same (u := a.eval y) (by simp [execOp, ho, hx, asBool]) (hq.cst hc).slot
  · obtain ⟨b, hb, h⟩ := opnd_inv h
    obtain ⟨q, hq⟩ := hb.slot hs
    obtain ⟨v', hc, h⟩ := cast_inv h; cases h
    exact does_same (u := a.eval z) (by simp [execOp, ho, hx, asBool]) (hq.cst hc).slot
theorem ovr_ownsOf (z : List AV) : ∀ (n j : Nat) (a : AV), ovr (ownsOf n z) j = some a → (∃ s l, a = .own s l) ∧ n ≤ j ∧ z[j - n]? = some a := by
  induction z with
  | nil => intro n j a h; simp [ownsOf, ovr] at h
  | cons x z ih =>
    intro n j a h
    have step : ovr (ownsOf (n + 1) z) j = some a → (∃ s l, a = .own s l) ∧ n ≤ j ∧ (x :: z)[j - n]? = some a := fun h => by
      obtain ⟨h1, h2, h3⟩ := ih _ _ _ h
      refine ⟨h1, by omega, ?_⟩
      rw [show j - n = (j - (n + 1)) + 1 by omega]; simpa using h3
    cases x <;> first
      | exact step h
      | skip
    case own s l =>
      simp only [ownsOf, ovr] at h
      by_cases hj : n = j
      · subst hj
        simp only [beq_rfl, pick2] at h
        cases h
        exact ⟨⟨_, _, rfl⟩, Nat.le_refl _, by simp⟩
      · rw [beq_ne hj] at h
        exact step h
theorem ovr_ownsOf_none (z : List AV) : ∀ (n j : Nat), ovr (ownsOf n z) j = none → n ≤ j → ∀ s l, z[j - n]? ≠ some (.own s l) := by
  induction z with
  | nil => intro n j h hj s l hx; simp at hx
  | cons x z ih =>
    intro n j h hj s l hx
    have step : ovr (ownsOf (n + 1) z) j = none → j ≠ n → False := fun h hne => by
      refine ih (n + 1) j h (by omega) s l ?_
      rw [show j - n = (j - (n + 1)) + 1 by omega] at hx; simpa using hx
    by_cases hj0 : j = n
    · subst hj0
      simp only [Nat.sub_self, List.getElem?_cons_zero, Option.some.injEq] at hx
      subst hx
      simp [ownsOf, ovr, pick2] at h
    · refine step ?_ hj0
      cases x <;> first
        | exact h
        | (simp only [ownsOf, ovr, beq_ne (Ne.symm hj0), pick2] at h; exact h)
theorem sim_alloc (hT : TabOK P τ) {t : Nat} (ho : o.op = .alloc t) (hs : SRel τ B w c (slots a) e) (h : val τ call e o some = some v) : Does P o a w (Left P τ B a e w c d v) := by
  unfold val at h; simp only [ho] at h
  obtain ⟨ti, hti, h⟩ := infoK_inv h
  cases h
  obtain ⟨i, z, h1, h2, h3, h4, h5, h6, h7⟩ := (hT t ti hti).info
  refine .value (u := .pointer (some ⟨w.heap.size, 0, none⟩)) (w' := w.alloc (.cells z.cells t)) ?_ ⟨updC c w.heap.size (.box d), ext_alloc .., w.heap.size, z.cells, t, rfl, hs.base, alloc_new .., by simp [updC], h5, by simp [h6], ?_, ?_, ?_⟩
  · simp [execOp, ho, Instr.alloc, run_zero h1 h4, newVar, newRow]
  · intro j x u h8 h9 h10
    rw [List.getElem?_map] at h9
    cases hz : ti.zero[j]? with
    | none => rw [hz] at h9; cases h9
    | some y =>
      rw [hz] at h9; cases h9
      have := h7 j u y h10 hz
      have hno := ovr_ownsOf_none ti.zero 0 j h8 (Nat.zero_le _)
      cases y <;> first
        | exact (this _ _)
        | exact absurd hz (hno _ _)
        | (have := this w c; cases this)
  · intro j x u h8 h9
    obtain ⟨⟨s, l, rfl⟩, _, h11⟩ := ovr_ownsOf _ _ _ _ h8
    have := h7 j u _ h9 (by simpa using h11)
    show OwnR _ _ _ _ _ _ _
    cases l with
    | nil => have h12 : u = .slice none 0 0 := this; subst h12; exact ⟨.nil _, .inl ⟨rfl, rfl⟩⟩
    | cons y l => have := this w c; cases this
  · intro j x h8
    obtain ⟨_, _, h11⟩ := ovr_ownsOf _ _ _ _ h8
    rw [← h6]; simpa using (List.getElem?_eq_some_iff.1 h11).1
theorem rep_frz {u : Value} {x : AV} (h : Rep w c u x) : Rep w c u (frz x) := by cases h <;> first | exact .undef _ (by assumption) | exact .bool _ | exact .int _ _ | exact .str _ | exact .nilc | exact .nil _ | exact .emp _ _ _ | (constructor <;> assumption)
/-- The cells of a value that is to be stored. -/
structure CellsR (w : World) (c : Cls) (sz : Nat) (u : Value) (cs : List AV) : Prop where
  size : u.cells.size = sz
  len : cs.length = sz
  rep : ∀ (j : Nat) (x : AV) (y : Value), cs[j]? = some x → u.cells[j]? = some y → Rep w c y x
theorem plain_cells {u : Value} {t : Nat} {ti : TI} {v v' : AV} {cs : List AV} (hT : TabOK P τ) (hti : τ.T t = some ti) (hc : Cst τ t v v') (hp : PlainR w c u v')
    (hcs : (v' = .agg ti.sz cs) ∨ ((∀ s c', v' ≠ .agg s c') ∧ cs = [v'] ∧ ((∃ b, v' = .bool b) ∨ (∃ kd n, v' = .int kd n) ∨ (∃ s, v' = .str s) ∨ (∃ s l, v' = .sl s l) ∨ ∃ f l, v' = .fn f l))) :
    CellsR w c ti.sz u cs := by
  rcases hcs with rfl | ⟨hna, rfl, hk⟩
  · obtain ⟨vs, rfl, h1, h2, h3⟩ := hp
    exact ⟨h1, h2, h3⟩
  · obtain ⟨_, i, hi, hm⟩ := hc
    rw [hti] at hi; cases hi
    have hk2 := (hT t ti hti).kind
    have hrep : Rep w c u v' := by rcases hk with ⟨_, rfl⟩ | ⟨_, _, rfl⟩ | ⟨_, rfl⟩ | ⟨_, _, rfl⟩ | ⟨_, _, rfl⟩ <;> exact hp
    have h1 : ti.sz = 1 := by
      generalize ti.k = k at *
      cases k <;> simp only at hk2 hm <;> first
        | exact hk2.2
        | (rcases hk with ⟨_, rfl⟩ | ⟨_, _, rfl⟩ | ⟨_, rfl⟩ | ⟨_, _, rfl⟩ | ⟨_, _, rfl⟩ <;> simp at hm)
    have hu : u.cells = #[u] := by have := rep_one hrep; cases u <;> first | rfl | cases this
    refine ⟨by rw [hu, h1]; rfl, by simp [h1], fun j x y hx hy => ?_⟩
    rw [hu] at hy
    cases j with
    | zero => simp at hx hy; subst hx; subst hy; exact hrep
    | succ j => simp at hx
theorem sim_box (hT : TabOK P τ) {t : Nat} {x : Operand} (ho : o.op = .box t x) (hs : SRel τ B w c (slots a) e) (h : val τ call e o some = some v) : Does P o a w (Left P τ B a e w c d v) := by
  unfold val at h; simp only [ho] at h
  obtain ⟨b, hb, h⟩ := opnd_inv h
  obtain ⟨q, hq⟩ := hb.slot hs
  obtain ⟨v', hc, h⟩ := cast_inv h
  obtain ⟨ti, hti, h⟩ := szOf_inv h
  obtain ⟨cs, hcs, h⟩ := cellsOf_inv h
  cases h
  have hr := plain_cells hT hti hc (hq.cst hc) hcs
  refine .value (u := .pointer (some ⟨w.heap.size, 0, none⟩)) (w' := w.alloc (.cells (a.eval x).cells t)) ?_ ⟨updC c w.heap.size (.box d), ext_alloc .., w.heap.size, (a.eval x).cells, t, rfl, hs.base, alloc_new .., by simp [updC], hr.size, hr.len, ?_, ?_, ?_⟩
  · simp [execOp, ho, Instr.box, newVar, newRow]
  · intro j y u _ h9 h10
    exact (hr.rep j y u h9 h10).ext (ext_alloc w c (.cells (a.eval x).cells t) (.box d))
  · intro j y u h8; simp [ovr] at h8
  · intro j y h8; simp [ovr] at h8
theorem run_fieldAt {t f : Nat} {F : Array Field} {g : Field} {fi : TypeInfo} (hF : P.underlying t = some (.struct F)) (hg : F[f]? = some g) (hfi : P.info? g.type = some fi) (hp : 0 < fi.size) (b n : Nat) :
    (Instr.fieldAt t (.pointer (some ⟨b, n, none⟩)) f).run P w = .ok (.pointer (some ⟨b, n + g.offset, none⟩)) w := by
  simp [Instr.fieldAt, run_under hF, hg, Instr.sureAddr, fieldPlace, run_size hfi, Nat.pos_iff_ne_zero.1 hp, add_none]
theorem struct_of (hT : TabOK P τ) {t : Nat} {fs : List (Nat × Nat)} {s b : Nat} {z : List AV} (hti : τ.T t = some ⟨.struct fs, s, b, z⟩) :
    ∃ F : Array Field, P.underlying t = some (.struct F) ∧ fs = F.toList.map (fun f => (f.offset, f.type)) ∧ ∀ f ∈ F.toList, ∃ fi, P.info? f.type = some fi ∧ 0 < fi.size ∧ f.offset + fi.size ≤ s := (hT t _ hti).kind
theorem field_of (hT : TabOK P τ) {t f : Nat} {fs : List (Nat × Nat)} {s b off ft : Nat} {z : List AV} (hti : τ.T t = some ⟨.struct fs, s, b, z⟩) (hf : fs[f]? = some (off, ft)) :
    ∃ F g fi, P.underlying t = some (.struct F) ∧ F[f]? = some g ∧ g.offset = off ∧ g.type = ft ∧ P.info? g.type = some fi ∧ 0 < fi.size ∧ off + fi.size ≤ s := by
  obtain ⟨F, hF, hfs, hsz⟩ := struct_of hT hti
  rw [hfs, List.getElem?_map] at hf
  cases hx : F.toList[f]? with
  | none => rw [hx] at hf; cases hf
  | some g =>
    rw [hx] at hf; cases hf
    obtain ⟨fi, h1, h2, h3⟩ := hsz g (List.mem_of_getElem? hx)
    exact ⟨F, g, fi, hF, by simpa using hx, rfl, rfl, h1, h2, h3⟩
theorem sim_fieldAddr (hT : TabOK P τ) {t f : Nat} {x : Operand} (ho : o.op = .fieldAddr t x f) (hs : SRel τ B w c (slots a) e) (h : val τ call e o some = some v) : Does P o a w (Left P τ B a e w c d v) := by
  unfold val at h; simp only [ho] at h
  obtain ⟨fs, s, b, z, off, ft, hti, hf, h⟩ := fieldAt_inv h
  obtain ⟨F, g, fi, hF, hg, rfl, rfl, h1, h2, _⟩ := field_of hT hti hf
  have hrun : ∀ b n, a.eval x = .pointer (some ⟨b, n, none⟩) → (execOp a.eval o).run P w = .ok (.value (.pointer (some ⟨b, n + g.offset, none⟩))) w := fun b n hx => by
    simp only [execOp, ho, hx, Sem.run_bind, run_fieldAt hF hg h1 h2, Result.andThen_ok, Sem.run_pure]
  cases x with
  | const => cases h
  | global => cases h
  | func => cases h
  | tmp q =>
  have hq := hs.slot q
  have h : fieldT e q g.offset some (e q) = some v := h
  rcases fieldT_inv h with ⟨zz, cs, m, hx, h⟩ | ⟨dd, oo, hx, ⟨zz, cs, m, hy⟩, h⟩ | ⟨zz, cs, oo, hx, h⟩ <;> rw [hx] at hq <;> cases h
  · obtain ⟨b, vs, ty, h3, _⟩ := hq
    refine does_same (hrun b 0 h3) ?_
    intro z' cs' m' _
    exact ⟨b, h3, by simp⟩
  · obtain ⟨b, h3, h4⟩ := hq zz cs m hy
    refine does_same (hrun b oo h4) ?_
    intro z' cs' m' _
    exact ⟨b, h3, rfl⟩
  · obtain ⟨b, n, h3, h4, fv, h5, h6, h7⟩ := rep_eptr hq
    refine does_same (hrun b (n + oo) h3) ?_
    show Rep w c _ _
    rw [show n + oo + g.offset = n + (oo + g.offset) by omega]
    exact .eptr b n zz cs (oo + g.offset) fv h4 h5 h6 h7
end
end Go.Proofs.YtmdimhcjogjcgaaGreatDoor.Abs
