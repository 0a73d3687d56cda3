/- What a plain value says of a value in memory. -/
import Derived.Test.YtmdimhcjogjcgaaGreatDoorGac
import Derived.Calls
import Derived.Below
import Derived.ArgAppend
import Derived.Laws.Cells
set_option linter.all false
noncomputable section
namespace Go.Proofs.YtmdimhcjogjcgaaGreatDoor.Abs
open Go.RowKit
inductive gp where
 | slot (d : Nat)
 | cell (d off : Nat)
 | comp (d i : Nat)
 | ret (i : Nat)
deriving DecidableEq
inductive Kind where
 | frz
 | own (st : Nat) (h : gp)
 | box (d : Nat)
abbrev Cls := Nat → Kind
def dw (c : Cls) (b i : Nat) : Prop := match c b with
 | .frz => True
 | .own st _ => i < st
 | .box _ => False
inductive Rep (w : World) (c : Cls) : Value → AV → Prop where
 | undef (v : Value) (h : v.oneCell' = true) : Rep w c v .undef
 | bool (b : Bool) : Rep w c (.bool b) (.bool b)
 | int (k : IntKind) (n : Int) : Rep w c (.int k n) (.int k n)
 | str (s : ByteArray) : Rep w c (.string s) (.str s.data.toList)
 | nilc : Rep w c (.slice none 0 0) .nil
 | nil (sz : Nat) : Rep w c (.slice none 0 0) (.sl sz [])
 | emp (a : Addr) (cap sz : Nat) : Rep w c (.slice (some a) 0 cap) (.sl sz [])
 | sl (b o cap sz : Nat) (l : List (List AV)) (f : Nat → Nat → Value) (hcap : l.length ≤ cap)
   (hsz : ∀ (i : Nat) (cs : List AV), l[i]? = some cs → cs.length = sz)
   (hc : ∀ i j, i < l.length → j < sz → w.cell? ⟨b, o + (i * sz + j), none⟩ = some (f i j))
   (hs : ∀ i j, i < l.length → j < sz → dw c b (o + (i * sz + j)))
   (hr : ∀ (i j : Nat) (cs : List AV) (a : AV), l[i]? = some cs → cs[j]? = some a → Rep w c (f i j) a) : Rep w c (.slice (some ⟨b, o, none⟩) l.length cap) (.sl sz l)
 | eptr (b o sz : Nat) (cs : List AV) (off : Nat) (f : Nat → Value) (hsz : cs.length = sz)
   (hc : ∀ j, j < sz → w.cell? ⟨b, o + j, none⟩ = some (f j))
   (hs : ∀ j, j < sz → dw c b (o + j))
   (hr : ∀ (j : Nat) (a : AV), cs[j]? = some a → Rep w c (f j) a) : Rep w c (.pointer (some ⟨b, o + off, none⟩)) (.eptr sz cs off)
 | fn (f : Nat) (vs : Array Value) (as_ : List AV) (hsz : vs.size = as_.length) (hr : ∀ (i : Nat) (v : Value) (a : AV), vs[i]? = some v → as_[i]? = some a → Rep w c v a) : Rep w c (.func (.func f) #[] vs) (.fn f as_)
structure Ext (B : Nat) (w : World) (c : Cls) (w' : World) (c' : Cls) : Prop where
 os : w'.os = w.os
 tape : w'.tape = w.tape
 output : w'.output = w.output
 size : w.heap.size ≤ w'.heap.size
 old : ∀ b, b < B → b < w.heap.size → w'.heap[b]? = w.heap[b]? ∧ c' b = c b
 cell : ∀ b i v, w.cell? ⟨b, i, none⟩ = some v → dw c b i → w'.cell? ⟨b, i, none⟩ = some v ∧ dw c' b i
theorem Ext.refl (B : Nat) (w : World) (c : Cls) : Ext B w c w c := ⟨rfl, rfl, rfl, Nat.le_refl _, fun _ _ _ => ⟨rfl, rfl⟩, fun _ _ _ h hs => ⟨h, hs⟩⟩
theorem Ext.trans {B : Nat} {w w' w'' : World} {c c' c'' : Cls} (h : Ext B w c w' c') (k : Ext B w' c' w'' c'') : Ext B w c w'' c'' :=
 ⟨k.os.trans h.os, k.tape.trans h.tape, k.output.trans h.output, Nat.le_trans h.size k.size, fun b hb hb' => by
  have h1 := h.old b hb hb'
  have h2 := k.old b hb (Nat.lt_of_lt_of_le hb' h.size)
  exact ⟨h2.1.trans h1.1, h2.2.trans h1.2⟩, fun b i v hv hs => by
  have h1 := h.cell b i v hv hs
  exact k.cell b i v h1.1 h1.2⟩
theorem Ext.mono {B B' : Nat} {w w' : World} {c c' : Cls} (h : Ext B w c w' c') (hB : B' ≤ B) : Ext B' w c w' c' :=
 ⟨h.os, h.tape, h.output, h.size, fun b hb => h.old b (by omega), h.cell⟩
theorem Rep.ext {B : Nat} {w w' : World} {c c' : Cls} (he : Ext B w c w' c') {v : Value} {a : AV} (h : Rep w c v a) : Rep w' c' v a := by
 induction h with
 | undef v h => exact .undef v h
 | bool b => exact .bool b
 | int k n => exact .int k n
 | str s => exact .str s
 | nilc => exact .nilc
 | nil sz => exact .nil sz
 | emp a cap sz => exact .emp a cap sz
 | sl b o cap sz l f hcap hsz hc hs hr ih =>
  exact .sl b o cap sz l f hcap hsz (fun i j hi hj => (he.cell _ _ _ (hc i j hi hj) (hs i j hi hj)).1) (fun i j hi hj => (he.cell _ _ _ (hc i j hi hj) (hs i j hi hj)).2) ih
 | eptr b o sz cs off f hsz hc hs hr ih =>
  exact .eptr b o sz cs off f hsz (fun j hj => (he.cell _ _ _ (hc j hj) (hs j hj)).1) (fun j hj => (he.cell _ _ _ (hc j hj) (hs j hj)).2) ih
 | fn f vs as_ hsz hr ih => exact .fn f vs as_ hsz ih
def tc (w : World) (c : Cls) (v : Value) (sz : Nat) (cs : List AV) : Prop :=
 ∃ vs : Array Value, v = .agg vs ∧ vs.size = sz ∧ cs.length = sz ∧ ∀ (j : Nat) (a : AV) (u : Value), cs[j]? = some a → vs[j]? = some u → Rep w c u a
theorem tc.ext {B : Nat} {w w' : World} {c c' : Cls} (he : Ext B w c w' c') {v : Value} {sz : Nat} {cs : List AV} (h : tc w c v sz cs) : tc w' c' v sz cs := by
 obtain ⟨vs, h1, h2, h3, h4⟩ := h
 exact ⟨vs, h1, h2, h3, fun j a u ha hu => (h4 j a u ha hu).ext he⟩
def eh (B : Nat) (w : World) (c : Cls) (h : gp) (v : Value) (sz : Nat) (l : List (List AV)) : Prop :=
 Rep w c v (.sl sz l) ∧ ((v = .slice none 0 0 ∧ l = []) ∨
  ∃ b cap vs ty, v = .slice (some ⟨b, 0, none⟩) l.length cap ∧ B ≤ b ∧ w.heap[b]? = some (.cells vs ty (0, 0)) ∧ vs.size = cap * sz ∧ cap ≤ maxLen ∧ l.length ≤ cap ∧ c b = .own (l.length * sz) h)
def gy (w : World) (c : Cls) (v : Value) (a : AV) : Prop := match a with
 | .agg sz cs => tc w c v sz cs
 | .own _ _ => False
 | .boxv _ _ _ => False
 | .fptr _ _ => False
 | .vw _ _ _ => False
 | .vwc _ _ _ _ => False
 | .tup _ => False
 | .lit _ _ _ => False
 | .undef => False
 | a => Rep w c v a
theorem gy.ext {B : Nat} {w w' : World} {c c' : Cls} (he : Ext B w c w' c') {v : Value} {a : AV} (h : gy w c v a) : gy w' c' v a := by
 cases a <;> first | exact h.elim | exact tc.ext he h | exact Rep.ext he h
def gq (B : Nat) (w : World) (c : Cls) (h : gp) (v : Value) (a : AV) : Prop := match a with
 | .own sz l => eh B w c h v sz l
 | a => gy w c v a
def abt (B : Nat) (w : World) (c : Cls) (v : Value) (a : AV) : Prop := match a with
 | .tup l => ∃ vs : Array Value, v = .tuple vs ∧ vs.size = l.length ∧ ∀ (i : Nat) (x : AV) (u : Value), l[i]? = some x → vs[i]? = some u → gq B w c (.ret i) u x
 | a => gq B w c (.ret 0) v a
def GOK (τ : Tab) (w : World) (c : Cls) : Prop := ∀ g cs, τ.G g = some cs → Rep w c (.pointer (some ⟨g, 0, none⟩)) (.eptr cs.length cs 0)
theorem GOK.ext {τ : Tab} {B : Nat} {w w' : World} {c c' : Cls} (he : Ext B w c w' c') (h : GOK τ w c) : GOK τ w' c' := fun g cs hg => (h g cs hg).ext he
def td (w : World) (c : Cls) (v : Value) (a : AV) : Prop := gy w c v a ∨ Rep w c v a
def acz (P : Program) (f : Nat) (vs : Array Value) (w : World) (R : Value → World → Prop) : Prop :=
 ((callFunc f vs).run P w = .ok (.enter f vs) w ∧ Calls P f vs w fun x w' => ∃ v, x = .returned v ∧ R v w') ∨ ∃ v w', (callFunc f vs).run P w = .ok (.value v) w' ∧ R v w'
def PC (P : Program) (τ : Tab) (f : Nat) (l : List AV) (r : AV) : Prop := ∀ (w : World) (c : Cls) (vs : Array Value), GOK τ w c → vs.size = l.length →
 (∀ (i : Nat) (v : Value) (a : AV), vs[i]? = some v → l[i]? = some a → td w c v a) →
 acz P f vs w fun v w' => ∃ c', Ext w.heap.size w c w' c' ∧ abt w.heap.size w' c' v r
def ov (B : Nat) (w : World) (c : Cls) (d j : Nat) (v : Value) (a : AV) : Prop := match a with
 | .own sz l => eh B w c (.cell d j) v sz l
 | a => Rep w c v a
def qp (B : Nat) (w : World) (c : Cls) (d : Nat) (v : Value) (sz : Nat) (cs : List AV) (m : List (Nat × AV)) : Prop :=
 ∃ b vs ty, v = .pointer (some ⟨b, 0, none⟩) ∧ B ≤ b ∧ w.heap[b]? = some (.cells vs ty (0, 0)) ∧ c b = .box d ∧ vs.size = sz ∧ cs.length = sz ∧
  (∀ (j : Nat) (a : AV) (u : Value), ovr m j = none → cs[j]? = some a → vs[j]? = some u → Rep w c u a) ∧ (∀ (j : Nat) (a : AV) (u : Value), ovr m j = some a → vs[j]? = some u → ov B w c d j u a) ∧ ∀ (j : Nat) (a : AV), ovr m j = some a → j < sz
def dx (B : Nat) (w : World) (c : Cls) (T : Nat → Value) (e : Env) (d : Nat) (v : Value) (a : AV) : Prop := match a with
 | .undef => True
 | .own sz l => eh B w c (.slot d) v sz l
 | .agg sz cs => tc w c v sz cs
 | .lit sz cs m => tc w c v sz cs ∧ ∀ j z, (j, z) ∈ m → ∃ vs : Array Value, v = .agg vs ∧ vs[j]? = some (.slice none 0 0)
 | .boxv sz cs m => qp B w c d v sz cs m
 | .fptr q off => (∀ z cs m, e q = .boxv z cs m → ∃ b, T q = .pointer (some ⟨b, 0, none⟩) ∧ v = .pointer (some ⟨b, off, none⟩))
 | .vw q sz l => Rep w c v (.sl sz l) ∧ (∀ z l', e q = .own z l' → v = T q)
 | .vwc q off sz l => Rep w c v (.sl sz l) ∧ (∀ z cs m z' l', e q = .boxv z cs m → ovr m off = some (.own z' l') → ∃ b, T q = .pointer (some ⟨b, 0, none⟩) ∧ w.cell? ⟨b, off, none⟩ = some v)
 | .tup l => ∃ vs : Array Value, v = .tuple vs ∧ vs.size = l.length ∧ ∀ (i : Nat) (x : AV) (u : Value), l[i]? = some x → vs[i]? = some u → gq B w c (.comp d i) u x
 | a => Rep w c v a
structure ax (τ : Tab) (B : Nat) (w : World) (c : Cls) (T : Nat → Value) (e : Env) : Prop where
 base : B ≤ w.heap.size
 g : GOK τ w c
 slot : ∀ d, dx B w c T e d (T d) (e d)
theorem Ext.lt {B : Nat} {w w' : World} {c c' : Cls} (he : Ext w.heap.size w c w' c') {b : Nat} {o : Obj} (h : w.heap[b]? = some o) : w'.heap[b]? = some o ∧ c' b = c b := by
 have hb : b < w.heap.size := (Array.getElem?_eq_some_iff.1 h).1
 have := he.old b hb hb
 exact ⟨this.1.trans h, this.2⟩
theorem eh.alloc {B : Nat} {w w' : World} {c c' : Cls} (he : Ext w.heap.size w c w' c') {h : gp} {v : Value} {sz : Nat} {l : List (List AV)} (ho : eh B w c h v sz l) : eh B w' c' h v sz l := by
 refine ⟨ho.1.ext he, ho.2.imp id ?_⟩
 rintro ⟨b, cap, vs, ty, h1, h2, h3, h4, h5, h6, h7⟩
 have := he.lt (B := 0) h3
 exact ⟨b, cap, vs, ty, h1, h2, this.1, h4, h5, h6, this.2.trans h7⟩
theorem gq.alloc {B : Nat} {w w' : World} {c c' : Cls} (he : Ext w.heap.size w c w' c') {h : gp} {v : Value} {a : AV} (hp : gq B w c h v a) : gq B w' c' h v a := by
 cases a <;> simp only [gq] at hp ⊢ <;> first | exact eh.alloc he hp | exact gy.ext he hp
theorem ov.alloc {B : Nat} {w w' : World} {c c' : Cls} (he : Ext w.heap.size w c w' c') {d j : Nat} {v : Value} {a : AV} (hp : ov B w c d j v a) : ov B w' c' d j v a := by
 cases a <;> first | exact eh.alloc he hp | exact Rep.ext he hp
theorem qp.alloc {B : Nat} {w w' : World} {c c' : Cls} (he : Ext w.heap.size w c w' c') {d : Nat} {v : Value} {sz : Nat} {cs : List AV} {m : List (Nat × AV)} (hp : qp B w c d v sz cs m) : qp B w' c' d v sz cs m := by
 obtain ⟨b, vs, ty, h1, h2, h3, h4, h5, h6, h7, h8, h9⟩ := hp
 have := he.lt (B := 0) h3
 exact ⟨b, vs, ty, h1, h2, this.1, this.2.trans h4, h5, h6, fun j a u x y z => (h7 j a u x y z).ext he, fun j a u x y => (h8 j a u x y).alloc he, h9⟩
theorem o1 {w w' : World} {a : Addr} (h : w'.heap[a.block]? = w.heap[a.block]?) : w'.cell? a = w.cell? a := by simp [World.cell?, h]
theorem re {w : World} {b i : Nat} {v : Value} (h : w.cell? ⟨b, i, none⟩ = some v) : b < w.heap.size := by
 unfold World.cell? at h
 split at h
 ·rename_i x; exact (Array.getElem?_eq_some_iff.1 x).1
 ·cases h
theorem Ext.cells {w w' : World} {c c' : Cls} (he : Ext w.heap.size w c w' c') {b i : Nat} {v : Value} (h : w.cell? ⟨b, i, none⟩ = some v) : w'.cell? ⟨b, i, none⟩ = some v := by
 have hb := re h
 rw [o1 (w := w) (he.old b hb hb).1]; exact h
theorem dx.alloc {B : Nat} {w w' : World} {c c' : Cls} (he : Ext w.heap.size w c w' c') {T : Nat → Value} {e : Env} {d : Nat} {v : Value} {a : AV} (h : dx B w c T e d v a) : dx B w' c' T e d v a := by
 cases a <;> first
  | exact h
  | exact eh.alloc he h
  | exact tc.ext he h
  | exact qp.alloc he h
  | exact Rep.ext he h
  | skip
 case lit sz l m => exact ⟨tc.ext he h.1, h.2⟩
 case vw q sz l => exact ⟨h.1.ext he, h.2⟩
 case vwc q off sz l =>
  refine ⟨h.1.ext he, fun z cs m z' l' h1 h2 => ?_⟩
  obtain ⟨b, h3, h4⟩ := h.2 z cs m z' l' h1 h2
  exact ⟨b, h3, he.cells h4⟩
 case tup l =>
  obtain ⟨vs, h1, h2, h3⟩ := h
  exact ⟨vs, h1, h2, fun i x u hx hu => (h3 i x u hx hu).alloc he⟩
theorem ax.alloc {τ : Tab} {B : Nat} {w w' : World} {c c' : Cls} {T : Nat → Value} {e : Env} (he : Ext w.heap.size w c w' c') (h : ax τ B w c T e) : ax τ B w' c' T e :=
 ⟨Nat.le_trans h.base he.size, h.g.ext he, fun d => (h.slot d).alloc he⟩
inductive ff : AV → AV → Prop where
 | refl (a : AV) : ff a a
 | undef (a : AV) : ff a .undef
 | vw (q sz : Nat) (l : List (List AV)) : ff (.vw q sz l) (.sl sz l)
 | vwc (q off sz : Nat) (l : List (List AV)) : ff (.vwc q off sz l) (.sl sz l)
 | own (sz : Nat) (l : List (List AV)) : ff (.own sz l) (.sl sz l)
def upd (T : Nat → Value) (d : Nat) (v : Value) : Nat → Value := fun i => if i = d then v else T i
theorem ff.agm {a : AV} {z : Nat} {cs : List AV} {m : List (Nat × AV)} (h : ff a (.boxv z cs m)) : a = .boxv z cs m := by cases h; rfl
theorem ff.a0d {a : AV} {z : Nat} {l : List (List AV)} (h : ff a (.own z l)) : a = .own z l := by cases h; rfl
theorem dx.ku {B : Nat} {w : World} {c : Cls} {T T' : Nat → Value} {e e' : Env} {d : Nat} {v : Value} {a a' : AV} (h : dx B w c T e d v a) (hw : ff a a')
  (he : ∀ q, (∃ o, a' = .fptr q o) ∨ (∃ z l, a' = .vw q z l) ∨ (∃ o z l, a' = .vwc q o z l) → (ff (e q) (e' q) ∧ T' q = T q) ∨ ((∀ z cs m, e' q ≠ .boxv z cs m) ∧ ∀ z l, e' q ≠ .own z l)) : dx B w c T' e' d v a' := by
 cases hw with
 | undef => trivial
 | vw q sz l => exact h.1
 | vwc q off sz l => exact h.1
 | own sz l => exact h.1
 | refl =>
  cases a <;> first
   | exact h
   | skip
  case fptr q off =>
   intro z cs m hq
   rcases he q (.inl ⟨_, rfl⟩) with ⟨hw, hT⟩ | ⟨h1, h2⟩
   ·have := h z cs m (by rw [hq] at hw; exact hw.agm)
    rw [hT]; exact this
   ·exact absurd hq (h1 z cs m)
  case vw q sz l =>
   refine ⟨h.1, fun z l' hq => ?_⟩
   rcases he q (.inr (.inl ⟨_, _, rfl⟩)) with ⟨hw, hT⟩ | ⟨h1, h2⟩
   ·have := h.2 z l' (by rw [hq] at hw; exact hw.a0d)
    rw [hT]; exact this
   ·exact absurd hq (h2 z l')
  case vwc q off sz l =>
   refine ⟨h.1, fun z cs m z' l' hq ho => ?_⟩
   rcases he q (.inr (.inr ⟨_, _, _, rfl⟩)) with ⟨hw, hT⟩ | ⟨h1, h2⟩
   ·have := h.2 z cs m z' l' (by rw [hq] at hw; exact hw.agm) ho
    rw [hT]; exact this
   ·exact absurd hq (h1 z cs m)
theorem ax.ku {τ : Tab} {B : Nat} {w : World} {c : Cls} {T : Nat → Value} {e e' : Env} (h : ax τ B w c T e) (hw : ∀ s, ff (e s) (e' s)) : ax τ B w c T e' :=
 ⟨h.base, h.g, fun d => (h.slot d).ku (hw d) fun q _ => .inl ⟨hw q, rfl⟩⟩
theorem ax.put {τ : Tab} {B : Nat} {w : World} {c : Cls} {T : Nat → Value} {e e' : Env} {d : Nat} {u : Value} {v : AV} (h : ax τ B w c T e) (hv : dx B w c T e d u v) (hd : e' d = v)
  (hw : ∀ s, s ≠ d → ff (e s) (e' s)) (hr : holds v = true → ∀ s, s ≠ d → (∀ o, e' s ≠ .fptr d o) ∧ (∀ z l, e' s ≠ .vw d z l) ∧ (∀ o z l, e' s ≠ .vwc d o z l)) : ax τ B w c (upd T d u) e' := by
 have hno : holds v = false → (∀ z cs m, e' d ≠ .boxv z cs m) ∧ ∀ z l, e' d ≠ .own z l := fun hh => by
  rw [hd]; exact ⟨fun z cs m hx => (by rw [hx] at hh; cases hh), fun z l hx => (by rw [hx] at hh; cases hh)⟩
 refine ⟨h.base, h.g, fun s => ?_⟩
 by_cases hs : s = d
 ·subst hs
  rw [hd, show upd T s u s = u by simp [upd]]
  refine hv.ku (.refl _) fun q hq => ?_
  by_cases hqs : q = s
  ·subst hqs
   refine .inr (hno ?_)
   rcases hq with ⟨o, rfl⟩ | ⟨z, l, rfl⟩ | ⟨o, z, l, rfl⟩ <;> rfl
  ·exact .inl ⟨hw q hqs, by simp [upd, hqs]⟩
 ·rw [show upd T d u s = T s by simp [upd, hs]]
  refine (h.slot s).ku (hw s hs) fun q hq => ?_
  by_cases hqd : q = d
  ·subst hqd
   cases hh : holds v with
   | false => exact .inr (hno hh)
   | true =>
    obtain ⟨r1, r2, r3⟩ := hr hh s hs
    rcases hq with ⟨o, hx⟩ | ⟨z, l, hx⟩ | ⟨o, z, l, hx⟩
    ·exact absurd hx (r1 o)
    ·exact absurd hx (r2 z l)
    ·exact absurd hx (r3 o z l)
  ·exact .inl ⟨hw q hqd, by simp [upd, hqd]⟩
theorem cy (e : Env) (d : Nat) (v : AV) : set e d v d = v := by simp [set, aa]
theorem ea (e : Env) {d s : Nat} (v : AV) (h : s ≠ d) : set e d v s = e s := by
 have : Nat.beq s d = false := by cases hb : Nat.beq s d with | false => rfl | true => exact absurd (Nat.eq_of_beq_eq_true hb) h
 simp [set, aa, this]
theorem du {a b : Nat} (h : a ≠ b) : Nat.beq a b = false := by
 cases hb : Nat.beq a b with | false => rfl | true => exact absurd (Nat.eq_of_beq_eq_true hb) h
theorem agn (a : Nat) : Nat.beq a a = true := by simp
theorem at0 (d : Nat) (a : AV) : ff a (klv d a) := by
 cases a <;> first
  | exact .refl _
  | skip
 case fptr q o => show ff _ (aa _ _ _); cases Nat.beq q d <;> first | exact .refl _ | exact .undef _
 case vw q z l => show ff _ (aa _ _ _); cases Nat.beq q d <;> first | exact .refl _ | exact .vw ..
 case vwc q o z l => show ff _ (aa _ _ _); cases Nat.beq q d <;> first | exact .refl _ | exact .vwc ..
theorem a0e (d : Nat) (a : AV) : (∀ o, klv d a ≠ .fptr d o) ∧ (∀ z l, klv d a ≠ .vw d z l) ∧ (∀ o z l, klv d a ≠ .vwc d o z l) := by
 cases a <;> first
  | (refine ⟨fun o => ?_, fun z l => ?_, fun o z l => ?_⟩ <;> (simp [klv]; done))
  | skip
 case fptr q o =>
  by_cases h : q = d
  ·subst h; simp [klv, aa]
  ·simp [klv, aa, du h, h]
 case vw q z l =>
  by_cases h : q = d
  ·subst h; simp [klv, aa]
  ·simp [klv, aa, du h, h]
 case vwc q o z l =>
  by_cases h : q = d
  ·subst h; simp [klv, aa]
  ·simp [klv, aa, du h, h]
theorem aaf {e : Env} {d : Nat} {v : AV} (h : holds v = false) : Abs.j5 e (some d) v = set e d v := by simp [Abs.j5, aa, h]
theorem aq0 {e : Env} {d : Nat} {v : AV} (h : holds v = true) : Abs.j5 e (some d) v = set (kill d e) d v := by simp [Abs.j5, aa, h]
theorem ax.j5 {τ : Tab} {B : Nat} {w : World} {c : Cls} {T : Nat → Value} {e : Env} {d : Nat} {u : Value} {v : AV} (h : ax τ B w c T e) (hv : dx B w c T e d u v) : ax τ B w c (upd T d u) (j5 e (some d) v) := by
 cases hh : holds v with
 | false =>
  rw [aaf hh]
  refine h.put hv (cy ..) (fun s hs => by rw [ea _ _ hs]; exact .refl _) (fun h => by rw [hh] at h; cases h)
 | true =>
  rw [aq0 hh]
  refine h.put hv (cy ..) (fun s hs => by rw [ea _ _ hs]; exact at0 d _) fun _ s hs => ?_
  rw [ea _ _ hs]
  exact a0e d _
theorem axz (a : AV) : ff a (cl a) := by cases a <;> first | exact .refl _ | exact .undef _ | exact .vw .. | exact .vwc ..
theorem ac0 {a b : IntKind} (h : ajw a b = true) : a = b := by cases a <;> cases b <;> first | rfl | cases h
section
variable {α : Type} {r : α}
theorem bn {b : Bool} {k : Option α} (h : bh b k = some r) : b = true ∧ k = some r := by cases b <;> first | exact ⟨rfl, h⟩ | cases h
theorem ant {b : Bool} {x y : Option α} (h : ifB b x y = some r) : (b = true ∧ x = some r) ∨ (b = false ∧ y = some r) := by cases b <;> first | exact .inl ⟨rfl, h⟩ | exact .inr ⟨rfl, h⟩
theorem zn {a : AV} {k : Bool → Option α} (h : asB a k = some r) : ∃ b, a = .bool b ∧ k b = some r := by cases a <;> first | cases h | exact ⟨_, rfl, h⟩
theorem ax0 {kd : IntKind} {a : AV} {k : Int → Option α} (h : asI kd a k = some r) : ∃ n, a = .int kd n ∧ k n = some r := by
 cases a <;> first | cases h | (obtain ⟨h1, h2⟩ := bn h; obtain rfl := ac0 h1; exact ⟨_, rfl, h2⟩)
theorem tf {a : AV} {k : Int → Option α} (h : asN a k = some r) : ∃ kd n, a = .int kd n ∧ k n = some r := by cases a <;> first | cases h | exact ⟨_, _, rfl, h⟩
theorem ac1 {a : AV} {k : List UInt8 → Option α} (h : asS a k = some r) : ∃ s, a = .str s ∧ k s = some r := by cases a <;> first | cases h | exact ⟨_, rfl, h⟩
def IsL (sz : Nat) (a : AV) (l : List (List AV)) : Prop := (a = .nil ∧ l = []) ∨ a = .sl sz l ∨ a = .own sz l ∨ (∃ q, a = .vw q sz l) ∨ ∃ q o, a = .vwc q o sz l
theorem rh {sz : Nat} {a : AV} {k : List (List AV) → Option α} (h : asL sz a k = some r) : ∃ l, IsL sz a l ∧ k l = some r := by
 cases a <;> first
  | (cases h; done)
  | exact ⟨[], .inl ⟨rfl, rfl⟩, h⟩
  | (obtain ⟨h1, h2⟩ := bn h; obtain rfl := Nat.eq_of_beq_eq_true h1; first
    | exact ⟨_, .inr (.inl rfl), h2⟩ | exact ⟨_, .inr (.inr (.inl rfl)), h2⟩ | exact ⟨_, .inr (.inr (.inr (.inl ⟨_, rfl⟩))), h2⟩ | exact ⟨_, .inr (.inr (.inr (.inr ⟨_, _, rfl⟩))), h2⟩)
theorem ago {sz : Nat} {a : AV} {k : List (List AV) → Option α} (h : asO sz a k = some r) : ∃ l, a = .own sz l ∧ k l = some r := by
 cases a <;> first | (cases h; done) | (obtain ⟨h1, h2⟩ := bn h; obtain rfl := Nat.eq_of_beq_eq_true h1; exact ⟨_, rfl, h2⟩)
theorem ac2 {sz : Nat} {a : AV} {k : List AV → Option α} (h : asC sz a k = some r) : ∃ c, a = .agg sz c ∧ k c = some r := by
 cases a <;> first | (cases h; done) | (obtain ⟨h1, h2⟩ := bn h; obtain rfl := Nat.eq_of_beq_eq_true h1; exact ⟨_, rfl, h2⟩)
theorem agp {a : AV} {k : Nat → List AV → Option α} (h : asF a k = some r) : ∃ f c, a = .fn f c ∧ k f c = some r := by cases a <;> first | cases h | exact ⟨_, _, rfl, h⟩
theorem at1 {a : AV} {k : Option α} (h : af8 a k = some r) : a = .tup [] ∧ k = some r := by unfold af8 at h; split at h <;> first | exact ⟨rfl, h⟩ | cases h
theorem at2 {a : AV} {k : AV → AV → Option α} (h : lg a k = some r) : ∃ x y, a = .tup [x, y] ∧ k x y = some r := by unfold lg at h; split at h <;> first | cases h | exact ⟨_, _, rfl, h⟩
theorem at3 {a : AV} {k : AV → AV → AV → Option α} (h : af9 a k = some r) : ∃ x y z, a = .tup [x, y, z] ∧ k x y z = some r := by unfold af9 at h; split at h <;> first | cases h | exact ⟨_, _, _, rfl, h⟩
theorem at4 {a : AV} {k : AV → AV → AV → AV → Option α} (h : aga a k = some r) : ∃ x y z u, a = .tup [x, y, z, u] ∧ k x y z u = some r := by unfold aga at h; split at h <;> first | cases h | exact ⟨_, _, _, _, rfl, h⟩
theorem qq {c : List AV} {off : Nat} {k : AV → Option α} (h : ab c off k = some r) : ∃ a, c[off]? = some a ∧ k a = some r := by
 unfold ab at h; split at h
 ·rename_i a ha; exact ⟨a, ha, h⟩
 ·cases h
theorem uv : ∀ {n : Nat} {c : List AV} {off : Nat} {k : List AV → Option α}, ru n c off k = some r → ∃ l, l.length = n ∧ (∀ j, j < n → l[j]? = c[off + j]?) ∧ k l = some r
 | 0, _, _, _, h => ⟨[], rfl, fun j hj => by omega, h⟩
 | n + 1, c, off, k, h => by
  obtain ⟨a, ha, h⟩ := qq h
  obtain ⟨l, hl, hj, h⟩ := uv (n := n) h
  refine ⟨a :: l, by simp [hl], fun j hjn => ?_, h⟩
  cases j with
  | zero => simp [ha]
  | succ j => simp only [List.getElem?_cons_succ]; rw [hj j (by omega)]; congr 1; omega
theorem aag {c : List AV} {m : List (Nat × AV)} {off : Nat} {k : AV → Option α} (h : vd c m off k = some r) : ∃ a, (ovr m off = some a ∨ (ovr m off = none ∧ c[off]? = some a)) ∧ k a = some r := by
 unfold vd at h; split at h
 ·rename_i a ha; exact ⟨a, .inl ha, h⟩
 ·rename_i hn; obtain ⟨a, ha, h⟩ := qq h; exact ⟨a, .inr ⟨hn, ha⟩, h⟩
theorem ahy : ∀ {n : Nat} {c : List AV} {m : List (Nat × AV)} {off : Nat} {k : List AV → Option α}, zx n c m off k = some r →
  ∃ l, l.length = n ∧ (∀ j a, l[j]? = some a → ovr m (off + j) = some a ∨ (ovr m (off + j) = none ∧ c[off + j]? = some a)) ∧ k l = some r
 | 0, _, _, _, _, h => ⟨[], rfl, fun j a ha => by simp at ha, h⟩
 | n + 1, c, m, off, k, h => by
  obtain ⟨a, ha, h⟩ := aag h
  obtain ⟨l, hl, hj, h⟩ := ahy (n := n) h
  refine ⟨a :: l, by simp [hl], fun j b hb => ?_, h⟩
  cases j with
  | zero => simp only [List.getElem?_cons_zero, Option.some.injEq] at hb; subst hb; exact ha
  | succ j => simp only [List.getElem?_cons_succ] at hb; have := hj j b hb; rwa [show off + 1 + j = off + (j + 1) by omega] at this
theorem xg {a : AV} {k : AV → Option α} (h : nz a k = some r) : a ≠ .undef ∧ k a = some r := by cases a <;> first | cases h | exact ⟨by simp, h⟩
def OpV (e : Env) (x : Operand) (a : AV) : Prop := a ≠ .undef ∧ ((∃ t, x = .tmp t ∧ kj (e t) = a) ∨ (∃ v, x = .const v ∧ cv v = a) ∨ ∃ f, x = .func f ∧ a = .fn f [])
theorem ck {e : Env} {x : Operand} {k : AV → Option α} (h : de e x k = some r) : ∃ a, OpV e x a ∧ k a = some r := by
 cases x with
 | tmp t => obtain ⟨h1, h2⟩ := xg h; exact ⟨_, ⟨h1, .inl ⟨t, rfl, rfl⟩⟩, h2⟩
 | const v => obtain ⟨h1, h2⟩ := xg h; exact ⟨_, ⟨h1, .inr (.inl ⟨v, rfl, rfl⟩)⟩, h2⟩
 | global g => cases h
 | func f => exact ⟨_, ⟨by simp, .inr (.inr ⟨f, rfl, rfl⟩)⟩, h⟩
theorem abu {e : Env} : ∀ {xs : List Operand} {k : List AV → Option α}, tt e xs k = some r → ∃ l : List AV, l.length = xs.length ∧ (∀ (i : Nat) (x : Operand) (a : AV), xs[i]? = some x → l[i]? = some a → OpV e x a) ∧ k l = some r
 | [], _, h => ⟨[], rfl, fun i x a hx => by simp at hx, h⟩
 | x :: xs, k, h => by
  obtain ⟨a, ha, h⟩ := ck h
  obtain ⟨l, hl, hi, h⟩ := abu (xs := xs) h
  refine ⟨a :: l, by simp [hl], fun i y b hy hb => ?_, h⟩
  cases i with
  | zero => simp only [List.getElem?_cons_zero, Option.some.injEq] at hy hb; subst hy; subst hb; exact ha
  | succ i => simp only [List.getElem?_cons_succ] at hy hb; exact hi i y b hy hb
theorem ac3 {β : Type} {l : List β} {i : Int} {k : β → Option α} (h : idx l i k = some r) : ∃ c, 0 ≤ i ∧ l[i.toNat]? = some c ∧ k c = some r := by
 obtain ⟨h1, h2⟩ := bn h
 split at h2
 ·rename_i c hc; exact ⟨c, of_decide_eq_true h1, hc, h2⟩
 ·cases h2
variable {τ : Tab}
theorem ja {t : Nat} {k : Nat → Option α} (h : ks τ t k = some r) : ∃ i, τ.T t = some i ∧ k i.sz = some r := by
 unfold ks at h; split at h
 ·rename_i i hi; exact ⟨i, hi, h⟩
 ·cases h
theorem abv {t : Nat} {k : TI → Option α} (h : yb τ t k = some r) : ∃ i, τ.T t = some i ∧ k i = some r := by
 unfold yb at h; split at h
 ·rename_i i hi; exact ⟨i, hi, h⟩
 ·cases h
theorem ahz {t : Nat} {k : Nat → Option α} (h : zy τ t k = some r) : ∃ e s b z, τ.T t = some ⟨.slice e, s, b, z⟩ ∧ k e = some r := by
 unfold zy at h; split at h
 ·rename_i e s b z hi; exact ⟨e, s, b, z, hi, h⟩
 ·cases h
theorem ny {t : Nat} {k : Nat → Option α} (h : ki τ t k = some r) : ∃ e s b z i, τ.T t = some ⟨.slice e, s, b, z⟩ ∧ τ.T e = some i ∧ k i.sz = some r := by
 unfold ki at h; split at h
 ·rename_i e s b z hi; obtain ⟨i, h1, h2⟩ := ja h; exact ⟨e, s, b, z, i, hi, h1, h2⟩
 ·cases h
theorem am1 {t : Nat} {k : List (Nat × Nat) → Nat → List AV → Option α} (h : we τ t k = some r) : ∃ fs s b z, τ.T t = some ⟨.struct fs, s, b, z⟩ ∧ k fs s z = some r := by
 unfold we at h; split at h
 ·rename_i fs s b z hi; exact ⟨fs, s, b, z, hi, h⟩
 ·cases h
theorem adh {t f : Nat} {k : Nat → Nat → Option α} (h : fieldAt τ t f k = some r) : ∃ fs s b z off ft, τ.T t = some ⟨.struct fs, s, b, z⟩ ∧ fs[f]? = some (off, ft) ∧ k off ft = some r := by
 unfold fieldAt at h; split at h
 ·rename_i fs s b z hi
  split at h
  ·rename_i off ft hf; exact ⟨fs, s, b, z, off, ft, hi, hf, h⟩
  ·cases h
 ·cases h
theorem ah0 {a : AV} {k : Option α} (h : tv a k = some r) : (∃ z c m, a = .boxv z c m) ∧ k = some r := by cases a <;> first | (cases h; done) | exact ⟨⟨_, _, _, rfl⟩, h⟩
theorem ao3 {e : Env} {s off : Nat} {k : AV → Option α} {a : AV} (h : abi e s off k a = some r) :
  (∃ z c m, a = .boxv z c m ∧ k (.fptr s off) = some r) ∨ (∃ d o, a = .fptr d o ∧ (∃ z c m, e d = .boxv z c m) ∧ k (.fptr d (o + off)) = some r) ∨ ∃ z c o, a = .eptr z c o ∧ k (.eptr z c (o + off)) = some r := by
 cases a <;> first
  | (cases h; done)
  | exact .inl ⟨_, _, _, rfl, h⟩
  | (obtain ⟨h1, h2⟩ := ah0 h; exact .inr (.inl ⟨_, _, rfl, h1, h2⟩))
  | exact .inr (.inr ⟨_, _, _, rfl, h⟩)
theorem ax1 {t : Nat} {op : BinOp} {a b : AV} {k : AV → Option α} (h : bin τ t op a b k = some r) :
  (∃ k1 m k2 n, a = .int k1 m ∧ b = .int k2 n ∧ (shI op k1 m n k = some r ∨ (k1 = k2 ∧ ajx op k1 m n k = some r))) ∨ (∃ x y, a = .str x ∧ b = .str y ∧ ajy op x y k = some r) ∨
   ∃ x y, a = .bool x ∧ b = .bool y ∧ (∃ s bb z, τ.T t = some ⟨.bool, s, bb, z⟩) ∧ ((op = .eql ∧ k (.bool (x == y)) = some r) ∨ (op = .neq ∧ k (.bool (!(x == y))) = some r)) := by
 unfold bin at h
 split at h
 ·refine .inl ⟨_, _, _, _, rfl, rfl, ?_⟩
  split at h
  ·exact .inl h
  ·obtain ⟨hg, h2⟩ := bn h; exact .inr ⟨ac0 hg, h2⟩
 ·exact .inr (.inl ⟨_, _, rfl, rfl, h⟩)
 ·refine .inr (.inr ⟨_, _, rfl, rfl, ?_⟩)
  unfold ajz at h
  split at h
  ·rename_i ht; exact ⟨⟨_, _, _, ht⟩, .inl ⟨rfl, h⟩⟩
  ·rename_i ht; exact ⟨⟨_, _, _, ht⟩, .inr ⟨rfl, h⟩⟩
  ·cases h
 ·cases h
def Cst (τ : Tab) (t : Nat) (a a' : AV) : Prop :=
  ((∃ b, a = .bool b ∧ a' = .bool b) ∨ (∃ kd n, a = .int kd n ∧ a' = .int kd n) ∨ (∃ s, a = .str s ∧ a' = .str s) ∨ (∃ sz l, IsL sz a l ∧ a' = .sl sz l) ∨
    (∃ sz c, a = .agg sz c ∧ a' = .agg sz c) ∨ ∃ f c, a = .fn f c ∧ a' = .fn f c) ∧
  ∃ i, τ.T t = some i ∧ match i.k, a' with
    | .bool, .bool _ => True
    | .int kd, .int kd' _ => kd = kd'
    | .str, .str _ => True
    | .slice e, .sl sz _ => ∃ ei, τ.T e = some ei ∧ ei.sz = sz
    | .struct _, .agg sz _ => i.sz = sz
    | .array _ _, .agg sz _ => i.sz = sz
    | .func, .fn _ _ => True
    | _, _ => False
theorem iq {t : Nat} {a : AV} {k : AV → Option α} (h : cast τ t a k = some r) : ∃ a', Cst τ t a a' ∧ k a' = some r := by
 unfold cast at h; split at h
 ·rename_i hi; obtain ⟨b, rfl, h⟩ := zn h; exact ⟨_, ⟨.inl ⟨b, rfl, rfl⟩, _, hi, trivial⟩, h⟩
 ·rename_i hi; obtain ⟨n, h1, h2⟩ := ax0 h; exact ⟨_, ⟨.inr (.inl ⟨_, n, h1, rfl⟩), _, hi, rfl⟩, h2⟩
 ·rename_i hi; obtain ⟨s, rfl, h⟩ := ac1 h; exact ⟨_, ⟨.inr (.inr (.inl ⟨s, rfl, rfl⟩)), _, hi, trivial⟩, h⟩
 ·rename_i hi; obtain ⟨i, h1, h⟩ := ja h; obtain ⟨l, hl, h⟩ := rh h; exact ⟨_, ⟨.inr (.inr (.inr (.inl ⟨_, l, hl, rfl⟩))), _, hi, i, h1, rfl⟩, h⟩
 ·rename_i hi; obtain ⟨c, h1, h2⟩ := ac2 h; exact ⟨_, ⟨.inr (.inr (.inr (.inr (.inl ⟨_, c, h1, rfl⟩)))), _, hi, rfl⟩, h2⟩
 ·rename_i hi; obtain ⟨c, h1, h2⟩ := ac2 h; exact ⟨_, ⟨.inr (.inr (.inr (.inr (.inl ⟨_, c, h1, rfl⟩)))), _, hi, rfl⟩, h2⟩
 ·rename_i hi; obtain ⟨f, c, rfl, h⟩ := agp h; exact ⟨_, ⟨.inr (.inr (.inr (.inr (.inr ⟨f, c, rfl, rfl⟩)))), _, hi, trivial⟩, h⟩
 ·cases h
theorem oa {sz : Nat} {a : AV} {k : List AV → Option α} (h : cellsOf sz a k = some r) :
  ∃ c, ((a = .agg sz c) ∨ ((∀ s c', a ≠ .agg s c') ∧ c = [a] ∧ ((∃ b, a = .bool b) ∨ (∃ kd n, a = .int kd n) ∨ (∃ s, a = .str s) ∨ (∃ s l, a = .sl s l) ∨ ∃ f l, a = .fn f l))) ∧ k c = some r := by
 cases a <;> first
  | (cases h; done)
  | (obtain ⟨h1, h2⟩ := bn h; obtain rfl := Nat.eq_of_beq_eq_true h1; exact ⟨_, .inl rfl, h2⟩)
  | exact ⟨_, .inr ⟨by simp, rfl, by simp⟩, h⟩
end
end Go.Proofs.YtmdimhcjogjcgaaGreatDoor.Abs
namespace Go.Proofs.YtmdimhcjogjcgaaGreatDoor.Abs
open Go.RowKit
def ao4 (u : Value) (a : AV) : Prop := match a with
 | .own _ [] => u = .slice none 0 0
 | a => ∀ w c, Rep w c u a
structure ao5 (P : Program) (t : Nat) (ti : TI) : Prop where
 info : ∃ i z, P.info? t = some i ∧ i.size = ti.sz ∧ i.bytes = ti.bytes ∧ i.zero = some z ∧ z.cells.size = ti.sz ∧ ti.zero.length = ti.sz ∧
  ∀ (j : Nat) (u : Value) (a : AV), z.cells[j]? = some u → ti.zero[j]? = some a → ao4 u a
 pos : 0 < ti.sz
 kind : match ti.k with
  | .bool => P.underlying t = some .bool ∧ ti.sz = 1
  | .int kd => P.underlying t = some (.int kd) ∧ ti.sz = 1
  | .str => P.underlying t = some .string ∧ ti.sz = 1
  | .slice e => (P.underlying t = some (.slice e) ∧ ∀ ei, P.info? e = some ei → ei.bytes ≤ 128) ∧ ti.sz = 1
  | .struct fs => ∃ F : Array Field, P.underlying t = some (.struct F) ∧ fs = F.toList.map (fun f => (f.offset, f.type)) ∧ ∀ f ∈ F.toList, ∃ fi, P.info? f.type = some fi ∧ 0 < fi.size ∧ f.offset + fi.size ≤ ti.sz
  | .func => (∃ ps rs v, P.underlying t = some (.func ps rs v)) ∧ ti.sz = 1
  | .tuple _ => True
  | .array n e => P.underlying t = some (.array n e)
def db (P : Program) (τ : Tab) : Prop := ∀ t ti, τ.T t = some ti → ao5 P t ti
def ej (P : Program) (o : Oper) (a : Act) (w : World) (R : Value → World → Prop) : Prop :=
 ∀ (K : Act → World → Prop) (Q : Exit → Act → World → Prop), (∀ u w', R u w' → K (a.put o.dst u) w') → o.wp P a w K Q
theorem ej.value {P : Program} {o : Oper} {a : Act} {w w' : World} {u : Value} {R : Value → World → Prop} (h : (execOp a.eval o).run P w = .ok (.value u) w') (hR : R u w') : ej P o a w R := fun K Q hK => by
 unfold Oper.wp; rw [h]; exact hK u w' hR
theorem ej.skip {P : Program} {o : Oper} {a : Act} {w w' : World} {R : Value → World → Prop} (h : (execOp a.eval o).run P w = .ok .skip w') (hR : R undef w') : ej P o a w R := fun K Q hK => by
 unfold Oper.wp; rw [h]; exact hK undef w' hR
theorem ej.enter {P : Program} {o : Oper} {a : Act} {w : World} {f : FuncId} {args : Array Value} {R : Value → World → Prop} (h : (execOp a.eval o).run P w = .ok (.enter f args) w)
  (hC : Calls P f args w fun x w' => ∃ v, x = .returned v ∧ R v w') : ej P o a w R := fun K Q hK => by
 unfold Oper.wp; rw [h]
 show Calls P f args w _
 refine hC.mono fun x w' ⟨v, hx, hR⟩ => ?_
 subst hx
 exact hK v w' hR
def aj (a : Act) : Nat → Value := fun i => a.tmps.getD i undef
theorem aah (a : Act) (t : Nat) : a.eval (.tmp t) = aj a t := rfl
section
variable {P : Program} {τ : Tab} {B : Nat} {w : World} {c : Cls} {a : Act} {e : Env}
theorem cq {t : Nat} {d : TypeDesc} (h : P.underlying t = some d) : (underlying t).run P w = .ok d w := by simp [underlying, h]
theorem akg {t : Nat} {i : TypeInfo} (h : P.info? t = some i) : (sizeOf t).run P w = .ok i.size w := by simp [sizeOf, typeInfo, h]
theorem at5 {t : Nat} {i : TypeInfo} {z : Value} (h : P.info? t = some i) (hz : i.zero = some z) : (zeroValue t).run P w = .ok z w := by simp [zeroValue, typeInfo, h, hz]
theorem dx.kj {d : Nat} {T : Nat → Value} {u : Value} {v : AV} (h : dx B w c T e d u v) : dx B w c T e d u (kj v) := by
 cases v <;> first
  | exact h
  | exact h.1
theorem abw {v : AV} {z : Nat} {l : List (List AV)} (h : Abs.kj v = .own z l) : v = .own z l := by cases v <;> first | exact h | cases h
theorem at6 {v : AV} {q z : Nat} {l : List (List AV)} (h : Abs.kj v = .vw q z l) : v = .vw q z l := by cases v <;> first | exact h | cases h
theorem OpV.slot (hs : ax τ B w c (aj a) e) {x : Operand} {v : AV} (h : OpV e x v) : ∃ d, dx B w c (aj a) e d (a.eval x) v := by
 obtain ⟨h0, ⟨t, rfl, rfl⟩ | ⟨k, rfl, rfl⟩ | ⟨f, rfl, rfl⟩⟩ := h
 ·exact ⟨t, (hs.slot t).kj⟩
 ·refine ⟨0, ?_⟩
  show dx B w c (aj a) e 0 k (cv k)
  cases k <;> first
   | exact absurd rfl h0
   | exact Rep.bool _
   | exact Rep.int _ _
   | exact Rep.str _
   | skip
  case slice b n m =>
   cases b with
   | some b => exact absurd rfl h0
   | none => cases n with
    | succ n => exact absurd rfl h0
    | zero => cases m with
     | succ m => exact absurd rfl h0
     | zero => exact Rep.nilc
  case func fn first cap => cases fn <;> exact absurd rfl h0
 ·exact ⟨0, Rep.fn f #[] [] rfl fun i v a hv => by simp at hv⟩
theorem dx.isL {d sz : Nat} {u : Value} {v : AV} {l : List (List AV)} (h : dx B w c (aj a) e d u v) (hl : IsL sz v l) : Rep w c u (.sl sz l) := by
 rcases hl with ⟨rfl, rfl⟩ | rfl | rfl | ⟨q, rfl⟩ | ⟨q, o, rfl⟩
 ·have h : Rep w c u .nil := h
  cases h; exact .nil sz
 ·exact h
 ·exact h.1
 ·exact h.1
 ·exact h.1
theorem dx.cst {d t : Nat} {u : Value} {v v' : AV} (h : dx B w c (aj a) e d u v) (hc : Cst τ t v v') : gy w c u v' := by
 obtain ⟨⟨b, rfl, rfl⟩ | ⟨kd, n, rfl, rfl⟩ | ⟨s, rfl, rfl⟩ | ⟨sz, l, hl, rfl⟩ | ⟨sz, cs, rfl, rfl⟩ | ⟨f, cs, rfl, rfl⟩, _⟩ := hc
 ·exact h
 ·exact h
 ·exact h
 ·exact h.isL hl
 ·exact h
 ·exact h
theorem gy.slot {d : Nat} {T : Nat → Value} {u : Value} {v : AV} (h : gy w c u v) : dx B w c T e d u v := by
 cases v <;> first | exact h.elim | exact h
theorem Rep.plain {u : Value} {t : Nat} {v v' : AV} (h : Rep w c u v) (hc : Cst τ t v v') : gy w c u v' := by
 obtain ⟨⟨b, rfl, rfl⟩ | ⟨kd, n, rfl, rfl⟩ | ⟨s, rfl, rfl⟩ | ⟨sz, l, hl, rfl⟩ | ⟨sz, cs, rfl, rfl⟩ | ⟨f, cs, rfl, rfl⟩, _⟩ := hc
 ·exact h
 ·exact h
 ·exact h
 ·rcases hl with ⟨rfl, rfl⟩ | rfl | rfl | ⟨q, rfl⟩ | ⟨q, o, rfl⟩
  ·cases h; exact Rep.nil sz
  ·exact h
  ·cases h
  ·cases h
  ·cases h
 ·cases h
 ·exact h
theorem wj {u : Value} {v : AV} (h : Rep w c u v) : u.oneCell' = true := by cases h <;> first | rfl | assumption
theorem eo {u : Value} {b : Bool} (h : Rep w c u (.bool b)) : u = .bool b := by cases h; rfl
theorem fb {u : Value} {k : IntKind} {n : Int} (h : Rep w c u (.int k n)) : u = .int k n := by cases h; rfl
theorem gu {u : Value} {s : List UInt8} (h : Rep w c u (.str s)) : ∃ b : ByteArray, u = .string b ∧ b.data.toList = s := by cases h; exact ⟨_, rfl, rfl⟩
theorem aq1 {u : Value} {f : Nat} {l : List AV} (h : Rep w c u (.fn f l)) : ∃ vs : Array Value, u = .func (.func f) #[] vs ∧ vs.size = l.length ∧ ∀ (i : Nat) (v : Value) (a : AV), vs[i]? = some v → l[i]? = some a → Rep w c v a := by
 cases h with | fn f vs as_ hsz hr => exact ⟨vs, rfl, hsz, hr⟩
theorem xh {u : Value} {sz off : Nat} {cs : List AV} (h : Rep w c u (.eptr sz cs off)) : ∃ b o, u = .pointer (some ⟨b, o + off, none⟩) ∧ cs.length = sz ∧ ∃ f : Nat → Value,
  (∀ j, j < sz → w.cell? ⟨b, o + j, none⟩ = some (f j)) ∧ (∀ j, j < sz → dw c b (o + j)) ∧ ∀ (j : Nat) (a : AV), cs[j]? = some a → Rep w c (f j) a := by
 cases h with | eptr b o sz cs off f hsz hc hs hr => exact ⟨b, o, rfl, hsz, f, hc, hs, hr⟩
theorem gz {u : Value} {sz : Nat} {l : List (List AV)} (h : Rep w c u (.sl sz l)) : ∃ b cap, u = .slice b l.length cap ∧ l.length ≤ cap ∧ (b = none → cap = 0) ∧ (0 < l.length → ∃ g o, b = some ⟨g, o, none⟩ ∧
  (∀ (i : Nat) (cs : List AV), l[i]? = some cs → cs.length = sz) ∧ ∃ f : Nat → Nat → Value, (∀ i j, i < l.length → j < sz → w.cell? ⟨g, o + (i * sz + j), none⟩ = some (f i j)) ∧
  (∀ i j, i < l.length → j < sz → dw c g (o + (i * sz + j))) ∧ ∀ (i j : Nat) (cs : List AV) (a : AV), l[i]? = some cs → cs[j]? = some a → Rep w c (f i j) a) := by
 cases h with
 | nil sz => exact ⟨none, 0, rfl, Nat.le_refl _, fun _ => rfl, fun h => absurd h (by simp)⟩
 | emp b cap sz => exact ⟨some b, cap, rfl, Nat.zero_le _, fun h => by (cases h), fun h => absurd h (by simp)⟩
 | sl b o cap sz l f hcap hsz hc hs hr => exact ⟨some ⟨b, o, none⟩, cap, rfl, hcap, fun h => by (cases h), fun _ => ⟨b, o, rfl, hsz, f, hc, hs, hr⟩⟩
def mq (c : Cls) (b : Nat) (k : Kind) : Cls := fun i => if i = b then k else c i
theorem yg (w : World) (c : Cls) (o : Obj) (k : Kind) : Ext w.heap.size w c (w.alloc o) (mq c w.heap.size k) := by
 refine ⟨rfl, rfl, rfl, by simp, fun b hb _ => ⟨Below.heap_alloc w o b hb, by simp [mq, Nat.ne_of_lt hb]⟩, fun b i v hv hs => ?_⟩
 have hb := re hv
 refine ⟨?_, by unfold dw mq at *; simpa [Nat.ne_of_lt hb] using hs⟩
 rw [o1 (w := w) (Below.heap_alloc w o b hb)]; exact hv
theorem yh (w : World) (o : Obj) : (w.alloc o).heap[w.heap.size]? = some o := heap_alloc_new w o
theorem j6 (b o n : Nat) : (⟨b, o, none⟩ : Addr).add n = ⟨b, o + n, none⟩ := by unfold Addr.add; split <;> simp_all
theorem cell_of {w : World} {b : Nat} {vs : Array Value} {ty : TypeId} {fr : Nat × Nat} (h : w.heap[b]? = some (.cells vs ty fr)) (i : Nat) : w.cell? ⟨b, i, none⟩ = vs[i]? := by simp [World.cell?, h]
end
end Go.Proofs.YtmdimhcjogjcgaaGreatDoor.Abs
