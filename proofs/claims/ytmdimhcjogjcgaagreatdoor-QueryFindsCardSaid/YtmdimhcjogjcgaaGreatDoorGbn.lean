/- A row's arguments: what is read of them stands in memory. -/
import Derived.Test.YtmdimhcjogjcgaaGreatDoorGbe
import Derived.DataReads
import GoSem.ClaimChange
import Derived.Test.YtmdimhcjogjcgaaGreatDoorGbm
import Derived.SizedLaws
import Derived.Test.YtmdimhcjogjcgaaGreatDoorRows
import Derived.Deep.DeepHandedRow
import Derived.Lib.LaidU8
import Derived.ProofKit
import Derived.MakeChecks
set_option linter.all false
set_option maxRecDepth 100000
noncomputable section
namespace Go.Proofs.YtmdimhcjogjcgaaGreatDoor.Abs
open Go.RowKit
inductive zi (τ : Tab) : Nat → List AV → Prop
 | bool {t s b : Nat} {z : List AV} (h : τ.T t = some ⟨.bool, s, b, z⟩) (x : Bool) : zi τ t [.bool x]
 | int {t s b : Nat} {z : List AV} {k : IntKind} (h : τ.T t = some ⟨.int k, s, b, z⟩) (n : Int) (wf : (Lit.int k n).wf = true) : zi τ t [.int k n]
 | str {t s b : Nat} {z : List AV} (h : τ.T t = some ⟨.str, s, b, z⟩) (l : List UInt8) (hl : l.length ≤ maxLen) : zi τ t [.str l]
 | slice {t s b e : Nat} {z : List AV} {ti : TI} (h : τ.T t = some ⟨.slice e, s, b, z⟩) (he : τ.T e = some ti) (l : List (List AV)) (hlen : l.length ≤ maxLen) (hl : ∀ cs ∈ l, zi τ e cs) : zi τ t [.sl ti.sz l]
 | struct {t s b : Nat} {z : List AV} {fs : List (Nat × Nat)} (h : τ.T t = some ⟨.struct fs, s, b, z⟩) (parts : List (List AV)) (hlen : parts.length = fs.length) (hp : ∀ (i o f : Nat) (p : List AV), fs[i]? = some (o, f) → parts[i]? = some p → zi τ f p) : zi τ t parts.flatten
def anc (τ : Tab) : Nat → List (Nat × Nat) → Nat → Prop
 | n, [], S => n = S
 | n, (off, ft) :: r, S => off = n ∧ ∃ ti, τ.T ft = some ti ∧ anc τ (n + ti.sz) r S
def a0r (τ : Tab) (D : Nat → Prop) : Prop := ∀ t, D t → ∃ ti, τ.T t = some ti ∧ (match ti.k with
 | .bool => True | .int _ => True | .str => True
 | .slice e => D e
 | .struct fs => anc τ 0 fs ti.sz ∧ ∀ o f, (o, f) ∈ fs → D f
 | _ => False)
abbrev vy : Cls := fun _ => .frz
theorem mapM_some {α β : Type} {f : α → Option β} : ∀ {l : List α} {r : List β}, l.mapM f = some r → r.length = l.length ∧ ∀ (i : Nat) (x : α), l[i]? = some x → ∃ y, r[i]? = some y ∧ f x = some y
 | [], r, h => by simp at h; subst h; exact ⟨rfl, fun i x hx => by simp at hx⟩
 | x :: l, r, h => by
  simp only [List.mapM_cons] at h
  obtain ⟨y, h1, h2⟩ := Option.bind_eq_some_iff.1 h
  obtain ⟨ys, h3, h4⟩ := Option.bind_eq_some_iff.1 h2
  cases h4
  obtain ⟨k1, k2⟩ := mapM_some h3
  refine ⟨by simp [k1], fun i x' hx => ?_⟩
  cases i with
  | zero => simp at hx; subst hx; exact ⟨y, rfl, h1⟩
  | succ i => obtain ⟨y', q1, q2⟩ := k2 i x' (by simpa using hx); exact ⟨y', by simpa using q1, q2⟩
section
variable {P : Program} {τ : Tab} {w : World} {H : Type} {enc : TypeId × Value → H} {spare : Nat → Bool} {D : Nat → Prop}
theorem ag2 (hT : ey P τ) {t : Nat} {ti : TI} (h : τ.T t = some ti) : P.cellsOf t = ti.sz := by
 obtain ⟨i, h1, h2⟩ := anv hT h
 simp [Program.cellsOf, h1, h2]
def ane (τ : Tab) (w : World) (t : Nat) (cs : List Value) (as_ : List AV) : Prop := as_.length = cs.length ∧ zi τ t as_ ∧ ∀ (j : Nat) (u : Value) (a : AV), cs[j]? = some u → as_[j]? = some a → Rep w vy u a
theorem aj5 (hT : ey P τ) {w : World} {g : Nat → List Value → Prop} {cs : List Value} (hg : ∀ f ti vs, τ.T f = some ti → g f vs → vs.length ≤ ti.sz → ∃ as_, ane τ w f vs as_) :
  ∀ (fs : List (Nat × Nat)) (n S : Nat), anc τ n fs S → cs.length = S → (∀ o f, (o, f) ∈ fs → g f ((cs.drop o).take (P.cellsOf f))) →
   ∃ parts : List (List AV), parts.length = fs.length ∧ (∀ (i o f : Nat) (p : List AV), fs[i]? = some (o, f) → parts[i]? = some p → zi τ f p) ∧ parts.flatten.length = (cs.drop n).length ∧
    ∀ (j : Nat) (u : Value) (a : AV), (cs.drop n)[j]? = some u → parts.flatten[j]? = some a → Rep w vy u a
 | [], n, S, hc, hl, _ => ⟨[], rfl, fun i o f p h => by simp at h, by have : n = S := hc; subst this; simp [hl], fun j u a _ h => by simp at h⟩
 | (o, f) :: fs, n, S, hc, hl, hf => by
  obtain ⟨rfl, ti, hti, hc⟩ := hc
  have hle : ∀ (fs : List (Nat × Nat)) (n S : Nat), anc τ n fs S → n ≤ S := by
   intro fs
   induction fs with
   | nil => intro n S h; exact Nat.le_of_eq h
   | cons x fs ih => intro n S h; obtain ⟨_, _, _, h⟩ := h; have := ih _ _ h; omega
  have hcell := ag2 hT hti
  have hlen : ((cs.drop o).take ti.sz).length = ti.sz := by have := hle _ _ _ hc; simp; omega
  obtain ⟨as_, h1, h2, h3⟩ := hg f ti _ hti (hf o f (by simp)) (by rw [hcell, hlen]; exact Nat.le_refl _)
  rw [hcell] at h1 h3
  rw [hlen] at h1
  obtain ⟨parts, k1, k2, k3, k4⟩ := aj5 hT hg fs (o + ti.sz) S hc hl fun o' f' hm => hf o' f' (by simp [hm])
  refine ⟨as_ :: parts, by simp [k1], fun i o' f' p hi hp => ?_, ?_, fun j u a hu ha => ?_⟩
  ·cases i with
   | zero => simp at hi hp; obtain ⟨rfl, rfl⟩ := hi; subst hp; exact h2
   | succ i => exact k2 i o' f' p (by simpa using hi) (by simpa using hp)
  ·rw [List.flatten_cons, List.length_append, k3, h1]
   have := hle _ _ _ hc
   simp; omega
  ·rw [List.flatten_cons] at ha
   by_cases hj : j < ti.sz
   ·rw [List.getElem?_append_left (by omega)] at ha
    exact h3 j u a (by rw [List.getElem?_take, if_pos hj]; exact hu) ha
   ·rw [List.getElem?_append_right (by omega), h1] at ha
    refine k4 (j - ti.sz) u a ?_ ha
    rw [List.getElem?_drop] at hu ⊢
    rw [show o + ti.sz + (j - ti.sz) = o + j by omega]; exact hu
theorem trod_struct {fuel t : Nat} {F : Array Field} {cs : List Value} (hF : P.underlying t = some (.struct F)) : DataW.trod enc P w 0 spare true (fuel + 1) t cs =
  if cs.length = P.cellsOf t then (F.toList.mapM fun f => DataW.trod enc P w 0 spare true fuel f.type ((cs.drop f.offset).take (P.cellsOf f.type))).map fun xs => (.agg (xs.map (·.1)), xs.flatMap (·.2)) else none := by
 simp [DataW.trod, hF]
theorem ail (hT : ey P τ) (hD : a0r τ D) : ∀ (fuel t : Nat) (cs : List Value) (d : DataW H) (p : List MemPlace), D t → DataW.trod enc P w 0 spare true fuel t cs = some (d, p) → ∃ as_, ane τ w t cs as_
 | 0, _, _, _, _, _, h => by cases h
 | fuel + 1, t, cs, d, p, hDt, h => by
  obtain ⟨ti, hti, hk⟩ := hD t hDt
  have hkind := (hT t ti hti).kind
  obtain ⟨k, sz, bb, zz⟩ := ti
  cases k <;> simp only at hk hkind
  case bool =>
   unfold DataW.trod at h
   rw [hkind.1] at h
   split at h <;> rename_i hu <;> first | (cases hu; done) | (cases h; done) | skip
   rename_i b
   exact ⟨[.bool b], rfl, .bool hti b, fun j u a hu ha => by cases j <;> simp at hu ha; subst hu; subst ha; exact .bool b⟩
  case int k =>
   unfold DataW.trod at h
   rw [hkind.1] at h
   split at h <;> rename_i hu <;> first | (cases hu; done) | (cases h; done) | skip
   rename_i k' k2 n
   cases hu
   split at h
   ·rename_i hw
    obtain ⟨rfl, hw⟩ := hw
    exact ⟨[.int k2 n], rfl, .int hti n hw, fun j u a hu ha => by cases j <;> simp at hu ha; subst hu; subst ha; exact .int k2 n⟩
   ·cases h
  case str =>
   unfold DataW.trod at h
   rw [hkind.1] at h
   split at h <;> rename_i hu <;> first | (cases hu; done) | (cases h; done) | skip
   rename_i s
   split at h
   ·rename_i hw
    exact ⟨[.str s.data.toList], rfl, .str hti _ (by simpa using hw), fun j u a hu ha => by cases j <;> simp at hu ha; subst hu; subst ha; exact .str s⟩
   ·cases h
  case struct fs =>
   obtain ⟨F, hF, hfs, _⟩ := hkind
   rw [trod_struct hF] at h
   split at h
   ·rename_i hlen
    obtain ⟨xs, h1, _⟩ := Option.map_eq_some_iff.1 h
    obtain ⟨m1, m2⟩ := mapM_some h1
    have hcell := ag2 hT hti
    rw [hcell] at hlen
    obtain ⟨parts, k1, k2, k3, k4⟩ := aj5 hT (w := w) (g := fun f vs => D f ∧ ∃ x, DataW.trod enc P w 0 spare true fuel f vs = some x) (cs := cs) (fun f ti vs hf hg hle => by
     obtain ⟨q1, ⟨d', p'⟩, q2⟩ := hg
     exact ail hT hD fuel f vs d' p' q1 q2) fs 0 sz hk.1 hlen (fun o f hm => by
     rw [hfs] at hm
     obtain ⟨g, hg1, hg2⟩ := List.mem_map.1 hm
     cases hg2
     obtain ⟨i, hi, rfl⟩ := List.getElem_of_mem hg1
     obtain ⟨y, _, q2⟩ := m2 i _ (List.getElem?_eq_getElem hi)
     exact ⟨hk.2 _ _ (by rw [hfs]; exact hm), y, q2⟩)
    exact ⟨parts.flatten, by simpa using k3, .struct hti parts k1 k2, fun j u a hu ha => k4 j u a (by simpa using hu) ha⟩
   ·cases h
  case slice e =>
   unfold DataW.trod at h
   rw [hkind.1.1] at h
   obtain ⟨te, hte, _⟩ := hD e hk
   have hcell := ag2 hT hte
   have hpos := (hT e te hte).pos
   split at h <;> rename_i hu <;> first | (cases hu; done) | (cases h; done) | skip
   ·exact ⟨[.sl te.sz []], rfl, .slice hti hte [] (by simp) (fun cs h => by cases h), fun j u a hu ha => by cases j <;> simp at hu ha; subst hu; subst ha; exact .nil _⟩
   ·rename_i e' a len cap
    cases hu
    split at h
    ·rename_i hb
     obtain ⟨_, hlc, hcm⟩ := hb
     obtain ⟨elems, h1, _⟩ := Option.bind_eq_some_iff.1 h
     obtain ⟨m1, m2⟩ := mapM_some h1
     rw [List.length_range] at m1
     have each : ∀ i, i < len → ∃ (vs : List Value) (as_ : List AV), vs.length = te.sz ∧ (∀ j, j < te.sz → w.cell? ((a.add (i * te.sz)).add j) = vs[j]?) ∧ ane τ w e vs as_ := fun i hi => by
      obtain ⟨y, _, q2⟩ := m2 i i (by simp [hi])
      rw [hcell] at q2
      obtain ⟨vs, q3, q4⟩ := Option.bind_eq_some_iff.1 q2
      obtain ⟨_, q5, q6⟩ := World.cells?_some q3
      obtain ⟨as_, q7⟩ := ail hT hD fuel e vs y.1 y.2 hk q4
      exact ⟨vs, as_, q5, q6, q7⟩
     by_cases hl0 : len = 0
     ·subst hl0
      exact ⟨[.sl te.sz []], rfl, .slice hti hte [] (by simp) (fun cs h => by cases h), fun j u a' hu ha => by cases j <;> simp at hu ha; subst hu; subst ha; exact .emp _ _ _⟩
     ·have hspot : a.spot = none := by
       obtain ⟨vs, as_, q1, q2, _⟩ := each 0 (by omega)
       have := q2 0 hpos
       rw [Nat.zero_mul, show (a.add 0).add 0 = a by simp [Addr.add], List.getElem?_eq_getElem (by omega)] at this
       unfold World.cell? at this
       split at this
       ·cases hs : a.spot with
        | none => rfl
        | some x => rw [hs] at this; simp at this
       ·cases this
      obtain ⟨b, o, sp⟩ := a
      obtain rfl : sp = none := hspot
      let vsf : Nat → List Value := fun i => if hi : i < len then (each i hi).choose else []
      let asf : Nat → List AV := fun i => if hi : i < len then (each i hi).choose_spec.choose else []
      have hvs : ∀ i, i < len → (vsf i).length = te.sz ∧ (∀ j, j < te.sz → w.cell? (((⟨b, o, none⟩ : Addr).add (i * te.sz)).add j) = (vsf i)[j]?) ∧ ane τ w e (vsf i) (asf i) := fun i hi => by
       simp only [vsf, asf, hi, dif_pos]
       exact (each i hi).choose_spec.choose_spec
      have hlen : ((List.range len).map asf).length = len := by simp
      have hget : ∀ (i : Nat) (cs : List AV), ((List.range len).map asf)[i]? = some cs → i < len ∧ cs = asf i := fun i cs hi => by
       have hi' : i < len := by simpa using (List.getElem?_eq_some_iff.1 hi).1
       rw [List.getElem?_map, List.getElem?_range hi'] at hi
       exact ⟨hi', by simpa using hi.symm⟩
      refine ⟨[.sl te.sz ((List.range len).map asf)], rfl, .slice hti hte _ (by rw [hlen]; omega) (fun cs hcs => ?_), fun j u a' hu ha => ?_⟩
      ·obtain ⟨i, hi⟩ := List.getElem?_of_mem hcs
       obtain ⟨hi', rfl⟩ := hget i cs hi
       exact (hvs i hi').2.2.2.1
      ·cases j <;> simp at hu ha
       subst hu; subst ha
       have := Rep.sl (w := w) (c := vy) b o cap te.sz ((List.range len).map asf) (fun i j => (vsf i).getD j undef) (by rw [hlen]; exact hlc) (fun i cs hi => by
         obtain ⟨hi', rfl⟩ := hget i cs hi
         have h3 := hvs i hi'
         rw [h3.2.2.1, h3.1])
        (fun i j hi hj => by
         rw [hlen] at hi
         have h3 := hvs i hi
         have := h3.2.1 j hj
         rw [pn, pn] at this
         rw [← Nat.add_assoc, this]
         simp [h3.1, hj]) (fun i j hi hj => trivial)
        (fun i j cs x hi hx => by
         obtain ⟨hi', rfl⟩ := hget i cs hi
         have h3 := hvs i hi'
         have hj : j < (vsf i).length := by rw [← h3.2.2.1]; exact (List.getElem?_eq_some_iff.1 hx).1
         exact h3.2.2.2.2 j _ x (by simp [hj]) hx)
       rw [hlen] at this
       exact this
    ·cases h
  all_goals exact hk.elim
end
end Go.Proofs.YtmdimhcjogjcgaaGreatDoor.Abs
namespace Go.Proofs.YtmdimhcjogjcgaaGreatDoor.Abs
open Go.RowKit
section
variable {P : Program} {S : Sys} {w : World} {H : Type} {enc : TypeId × Value → H} {spare : Nat → Bool} {D : Nat → Prop}
theorem Ext.below {c c' : Cls} {w' : World} (h : Ext w.heap.size w c w' c') : Below w.heap.size w w' := ⟨h.os, h.tape, h.output, h.size, fun k hk => (h.old k hk hk).1⟩
theorem a5p (hS : agu P S) {f : Nat} {l : List AV} {t : Bool} (h : ah S f l = some (.bool t)) {vs : Array Value} {fn : Func} {cd : Code} (hf : P.funcs[f]? = some fn) (hb : fn.body = some cd) (hnm : ¬ fn.name = "runtime.NumGoroutine") (hG : GOK S.τ w vy)
  (hsz : vs.size = l.length) (hargs : ∀ (i : Nat) (v : Value) (a : AV), vs[i]? = some v → l[i]? = some a → acs w vy v a) : Calls P f vs w fun e w' => e = .returned (.bool t) ∧ Below w.heap.size w w' := by
 have hent : (callFunc f vs).run P w = .ok (.enter f vs) w := by simp [callFunc, hf, hnm, hb]
 rcases ava hS h w vy vs hG hsz hargs with ⟨_, hc⟩ | ⟨v, w', hc, _⟩
 ·refine hc.mono fun e w' hv => ?_
  obtain ⟨v, rfl, c', hx, hr⟩ := hv
  obtain rfl : v = .bool t := j8 hr
  exact ⟨rfl, hx.below⟩
 ·rw [hent] at hc; cases hc
theorem a9q (hT : ey P S.τ) (hD : a0r S.τ D) {t : Nat} {v : Value} {d : DataW H} {p : List MemPlace} (hDt : D t) (hv : ∀ cs, v ≠ .agg cs) (h : DataW.Trod enc P w 0 spare true t v d p) : ∃ a, zi S.τ t [a] ∧ Rep w vy v a := by
 obtain ⟨fuel, h⟩ := h
 obtain ⟨as_, h1, h2, h3⟩ := ail hT hD fuel t _ d p hDt h
 have hc : v.cells = #[v] := by cases v <;> first | rfl | exact absurd rfl (hv _)
 rw [hc] at h1 h3
 obtain ⟨a, rfl⟩ : ∃ a, as_ = [a] := List.length_eq_one_iff.1 (by simpa using h1)
 exact ⟨a, h2, h3 0 v a rfl rfl⟩
end
end Go.Proofs.YtmdimhcjogjcgaaGreatDoor.Abs
namespace Go.Proofs.YtmdimhcjogjcgaaGreatDoor.Xp
open Go.ChangeShapes Go.WideShapes Go.ChangeAt Go.RowKit Go.Proofs.YtmdimhcjogjcgaaGreatDoor.Abs Go.Proofs.YtmdimhcjogjcgaaGreatDoor.Lat
def a0s (a : AV) : DataW Unit := match a with
 | .str s => .lit (.string s)
 | .int k n => .lit (.int k n)
 | _ => .lit (.bool false)
def valOf (a : AV) : Value := match a with
 | .str s => .string ⟨s.toArray⟩
 | .int k n => .int k n
 | _ => undef
theorem ajk {P : Program} {w : World} {n : String} {g : Nat} {t e : TypeId} {N : Nat} {l : List AV}
  (h : Lib.VarReads P w n (.agg (l.map a0s))) (hg : P.globalNamed n = some g) (hy : (P.globals[g]?).map (·.type) = some t) (ht : P.underlying t = some (.array N e)) (hc : P.cellsOf e = 1) (hct : P.cellsOf t = N)
  (hk : (P.underlying e = some .string ∧ l.all (fun a => match a with | .str _ => true | _ => false) = true) ∨ (P.underlying e = some (.int .i64) ∧ l.all (fun a => match a with | .int .i64 _ => true | _ => false) = true)) :
  Rep w vy (.pointer (some ⟨g, 0, none⟩)) (.eptr l.length l 0) := by
 obtain ⟨g', t', cs, fuel, p, h1, h2, h3, h4⟩ := h
 obtain rfl := Option.some.inj (hg.symm.trans h1)
 obtain rfl := Option.some.inj (hy.symm.trans h2)
 obtain ⟨xs, m, rfl, hx, hl, hxl, hel⟩ := DataW.trod_array ht h4
 have hxs : xs.map (·.1) = l.map a0s := (DataW.agg.inj (Prod.mk.inj hx).1).symm
 have hll : l.length = N := by
  have := congrArg List.length hxs
  simp at this
  omega
 rw [hct] at hl
 have hcs : cs.toList = l.map valOf := by
  apply List.ext_getElem?
  intro i
  by_cases hi : i < N
  ·have hE := hel i hi
   rw [hc, Nat.mul_one, List.getElem?_eq_getElem (by omega)] at hE
   have e0 : l[i]? = some l[i] := List.getElem?_eq_getElem (by omega)
   have hm : l[i] ∈ l := List.getElem_mem (by omega)
   have e4 : (xs.map (·.1))[i]? = (l.map a0s)[i]? := by rw [hxs]
   rw [List.getElem?_map, List.getElem?_map, List.getElem?_eq_getElem (by omega : i < xs.length), e0] at e4
   simp only [Option.map_some, Option.some.injEq] at e4
   rw [List.getElem?_map, e0, Option.map_some]
   rcases hk with ⟨he, hk⟩ | ⟨he, hk⟩
   ·have hki := List.all_eq_true.1 hk _ hm
    obtain ⟨s, e1, e2, _⟩ := DataW.trod_string he hE
    rw [e2] at e4
    generalize l[i] = a at hki e4
    cases a <;> first
     | (cases hki; done)
     | skip
    rename_i s'
    have e5 : s.data.toList = s' := by
     have : (DataW.lit (.string s.data.toList) : DataW Unit) = .lit (.string s') := e4
     simp only [DataW.lit.injEq, Lit.string.injEq] at this
     exact this
    have e6 : cs.toList[i]? = some (.string s) := by
     have h0 : ((cs.toList.drop i).take 1)[0]? = some (.string s) := by rw [e1]; rfl
     simpa using h0
    rw [e6, ← e5]
    simp [valOf]
   ·have hki := List.all_eq_true.1 hk _ hm
    obtain ⟨s, e1, e2, _⟩ := DataW.trod_int he hE
    rw [e2] at e4
    generalize l[i] = a at hki e4
    cases a <;> first
     | (cases hki; done)
     | skip
    rename_i k' s'
    have e5 : (DataW.lit (.int .i64 s) : DataW Unit) = .lit (.int k' s') := e4
    simp only [DataW.lit.injEq, Lit.int.injEq] at e5
    obtain ⟨rfl, rfl⟩ := e5
    have e6 : cs.toList[i]? = some (.int .i64 s) := by
     have h0 : ((cs.toList.drop i).take 1)[0]? = some (.int .i64 s) := by rw [e1]; rfl
     simpa using h0
    rw [e6]; rfl
  ·rw [List.getElem?_eq_none (by omega), List.getElem?_eq_none (by simp; omega)]
 unfold World.var? at h3
 rw [hg] at h3
 simp only [Option.bind_some] at h3
 split at h3
 ·rename_i c ty fr hh
  obtain rfl := Option.some.inj h3
  have hcell : ∀ (j : Nat) (a : AV), l[j]? = some a → w.cell? ⟨g, j, none⟩ = some (valOf a) := fun j a ha => by
   rw [cell_of hh, ← Array.getElem?_toList, hcs, List.getElem?_map, ha]; rfl
  refine Rep.eptr g 0 l.length l 0 (fun j => (w.cell? ⟨g, j, none⟩).getD undef) rfl (fun j hj => ?_) (fun j hj => trivial) (fun j a ha => ?_)
  ·rw [Nat.zero_add, hcell j _ (List.getElem?_eq_getElem hj)]; rfl
  ·simp only [hcell j a ha, Option.getD_some]
   have hm : a ∈ l := List.mem_of_getElem? ha
   rcases hk with ⟨_, hk⟩ | ⟨_, hk⟩
   ·have hki := List.all_eq_true.1 hk _ hm
    cases a <;> first
     | (cases hki; done)
     | skip
    rename_i s'
    have := Rep.str (w := w) (c := vy) ⟨s'.toArray⟩
    simpa [valOf] using this
   ·have hki := List.all_eq_true.1 hk _ hm
    cases a <;> first
     | (cases hki; done)
     | exact Rep.int _ _
 ·cases h3
theorem gok {w : World} {r : OpenClaim} (hr : r.laid = Rows.queryFindsRow.laid) (h : laidMetH Tryz.prog r.laid w) : GOK Q.τ w vy := by
 rw [hr, MakeChecks.laidMetH_plain _ _ _ (by kernel_rfl)] at h
 have r0 := ajk (t := 231) (e := 9) (N := 9) (l := acz) (Lib.laidMet.reads h (.tail _ (.head _))) (show _ = some 0 by kernel_rfl) (by kernel_rfl) Tryz.underlying231 (by kernel_rfl) (by kernel_rfl) (.inl ⟨Tryz.underlying9, rfl⟩)
 have r4 := ajk (t := 283) (e := 3) (N := 16) (l := ahn) (Lib.laidMet.reads h (.tail _ (.tail _ (.head _)))) (show _ = some 4 by kernel_rfl) (by kernel_rfl) Tryz.underlying283 (by kernel_rfl) (by kernel_rfl) (.inr ⟨Tryz.underlying3, rfl⟩)
 have r2 := ajk (t := 264) (e := 9) (N := 16) (l := afd) (Lib.laidMet.reads h (.tail _ (.tail _ (.tail _ (.head _))))) (show _ = some 2 by kernel_rfl) (by kernel_rfl) Tryz.underlying264 (by kernel_rfl) (by kernel_rfl) (.inl ⟨Tryz.underlying9, rfl⟩)
 have r1 := ajk (t := 235) (e := 9) (N := 6) (l := al0) (Lib.laidMet.reads h (.tail _ (.tail _ (.tail _ (.tail _ (.head _)))))) (show _ = some 1 by kernel_rfl) (by kernel_rfl) Tryz.underlying235 (by kernel_rfl) (by kernel_rfl) (.inl ⟨Tryz.underlying9, rfl⟩)
 intro g cs hg
 have hg : ag (Nat.beq g 0) (some acz) (ag (Nat.beq g 1) (some al0) (ag (Nat.beq g 2) (some afd) (ag (Nat.beq g 4) (some ahn) none))) = some cs := hg
 cases b0 : Nat.beq g 0 with
 | true =>
  rw [b0] at hg
  obtain rfl := Nat.eq_of_beq_eq_true b0
  cases hg; exact r0
 | false =>
  rw [b0] at hg
  cases b1 : Nat.beq g 1 with
  | true =>
   rw [b1] at hg
   obtain rfl := Nat.eq_of_beq_eq_true b1
   cases hg; exact r1
  | false =>
   rw [b1] at hg
   cases b2 : Nat.beq g 2 with
   | true =>
    rw [b2] at hg
    obtain rfl := Nat.eq_of_beq_eq_true b2
    cases hg; exact r2
   | false =>
    rw [b2] at hg
    cases b4 : Nat.beq g 4 with
    | true =>
     rw [b4] at hg
     obtain rfl := Nat.eq_of_beq_eq_true b4
     cases hg; exact r4
    | false => rw [b4] at hg; cases hg
theorem T3 : τ.T 3 = some ⟨.int .i64, 1, 8, [AV.int .i64 0]⟩ := rfl
theorem T4 : τ.T 4 = some ⟨.bool, 1, 1, [AV.bool false]⟩ := rfl
theorem T9 : τ.T 9 = some ⟨.str, 1, 16, [AV.str []]⟩ := rfl
theorem T23 : τ.T 23 = some ⟨.slice 70, 1, 24, [AV.own 3 []]⟩ := rfl
theorem T43 : τ.T 43 = some ⟨.slice 68, 1, 24, [AV.own 8 []]⟩ := rfl
theorem T45 : τ.T 45 = some ⟨.struct [(0, 43)], 1, 24, [AV.own 8 []]⟩ := rfl
theorem T37 : τ.T 37 = some ⟨.slice 9, 1, 24, [AV.own 1 []]⟩ := rfl
theorem T70 : τ.T 70 = some ⟨.struct [(0, 9), (1, 45), (2, 37)], 3, 64, [AV.str [], AV.own 8 [], AV.own 1 []]⟩ := rfl
theorem T66 : τ.T 66 = some ⟨.slice 110, 1, 24, [AV.own 2 []]⟩ := rfl
theorem T68 : τ.T 68 = some ⟨.struct [(0, 3), (1, 3), (2, 3), (3, 9), (4, 4), (5, 4), (6, 4), (7, 66)], 8, 72, [AV.int .i64 0, AV.int .i64 0, AV.int .i64 0, AV.str [], AV.bool false, AV.bool false, AV.bool false, AV.own 2 []]⟩ := rfl
theorem alb : τ.T 110 = some ⟨.struct [(0, 9), (1, 45)], 2, 40, [AV.str [], AV.own 8 []]⟩ := rfl
def Dt (t : Nat) : Prop := t = 3 ∨ t = 4 ∨ t = 9 ∨ t = 23 ∨ t = 43 ∨ t = 45 ∨ t = 37 ∨ t = 70 ∨ t = 66 ∨ t = 68 ∨ t = 110
theorem bja : a0r τ Dt := fun t ht => by
 rcases ht with rfl | rfl | rfl | rfl | rfl | rfl | rfl | rfl | rfl | rfl | rfl
 ·exact ⟨_, T3, trivial⟩
 ·exact ⟨_, T4, trivial⟩
 ·exact ⟨_, T9, trivial⟩
 ·exact ⟨_, T23, (by unfold Dt; omega : Dt 70)⟩
 ·exact ⟨_, T43, (by unfold Dt; omega : Dt 68)⟩
 ·refine ⟨_, T45, ⟨rfl, _, T43, rfl⟩, fun o f hm => ?_⟩
  simp at hm
  unfold Dt; omega
 ·exact ⟨_, T37, (by unfold Dt; omega : Dt 9)⟩
 ·refine ⟨_, T70, ⟨rfl, _, T9, rfl, _, T45, rfl, _, T37, rfl⟩, fun o f hm => ?_⟩
  simp at hm
  unfold Dt; omega
 ·exact ⟨_, T66, (by unfold Dt; omega : Dt 110)⟩
 ·refine ⟨_, T68, ⟨rfl, _, T3, rfl, _, T3, rfl, _, T3, rfl, _, T9, rfl, _, T4, rfl, _, T4, rfl, _, T4, rfl, _, T66, rfl⟩, fun o f hm => ?_⟩
  simp at hm
  unfold Dt; omega
 ·refine ⟨_, alb, ⟨rfl, _, T9, rfl, _, T45, rfl⟩, fun o f hm => ?_⟩
  simp at hm
  unfold Dt; omega
theorem tms : ∀ l : List (List AV), (∀ cs ∈ l, ∃ t, cs = ao t) → ∃ v, l = al v
 | [], _ => ⟨[], rfl⟩
 | x :: r, h => by
  obtain ⟨t, rfl⟩ := h x (List.mem_cons_self ..)
  obtain ⟨v, rfl⟩ := tms r fun cs hc => h cs (List.mem_cons_of_mem _ hc)
  exact ⟨t :: v, rfl⟩
theorem fds : ∀ l : List (List AV), (∀ cs ∈ l, ∃ f, cs = kg f) → ∃ v, l = cq v
 | [], _ => ⟨[], rfl⟩
 | x :: r, h => by
  obtain ⟨f, rfl⟩ := h x (List.mem_cons_self ..)
  obtain ⟨v, rfl⟩ := fds r fun cs hc => h cs (List.mem_cons_of_mem _ hc)
  exact ⟨f :: v, by rw [nx, nx]; rfl⟩
theorem txs : ∀ l : List (List AV), (∀ cs ∈ l, ∃ s, cs = [AV.str s]) → ∃ v, l = ar v
 | [], _ => ⟨[], rfl⟩
 | x :: r, h => by
  obtain ⟨t, rfl⟩ := h x (List.mem_cons_self ..)
  obtain ⟨v, rfl⟩ := txs r fun cs hc => h cs (List.mem_cons_of_mem _ hc)
  exact ⟨t :: v, rfl⟩
theorem a5q : ∀ l : List (List AV), (∀ cs ∈ l, ∃ t, cs = aam t) → ∃ v, l = cy v
 | [], _ => ⟨[], rfl⟩
 | x :: r, h => by
  obtain ⟨t, rfl⟩ := h x (List.mem_cons_self ..)
  obtain ⟨v, rfl⟩ := a5q r fun cs hc => h cs (List.mem_cons_of_mem _ hc)
  exact ⟨t :: v, rfl⟩
structure Sh (ty : Nat) (as_ : List AV) : Prop where
 i : ty = 3 → ∃ n, as_ = [.int .i64 n]
 b : ty = 4 → ∃ b, as_ = [.bool b]
 s : ty = 9 → ∃ s, as_ = [.str s]
 ths : ty = 23 → ∃ ts, as_ = [.sl 3 (cy ts)]
 v : ty = 43 → ∃ v, as_ = [.sl 8 (al v)]
 w : ty = 45 → ∃ v, as_ = [.sl 8 (al v)]
 ds : ty = 37 → ∃ d, as_ = [.sl 1 (ar d)]
 th : ty = 70 → ∃ t, as_ = aam t
 f : ty = 66 → ∃ fs, as_ = [.sl 2 (cq fs)]
 t : ty = 68 → ∃ t, as_ = ao t
 d : ty = 110 → ∃ f, as_ = kg f
theorem ch {t : Nat} {a b : TI} (h : τ.T t = some a) (h' : τ.T t = some b) : a = b := Option.some.inj (h.symm.trans h')
theorem sh {t : Nat} {as_ : List AV} (h : zi τ t as_) : Sh t as_ := by
 induction h with
 | bool h x =>
  constructor <;> intro e <;> subst e
  ·cases ch h T3
  ·cases ch h T4
   exact ⟨x, rfl⟩
  ·cases ch h T9
  ·cases ch h T23
  ·cases ch h T43
  ·cases ch h T45
  ·cases ch h T37
  ·cases ch h T70
  ·cases ch h T66
  ·cases ch h T68
  ·cases ch h alb
 | int h n wf =>
  constructor <;> intro e <;> subst e
  ·cases ch h T3
   exact ⟨n, rfl⟩
  ·cases ch h T4
  ·cases ch h T9
  ·cases ch h T23
  ·cases ch h T43
  ·cases ch h T45
  ·cases ch h T37
  ·cases ch h T70
  ·cases ch h T66
  ·cases ch h T68
  ·cases ch h alb
 | str h l hl =>
  constructor <;> intro e <;> subst e
  ·cases ch h T3
  ·cases ch h T4
  ·cases ch h T9
   exact ⟨l, rfl⟩
  ·cases ch h T23
  ·cases ch h T43
  ·cases ch h T45
  ·cases ch h T37
  ·cases ch h T70
  ·cases ch h T66
  ·cases ch h T68
  ·cases ch h alb
 | slice h he l hlen hl ih =>
  constructor <;> intro e <;> subst e
  ·cases ch h T3
  ·cases ch h T4
  ·cases ch h T9
  ·cases ch h T23
   cases ch he T70
   obtain ⟨v, rfl⟩ := a5q l fun cs hc => (ih cs hc).th rfl
   exact ⟨v, rfl⟩
  ·cases ch h T43
   cases ch he T68
   obtain ⟨v, rfl⟩ := tms l fun cs hc => (ih cs hc).t rfl
   exact ⟨v, rfl⟩
  ·cases ch h T45
  ·cases ch h T37
   cases ch he T9
   obtain ⟨v, rfl⟩ := txs l fun cs hc => (ih cs hc).s rfl
   exact ⟨v, rfl⟩
  ·cases ch h T70
  ·cases ch h T66
   cases ch he alb
   obtain ⟨v, rfl⟩ := fds l fun cs hc => (ih cs hc).d rfl
   exact ⟨v, rfl⟩
  ·cases ch h T68
  ·cases ch h alb
 | struct h parts hlen hp ih =>
  constructor <;> intro e <;> subst e
  ·cases ch h T3
  ·cases ch h T4
  ·cases ch h T9
  ·cases ch h T23
  ·cases ch h T43
  ·cases ch h T45
   match parts, hlen with
   | [p0], _ =>
    obtain ⟨v, rfl⟩ := (ih 0 0 43 p0 rfl rfl).v rfl
    exact ⟨v, rfl⟩
  ·cases ch h T37
  ·cases ch h T70
   match parts, hlen with
   | [p0, p1, p2], _ =>
    obtain ⟨n, rfl⟩ := (ih 0 0 9 p0 rfl rfl).s rfl
    obtain ⟨v, rfl⟩ := (ih 1 1 45 p1 rfl rfl).w rfl
    obtain ⟨d, rfl⟩ := (ih 2 2 37 p2 rfl rfl).ds rfl
    exact ⟨⟨n, v, d⟩, rfl⟩
  ·cases ch h T66
  ·cases ch h T68
   match parts, hlen with
   | [p0, p1, p2, p3, p4, p5, p6, p7], _ =>
    obtain ⟨k, rfl⟩ := (ih 0 0 3 p0 rfl rfl).i rfl
    obtain ⟨lo, rfl⟩ := (ih 1 1 3 p1 rfl rfl).i rfl
    obtain ⟨hi, rfl⟩ := (ih 2 2 3 p2 rfl rfl).i rfl
    obtain ⟨s, rfl⟩ := (ih 3 3 9 p3 rfl rfl).s rfl
    obtain ⟨a, rfl⟩ := (ih 4 4 4 p4 rfl rfl).b rfl
    obtain ⟨m, rfl⟩ := (ih 5 5 4 p5 rfl rfl).b rfl
    obtain ⟨o, rfl⟩ := (ih 6 6 4 p6 rfl rfl).b rfl
    obtain ⟨fs, rfl⟩ := (ih 7 7 66 p7 rfl rfl).f rfl
    exact ⟨.mk k lo hi s a m o fs, rfl⟩
  ·cases ch h alb
   match parts, hlen with
   | [p0, p1], _ =>
    obtain ⟨n, rfl⟩ := (ih 0 0 9 p0 rfl rfl).s rfl
    obtain ⟨v, rfl⟩ := (ih 1 1 45 p1 rfl rfl).w rfl
    exact ⟨.mk n v, rfl⟩
theorem walk {H : Type} {enc : TypeId × Value → H} (v0 : Value) (s : ByteArray) (W : World) (hG : GOK Q.τ W vy) (n0 : ∀ cs, v0 ≠ .agg cs) (hs : s.size ≤ 140737488351232) {d0 : DataW H} {p0 : List MemPlace}
  (h0 : DataW.Trod enc Tryz.prog W 0 (fun _ => true) true 23 v0 d0 p0) : Calls Tryz.prog 7 #[v0, .string s] W fun e w' => e = .returned (.bool true) ∧ Below W.heap.size W w' := by
 obtain ⟨x, t0, a0⟩ := a9q (S := Q) a5c.tab bja (by unfold Dt; omega) n0 h0
 obtain ⟨a, hp⟩ := (sh t0).ths rfl
 cases hp
 refine a5p a5c (a5o a s.data.toList) Tryz.func7 rfl (by decide +kernel) hG rfl fun i x y hx hy => ?_
 rcases i with _ | _ | i
 ·simp at hx hy; subst hx; subst hy; exact .inr a0
 ·simp at hx hy; subst hx; subst hy; exact .inr (Rep.str s)
 ·simp at hx
end Go.Proofs.YtmdimhcjogjcgaaGreatDoor.Xp
