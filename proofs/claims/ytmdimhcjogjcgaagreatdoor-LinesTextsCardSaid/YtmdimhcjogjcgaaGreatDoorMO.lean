/- A row's arguments: what is read of them stands in memory. -/
import Derived.Test.YtmdimhcjogjcgaaGreatDoorMF
import Derived.DataReads
import GoSem.ClaimChange
set_option linter.unusedVariables false
set_option linter.unusedSimpArgs false
set_option linter.unusedSectionVars false
set_option linter.deprecated false
set_option linter.unnecessarySimpa false
namespace Go.Proofs.YtmdimhcjogjcgaaGreatDoor.Abs
open Go.RowKit
/-- Plain cells of a value of type t. -/
inductive HasTy (τ : Tab) : Nat → List AV → Prop
  | bool {t s b : Nat} {z : List AV} (h : τ.T t = some ⟨.bool, s, b, z⟩) (x : Bool) : HasTy τ t [.bool x]
  | int {t s b : Nat} {z : List AV} {k : IntKind} (h : τ.T t = some ⟨.int k, s, b, z⟩) (n : Int) (wf : (Lit.int k n).wf = true) : HasTy τ t [.int k n]
  | str {t s b : Nat} {z : List AV} (h : τ.T t = some ⟨.str, s, b, z⟩) (l : List UInt8) (hl : l.length ≤ maxLen) : HasTy τ t [.str l]
  | slice {t s b e : Nat} {z : List AV} {ti : TI} (h : τ.T t = some ⟨.slice e, s, b, z⟩) (he : τ.T e = some ti) (l : List (List AV)) (hlen : l.length ≤ maxLen) (hl : ∀ cs ∈ l, HasTy τ e cs) : HasTy τ t [.sl ti.sz l]
  | struct {t s b : Nat} {z : List AV} {fs : List (Nat × Nat)} (h : τ.T t = some ⟨.struct fs, s, b, z⟩) (parts : List (List AV)) (hlen : parts.length = fs.length) (hp : ∀ (i o f : Nat) (p : List AV), fs[i]? = some (o, f) → parts[i]? = some p → HasTy τ f p) : HasTy τ t parts.flatten
/-- The fields lie one behind the other. -/
def conseq (τ : Tab) : Nat → List (Nat × Nat) → Nat → Prop
  | n, [], S => n = S
  | n, (off, ft) :: r, S => off = n ∧ ∃ ti, τ.T ft = some ti ∧ conseq τ (n + ti.sz) r S
/-- Types that are data. -/
def DataT (τ : Tab) (D : Nat → Prop) : Prop := ∀ t, D t → ∃ ti, τ.T t = some ti ∧ (match ti.k with
  | .bool => True | .int _ => True | .str => True
  | .slice e => D e
  | .struct fs => conseq τ 0 fs ti.sz ∧ ∀ o f, (o, f) ∈ fs → D f
  | _ => False)
abbrev allFrz : Cls := fun _ => .frz
theorem mapM_some {α β : Type} {f : α → Option β} : ∀ {l : List α} {r : List β}, l.mapM f = some r → r.length = l.length ∧ ∀ (i : Nat) (x : α), l[i]? = some x → ∃ y, r[i]? = some y ∧ f x = some y
  | [], r, h => by simp at h; subst h; exact ⟨rfl, fun i x hx => by simp at hx⟩
  | x :: l, r, h => by
    simp only [List.mapM_cons] at h
    obtain ⟨y, h1, h2⟩ := Option.bind_eq_some_iff.1 h
    obtain ⟨ys, h3, h4⟩ := Option.bind_eq_some_iff.1 h2
    cases h4
    obtain ⟨k1, k2⟩ := mapM_some h3
    refine ⟨by simp [k1], fun i x' hx => ?_⟩
    cases i with
    | zero => simp at hx; subst hx; exact ⟨y, rfl, h1⟩
    | succ i => obtain ⟨y', q1, q2⟩ := k2 i x' (by simpa using hx); exact ⟨y', by simpa using q1, q2⟩
section
variable {P : Program} {τ : Tab} {w : World} {H : Type} {enc : TypeId × Value → H} {spare : Nat → Bool} {D : Nat → Prop}
theorem cellsOf_eq (hT : TabOK P τ) {t : Nat} {ti : TI} (h : τ.T t = some ti) : P.cellsOf t = ti.sz := by
  obtain ⟨i, h1, h2⟩ := info_of hT h
  simp [Program.cellsOf, h1, h2]
/-- The cells of a value, one by one. -/
def Opened (τ : Tab) (w : World) (t : Nat) (cs : List Value) (as_ : List AV) : Prop := as_.length = cs.length ∧ HasTy τ t as_ ∧ ∀ (j : Nat) (u : Value) (a : AV), cs[j]? = some u → as_[j]? = some a → Rep w allFrz u a
theorem open_fields (hT : TabOK P τ) {w : World} {g : Nat → List Value → Prop} {cs : List Value} (hg : ∀ f ti vs, τ.T f = some ti → g f vs → vs.length ≤ ti.sz → ∃ as_, Opened τ w f vs as_) :
    ∀ (fs : List (Nat × Nat)) (n S : Nat), conseq τ n fs S → cs.length = S → (∀ o f, (o, f) ∈ fs → g f ((cs.drop o).take (P.cellsOf f))) →
      ∃ parts : List (List AV), parts.length = fs.length ∧ (∀ (i o f : Nat) (p : List AV), fs[i]? = some (o, f) → parts[i]? = some p → HasTy τ f p) ∧ parts.flatten.length = (cs.drop n).length ∧
        ∀ (j : Nat) (u : Value) (a : AV), (cs.drop n)[j]? = some u → parts.flatten[j]? = some a → Rep w allFrz u a
  | [], n, S, hc, hl, _ => ⟨[], rfl, fun i o f p h => by simp at h, by have : n = S := hc; subst this; simp [hl], fun j u a _ h => by simp at h⟩
  | (o, f) :: fs, n, S, hc, hl, hf => by
    obtain ⟨rfl, ti, hti, hc⟩ := hc
    have hle : ∀ (fs : List (Nat × Nat)) (n S : Nat), conseq τ n fs S → n ≤ S := by
      intro fs
      induction fs with
      | nil => intro n S h; exact Nat.le_of_eq h
      | cons x fs ih => intro n S h; obtain ⟨_, _, _, h⟩ := h; have := ih _ _ h; omega
    have hcell := cellsOf_eq hT hti
    have hlen : ((cs.drop o).take ti.sz).length = ti.sz := by have := hle _ _ _ hc; simp; omega
    obtain ⟨as_, h1, h2, h3⟩ := hg f ti _ hti (hf o f (by simp)) (by rw [hcell, hlen]; exact Nat.le_refl _)
    rw [hcell] at h1 h3
    rw [hlen] at h1
    obtain ⟨parts, k1, k2, k3, k4⟩ := open_fields hT hg fs (o + ti.sz) S hc hl fun o' f' hm => hf o' f' (by simp [hm])
    refine ⟨as_ :: parts, by simp [k1], fun i o' f' p hi hp => ?_, ?_, fun j u a hu ha => ?_⟩
    · cases i with
      | zero => simp at hi hp; obtain ⟨rfl, rfl⟩ := hi; subst hp; exact h2
      | succ i => exact k2 i o' f' p (by simpa using hi) (by simpa using hp)
    · rw [List.flatten_cons, List.length_append, k3, h1]
      have := hle _ _ _ hc
      simp; omega
    · rw [List.flatten_cons] at ha
      by_cases hj : j < ti.sz
      · rw [List.getElem?_append_left (by omega)] at ha
        exact h3 j u a (by rw [List.getElem?_take, if_pos hj]; exact hu) ha
      · rw [List.getElem?_append_right (by omega), h1] at ha
        refine k4 (j - ti.sz) u a ?_ ha
        rw [List.getElem?_drop] at hu ⊢
        rw [show o + ti.sz + (j - ti.sz) = o + j by omega]; exact hu
theorem trod_struct {fuel t : Nat} {F : Array Field} {cs : List Value} (hF : P.underlying t = some (.struct F)) : DataW.trod enc P w 0 spare true (fuel + 1) t cs =
    if cs.length = P.cellsOf t then (F.toList.mapM fun f => DataW.trod enc P w 0 spare true fuel f.type ((cs.drop f.offset).take (P.cellsOf f.type))).map fun xs => (.agg (xs.map (·.1)), xs.flatMap (·.2)) else none := by
  simp [DataW.trod, hF]
/-- THE OPENING. -/
theorem trod_open (hT : TabOK P τ) (hD : DataT τ D) : ∀ (fuel t : Nat) (cs : List Value) (d : DataW H) (p : List MemPlace), D t → DataW.trod enc P w 0 spare true fuel t cs = some (d, p) → ∃ as_, Opened τ w t cs as_
  | 0, _, _, _, _, _, h => by cases h
  | fuel + 1, t, cs, d, p, hDt, h => by
    obtain ⟨ti, hti, hk⟩ := hD t hDt
    have hkind := (hT t ti hti).kind
    obtain ⟨k, sz, bb, zz⟩ := ti
    cases k <;> simp only at hk hkind
    case bool =>
      unfold DataW.trod at h
      rw [hkind.1] at h
      split at h <;> rename_i hu <;> first | (cases hu; done) | (cases h; done) | skip
      rename_i b
      exact ⟨[.bool b], rfl, .bool hti b, fun j u a hu ha => by cases j <;> simp at hu ha; subst hu; subst ha; exact .bool b⟩
    case int k =>
      unfold DataW.trod at h
      rw [hkind.1] at h
      split at h <;> rename_i hu <;> first | (cases hu; done) | (cases h; done) | skip
      rename_i k' k2 n
      cases hu
      split at h
      · rename_i hw
        obtain ⟨rfl, hw⟩ := hw
        exact ⟨[.int k2 n], rfl, .int hti n hw, fun j u a hu ha => by cases j <;> simp at hu ha; subst hu; subst ha; exact .int k2 n⟩
      · cases h
    case str =>
      unfold DataW.trod at h
      rw [hkind.1] at h
      split at h <;> rename_i hu <;> first | (cases hu; done) | (cases h; done) | skip
      rename_i s
      split at h
      · rename_i hw
        exact ⟨[.str s.data.toList], rfl, .str hti _ (by simpa using hw), fun j u a hu ha => by cases j <;> simp at hu ha; subst hu; subst ha; exact .str s⟩
      · cases h
    case struct fs =>
      obtain ⟨F, hF, hfs, _⟩ := hkind
      rw [trod_struct hF] at h
      split at h
      · rename_i hlen
        obtain ⟨xs, h1, _⟩ := Option.map_eq_some_iff.1 h
        obtain ⟨m1, m2⟩ := mapM_some h1
        have hcell := cellsOf_eq hT hti
        rw [hcell] at hlen
        obtain ⟨parts, k1, k2, k3, k4⟩ := open_fields hT (w := w) (g := fun f vs => D f ∧ ∃ x, DataW.trod enc P w 0 spare true fuel f vs = some x) (cs := cs) (fun f ti vs hf hg hle => by
          obtain ⟨q1, ⟨d', p'⟩, q2⟩ := hg
          exact trod_open hT hD fuel f vs d' p' q1 q2) fs 0 sz hk.1 hlen (fun o f hm => by
          rw [hfs] at hm
          obtain ⟨g, hg1, hg2⟩ := List.mem_map.1 hm
          cases hg2
          obtain ⟨i, hi, rfl⟩ := List.getElem_of_mem hg1
          obtain ⟨y, _, q2⟩ := m2 i _ (List.getElem?_eq_getElem hi)
          exact ⟨hk.2 _ _ (by rw [hfs]; exact hm), y, q2⟩)
        exact ⟨parts.flatten, by simpa using k3, .struct hti parts k1 k2, fun j u a hu ha => k4 j u a (by simpa using hu) ha⟩
      · cases h
    case slice e =>
      unfold DataW.trod at h
      rw [hkind.1.1] at h
      obtain ⟨te, hte, _⟩ := hD e hk
      have hcell := cellsOf_eq hT hte
      have hpos := (hT e te hte).pos
      split at h <;> rename_i hu <;> first | (cases hu; done) | (cases h; done) | skip
      · exact ⟨[.sl te.sz []], rfl, .slice hti hte [] (by simp) (fun cs h => by cases h), fun j u a hu ha => by cases j <;> simp at hu ha; subst hu; subst ha; exact .nil _⟩
      · rename_i e' a len cap
        cases hu
        split at h
        · rename_i hb
          obtain ⟨_, hlc, hcm⟩ := hb
          obtain ⟨elems, h1, _⟩ := Option.bind_eq_some_iff.1 h
          obtain ⟨m1, m2⟩ := mapM_some h1
          rw [List.length_range] at m1
          have each : ∀ i, i < len → ∃ (vs : List Value) (as_ : List AV), vs.length = te.sz ∧ (∀ j, j < te.sz → w.cell? ((a.add (i * te.sz)).add j) = vs[j]?) ∧ Opened τ w e vs as_ := fun i hi => by
            obtain ⟨y, _, q2⟩ := m2 i i (by simp [hi])
            rw [hcell] at q2
            obtain ⟨vs, q3, q4⟩ := Option.bind_eq_some_iff.1 q2
            obtain ⟨_, q5, q6⟩ := World.cells?_some q3
            obtain ⟨as_, q7⟩ := trod_open hT hD fuel e vs y.1 y.2 hk q4
            exact ⟨vs, as_, q5, q6, q7⟩
          by_cases hl0 : len = 0
          · subst hl0
            exact ⟨[.sl te.sz []], rfl, .slice hti hte [] (by simp) (fun cs h => by cases h), fun j u a' hu ha => by cases j <;> simp at hu ha; subst hu; subst ha; exact .emp _ _ _⟩
          · have hspot : a.spot = none := by
              obtain ⟨vs, as_, q1, q2, _⟩ := each 0 (by omega)
              have := q2 0 hpos
              rw [Nat.zero_mul, show (a.add 0).add 0 = a by simp [Addr.add], List.getElem?_eq_getElem (by omega)] at this
              unfold World.cell? at this
              split at this
              · cases hs : a.spot with
                | none => rfl
                | some x => rw [hs] at this; simp at this
              · cases this
            obtain ⟨b, o, sp⟩ := a
            obtain rfl : sp = none := hspot
            let vsf : Nat → List Value := fun i => if hi : i < len then (each i hi).choose else []
            let asf : Nat → List AV := fun i => if hi : i < len then (each i hi).choose_spec.choose else []
            have hvs : ∀ i, i < len → (vsf i).length = te.sz ∧ (∀ j, j < te.sz → w.cell? (((⟨b, o, none⟩ : Addr).add (i * te.sz)).add j) = (vsf i)[j]?) ∧ Opened τ w e (vsf i) (asf i) := fun i hi => by
              simp only [vsf, asf, hi, dif_pos]
              exact (each i hi).choose_spec.choose_spec
            have hlen : ((List.range len).map asf).length = len := by simp
            have hget : ∀ (i : Nat) (cs : List AV), ((List.range len).map asf)[i]? = some cs → i < len ∧ cs = asf i := fun i cs hi => by
              have hi' : i < len := by simpa using (List.getElem?_eq_some_iff.1 hi).1
              rw [List.getElem?_map, List.getElem?_range hi'] at hi
              exact ⟨hi', by simpa using hi.symm⟩
            refine ⟨[.sl te.sz ((List.range len).map asf)], rfl, .slice hti hte _ (by rw [hlen]; omega) (fun cs hcs => ?_), fun j u a' hu ha => ?_⟩
            · obtain ⟨i, hi⟩ := List.getElem?_of_mem hcs
              obtain ⟨hi', rfl⟩ := hget i cs hi
              exact (hvs i hi').2.2.2.1
            · cases j <;> simp at hu ha
              subst hu; subst ha
              have := Rep.sl (w := w) (c := allFrz) b o cap te.sz ((List.range len).map asf) (fun i j => (vsf i).getD j undef) (by rw [hlen]; exact hlc) (fun i cs hi => by
                  obtain ⟨hi', rfl⟩ := hget i cs hi
                  have h3 := hvs i hi'
                  rw [h3.2.2.1, h3.1])
                (fun i j hi hj => by
                  rw [hlen] at hi
                  have h3 := hvs i hi
                  have := h3.2.1 j hj
                  rw [add_none, add_none] at this
                  rw [← Nat.add_assoc, this]
                  simp [h3.1, hj]) (fun i j hi hj => trivial)
                (fun i j cs x hi hx => by
                  obtain ⟨hi', rfl⟩ := hget i cs hi
                  have h3 := hvs i hi'
                  have hj : j < (vsf i).length := by rw [← h3.2.2.1]; exact (List.getElem?_eq_some_iff.1 hx).1
                  exact h3.2.2.2.2 j _ x (by simp [hj]) hx)
              rw [hlen] at this
              exact this
        · cases h
    all_goals exact hk.elim
end
section
variable {P : Program} {S : Sys} {w : World} {H : Type} {enc : TypeId × Value → H} {spare : Nat → Bool} {D : Nat → Prop}
theorem Ext.below {c c' : Cls} {w' : World} (h : Ext w.heap.size w c w' c') : Below w.heap.size w w' := ⟨h.os, h.tape, h.output, h.size, fun k hk => (h.old k hk hk).1⟩
/-- A law that answers true. -/
theorem law_calls (hS : SysOK P S) {f : Nat} {l : List AV} {t : Bool} (h : ωκ S f l = some (.bool t)) {vs : Array Value} {fn : Func} {cd : Code} (hf : P.funcs[f]? = some fn) (hb : fn.body = some cd) (hnm : ¬ fn.name = "runtime.NumGoroutine") (hG : GOK S.τ w allFrz)
    (hsz : vs.size = l.length) (hargs : ∀ (i : Nat) (v : Value) (a : AV), vs[i]? = some v → l[i]? = some a → ArgR w allFrz v a) : Calls P f vs w fun e w' => e = .returned (.bool t) ∧ Below w.heap.size w w' := by
  have hent : (callFunc f vs).run P w = .ok (.enter f vs) w := by simp [callFunc, hf, hnm, hb]
  rcases contract hS h w allFrz vs hG hsz hargs with ⟨_, hc⟩ | ⟨v, w', hc, _⟩
  · refine hc.mono fun e w' hv => ?_
    obtain ⟨v, rfl, c', hx, hr⟩ := hv
    obtain rfl : v = .bool t := rep_bool hr
    exact ⟨rfl, hx.below⟩
  · rw [hent] at hc; cases hc
/-- An argument that is no struct. -/
theorem open_one (hT : TabOK P S.τ) (hD : DataT S.τ D) {t : Nat} {v : Value} {d : DataW H} {p : List MemPlace} (hDt : D t) (hv : ∀ cs, v ≠ .agg cs) (h : DataW.Trod enc P w 0 spare true t v d p) : ∃ a, HasTy S.τ t [a] ∧ Rep w allFrz v a := by
  obtain ⟨fuel, h⟩ := h
  obtain ⟨as_, h1, h2, h3⟩ := trod_open hT hD fuel t _ d p hDt h
  have hc : v.cells = #[v] := by cases v <;> first | rfl | exact absurd rfl (hv _)
  rw [hc] at h1 h3
  obtain ⟨a, rfl⟩ : ∃ a, as_ = [a] := List.length_eq_one_iff.1 (by simpa using h1)
  exact ⟨a, h2, h3 0 v a rfl rfl⟩
end
end Go.Proofs.YtmdimhcjogjcgaaGreatDoor.Abs
