/- A law's call, as a row asks for it. -/
import Derived.Test.YtmdimhcjogjcgaaGreatDoorGbe
import Derived.SizedLaws
import Derived.Test.YtmdimhcjogjcgaaGreatDoorRows
import Derived.Deep.DeepHandedRow
import Derived.Lib.LaidU8
import Derived.ProofKit
import Derived.MakeChecks
set_option linter.all false
set_option maxRecDepth 100000
noncomputable section
namespace Go.Proofs.YtmdimhcjogjcgaaGreatDoor.Abs
open Go.RowKit
section
variable {P : Program} {S : Sys} {w : World} {H : Type} {enc : TypeId × Value → H} {spare : Nat → Bool} {D : Nat → Prop}
theorem awy (hT : db P S.τ) (hD : aqj S.τ D) {t : Nat} {v : Value} {d : DataW H} {p : List MemPlace} (hDt : D t) (hv : ∀ cs, v ≠ .agg cs) (h : DataW.Trod enc P w 0 spare true t v d p) : ∃ a, sv S.τ t [a] ∧ Rep w sw v a := by
 obtain ⟨fuel, h⟩ := h
 obtain ⟨as_, h1, h2, h3⟩ := aco hT hD fuel t _ d p hDt h
 have hc : v.cells = #[v] := by cases v <;> first | rfl | exact absurd rfl (hv _)
 rw [hc] at h1 h3
 obtain ⟨a, rfl⟩ : ∃ a, as_ = [a] := List.length_eq_one_iff.1 (by simpa using h1)
 exact ⟨a, h2, h3 0 v a rfl rfl⟩
end
end Go.Proofs.YtmdimhcjogjcgaaGreatDoor.Abs
namespace Go.Proofs.YtmdimhcjogjcgaaGreatDoor.Xp
open Go.ChangeShapes Go.WideShapes Go.ChangeAt Go.RowKit Go.Proofs.YtmdimhcjogjcgaaGreatDoor.Abs Go.Proofs.YtmdimhcjogjcgaaGreatDoor.Lat
def aqk (a : AV) : DataW Unit := match a with
 | .str s => .lit (.string s)
 | .int k n => .lit (.int k n)
 | _ => .lit (.bool false)
def valOf (a : AV) : Value := match a with
 | .str s => .string ⟨s.toArray⟩
 | .int k n => .int k n
 | _ => undef
theorem azt {P : Program} {w : World} {n : String} {g : Nat} {t e : TypeId} {N : Nat} {l : List AV}
  (h : Lib.VarReads P w n (.agg (l.map aqk))) (hg : P.globalNamed n = some g) (hy : (P.globals[g]?).map (·.type) = some t) (ht : P.underlying t = some (.array N e)) (hc : P.cellsOf e = 1) (hct : P.cellsOf t = N)
  (hk : (P.underlying e = some .string ∧ l.all (fun a => match a with | .str _ => true | _ => false) = true) ∨ (P.underlying e = some (.int .i64) ∧ l.all (fun a => match a with | .int .i64 _ => true | _ => false) = true)) :
  Rep w sw (.pointer (some ⟨g, 0, none⟩)) (.eptr l.length l 0) := by
 obtain ⟨g', t', cs, fuel, p, h1, h2, h3, h4⟩ := h
 obtain rfl := Option.some.inj (hg.symm.trans h1)
 obtain rfl := Option.some.inj (hy.symm.trans h2)
 obtain ⟨xs, m, rfl, hx, hl, hxl, hel⟩ := DataW.trod_array ht h4
 have hxs : xs.map (·.1) = l.map aqk := (DataW.agg.inj (Prod.mk.inj hx).1).symm
 have hll : l.length = N := by
  have := congrArg List.length hxs
  simp at this
  omega
 rw [hct] at hl
 have hcs : cs.toList = l.map valOf := by
  apply List.ext_getElem?
  intro i
  by_cases hi : i < N
  ·have hE := hel i hi
   rw [hc, Nat.mul_one, List.getElem?_eq_getElem (by omega)] at hE
   have e0 : l[i]? = some l[i] := List.getElem?_eq_getElem (by omega)
   have hm : l[i] ∈ l := List.getElem_mem (by omega)
   have e4 : (xs.map (·.1))[i]? = (l.map aqk)[i]? := by rw [hxs]
   rw [List.getElem?_map, List.getElem?_map, List.getElem?_eq_getElem (by omega : i < xs.length), e0] at e4
   simp only [Option.map_some, Option.some.injEq] at e4
   rw [List.getElem?_map, e0, Option.map_some]
   rcases hk with ⟨he, hk⟩ | ⟨he, hk⟩
   ·have hki := List.all_eq_true.1 hk _ hm
    obtain ⟨s, e1, e2, _⟩ := DataW.trod_string he hE
    rw [e2] at e4
    generalize l[i] = a at hki e4
    cases a <;> first
     | (cases hki; done)
     | skip
    rename_i s'
    have e5 : s.data.toList = s' := by
     have : (DataW.lit (.string s.data.toList) : DataW Unit) = .lit (.string s') := e4
     simp only [DataW.lit.injEq, Lit.string.injEq] at this
     exact this
    have e6 : cs.toList[i]? = some (.string s) := by
     have h0 : ((cs.toList.drop i).take 1)[0]? = some (.string s) := by rw [e1]; rfl
     simpa using h0
    rw [e6, ← e5]
    simp [valOf]
   ·have hki := List.all_eq_true.1 hk _ hm
    obtain ⟨s, e1, e2, _⟩ := DataW.trod_int he hE
    rw [e2] at e4
    generalize l[i] = a at hki e4
    cases a <;> first
     | (cases hki; done)
     | skip
    rename_i k' s'
    have e5 : (DataW.lit (.int .i64 s) : DataW Unit) = .lit (.int k' s') := e4
    simp only [DataW.lit.injEq, Lit.int.injEq] at e5
    obtain ⟨rfl, rfl⟩ := e5
    have e6 : cs.toList[i]? = some (.int .i64 s) := by
     have h0 : ((cs.toList.drop i).take 1)[0]? = some (.int .i64 s) := by rw [e1]; rfl
     simpa using h0
    rw [e6]; rfl
  ·rw [List.getElem?_eq_none (by omega), List.getElem?_eq_none (by simp; omega)]
 unfold World.var? at h3
 rw [hg] at h3
 simp only [Option.bind_some] at h3
 split at h3
 ·rename_i c ty fr hh
  obtain rfl := Option.some.inj h3
  have hcell : ∀ (j : Nat) (a : AV), l[j]? = some a → w.cell? ⟨g, j, none⟩ = some (valOf a) := fun j a ha => by
   rw [cell_of hh, ← Array.getElem?_toList, hcs, List.getElem?_map, ha]; rfl
  refine Rep.eptr g 0 l.length l 0 (fun j => (w.cell? ⟨g, j, none⟩).getD undef) rfl (fun j hj => ?_) (fun j hj => trivial) (fun j a ha => ?_)
  ·rw [Nat.zero_add, hcell j _ (List.getElem?_eq_getElem hj)]; rfl
  ·simp only [hcell j a ha, Option.getD_some]
   have hm : a ∈ l := List.mem_of_getElem? ha
   rcases hk with ⟨_, hk⟩ | ⟨_, hk⟩
   ·have hki := List.all_eq_true.1 hk _ hm
    cases a <;> first
     | (cases hki; done)
     | skip
    rename_i s'
    have := Rep.str (w := w) (c := sw) ⟨s'.toArray⟩
    simpa [valOf] using this
   ·have hki := List.all_eq_true.1 hk _ hm
    cases a <;> first
     | (cases hki; done)
     | exact Rep.int _ _
 ·cases h3
theorem gok {w : World} {r : OpenClaim} (hr : r.laid = Rows.queryMoreRow.laid) (h : laidMetH Tryz.prog r.laid w) : GOK Q.τ w sw := by
 rw [hr, MakeChecks.laidMetH_plain _ _ _ (by kernel_rfl)] at h
 have r0 := azt (t := 231) (e := 9) (N := 9) (l := xl) (Lib.laidMet.reads h (.tail _ (.head _))) (show _ = some 0 by kernel_rfl) (by kernel_rfl) Tryz.underlying231 (by kernel_rfl) (by kernel_rfl) (.inl ⟨Tryz.underlying9, rfl⟩)
 intro g cs hg
 have hg : aa (Nat.beq g 0) (some xl) none = some cs := hg
 cases b0 : Nat.beq g 0 with
 | true =>
  rw [b0] at hg
  obtain rfl := Nat.eq_of_beq_eq_true b0
  cases hg; exact r0
 | false => rw [b0] at hg; cases hg
theorem T3 : τ.T 3 = some ⟨.int .i64, 1, 8, [AV.int .i64 0]⟩ := rfl
theorem T4 : τ.T 4 = some ⟨.bool, 1, 1, [AV.bool false]⟩ := rfl
theorem T9 : τ.T 9 = some ⟨.str, 1, 16, [AV.str []]⟩ := rfl
theorem T23 : τ.T 23 = some ⟨.slice 70, 1, 24, [AV.own 3 []]⟩ := rfl
theorem T43 : τ.T 43 = some ⟨.slice 68, 1, 24, [AV.own 8 []]⟩ := rfl
theorem T45 : τ.T 45 = some ⟨.struct [(0, 43)], 1, 24, [AV.own 8 []]⟩ := rfl
theorem T37 : τ.T 37 = some ⟨.slice 9, 1, 24, [AV.own 1 []]⟩ := rfl
theorem T70 : τ.T 70 = some ⟨.struct [(0, 9), (1, 45), (2, 37)], 3, 64, [AV.str [], AV.own 8 [], AV.own 1 []]⟩ := rfl
theorem T66 : τ.T 66 = some ⟨.slice 110, 1, 24, [AV.own 2 []]⟩ := rfl
theorem T68 : τ.T 68 = some ⟨.struct [(0, 3), (1, 3), (2, 3), (3, 9), (4, 4), (5, 4), (6, 4), (7, 66)], 8, 72, [AV.int .i64 0, AV.int .i64 0, AV.int .i64 0, AV.str [], AV.bool false, AV.bool false, AV.bool false, AV.own 2 []]⟩ := rfl
theorem aep : τ.T 110 = some ⟨.struct [(0, 9), (1, 45)], 2, 40, [AV.str [], AV.own 8 []]⟩ := rfl
def Dt (t : Nat) : Prop := t = 3 ∨ t = 4 ∨ t = 9 ∨ t = 23 ∨ t = 43 ∨ t = 45 ∨ t = 37 ∨ t = 70 ∨ t = 66 ∨ t = 68 ∨ t = 110
theorem a6k : aqj τ Dt := fun t ht => by
 rcases ht with rfl | rfl | rfl | rfl | rfl | rfl | rfl | rfl | rfl | rfl | rfl
 ·exact ⟨_, T3, trivial⟩
 ·exact ⟨_, T4, trivial⟩
 ·exact ⟨_, T9, trivial⟩
 ·exact ⟨_, T23, (by unfold Dt; omega : Dt 70)⟩
 ·exact ⟨_, T43, (by unfold Dt; omega : Dt 68)⟩
 ·refine ⟨_, T45, ⟨rfl, _, T43, rfl⟩, fun o f hm => ?_⟩
  simp at hm
  unfold Dt; omega
 ·exact ⟨_, T37, (by unfold Dt; omega : Dt 9)⟩
 ·refine ⟨_, T70, ⟨rfl, _, T9, rfl, _, T45, rfl, _, T37, rfl⟩, fun o f hm => ?_⟩
  simp at hm
  unfold Dt; omega
 ·exact ⟨_, T66, (by unfold Dt; omega : Dt 110)⟩
 ·refine ⟨_, T68, ⟨rfl, _, T3, rfl, _, T3, rfl, _, T3, rfl, _, T9, rfl, _, T4, rfl, _, T4, rfl, _, T4, rfl, _, T66, rfl⟩, fun o f hm => ?_⟩
  simp at hm
  unfold Dt; omega
 ·refine ⟨_, aep, ⟨rfl, _, T9, rfl, _, T45, rfl⟩, fun o f hm => ?_⟩
  simp at hm
  unfold Dt; omega
theorem tms : ∀ l : List (List AV), (∀ cs ∈ l, ∃ t, cs = ah t) → ∃ v, l = ak v
 | [], _ => ⟨[], rfl⟩
 | x :: r, h => by
  obtain ⟨t, rfl⟩ := h x (List.mem_cons_self ..)
  obtain ⟨v, rfl⟩ := tms r fun cs hc => h cs (List.mem_cons_of_mem _ hc)
  exact ⟨t :: v, rfl⟩
theorem fds : ∀ l : List (List AV), (∀ cs ∈ l, ∃ f, cs = jg f) → ∃ v, l = cb v
 | [], _ => ⟨[], rfl⟩
 | x :: r, h => by
  obtain ⟨f, rfl⟩ := h x (List.mem_cons_self ..)
  obtain ⟨v, rfl⟩ := fds r fun cs hc => h cs (List.mem_cons_of_mem _ hc)
  exact ⟨f :: v, by rw [jq, jq]; rfl⟩
theorem txs : ∀ l : List (List AV), (∀ cs ∈ l, ∃ s, cs = [AV.str s]) → ∃ v, l = br v
 | [], _ => ⟨[], rfl⟩
 | x :: r, h => by
  obtain ⟨t, rfl⟩ := h x (List.mem_cons_self ..)
  obtain ⟨v, rfl⟩ := txs r fun cs hc => h cs (List.mem_cons_of_mem _ hc)
  exact ⟨t :: v, rfl⟩
theorem atp : ∀ l : List (List AV), (∀ cs ∈ l, ∃ t, cs = ui t) → ∃ v, l = cf v
 | [], _ => ⟨[], rfl⟩
 | x :: r, h => by
  obtain ⟨t, rfl⟩ := h x (List.mem_cons_self ..)
  obtain ⟨v, rfl⟩ := atp r fun cs hc => h cs (List.mem_cons_of_mem _ hc)
  exact ⟨t :: v, rfl⟩
structure Sh (ty : Nat) (as_ : List AV) : Prop where
 i : ty = 3 → ∃ n, as_ = [.int .i64 n]
 b : ty = 4 → ∃ b, as_ = [.bool b]
 s : ty = 9 → ∃ s, as_ = [.str s]
 ths : ty = 23 → ∃ ts, as_ = [.sl 3 (cf ts)]
 v : ty = 43 → ∃ v, as_ = [.sl 8 (ak v)]
 w : ty = 45 → ∃ v, as_ = [.sl 8 (ak v)]
 ds : ty = 37 → ∃ d, as_ = [.sl 1 (br d)]
 th : ty = 70 → ∃ t, as_ = ui t
 f : ty = 66 → ∃ fs, as_ = [.sl 2 (cb fs)]
 t : ty = 68 → ∃ t, as_ = ah t
 d : ty = 110 → ∃ f, as_ = jg f
theorem av {t : Nat} {a b : TI} (h : τ.T t = some a) (h' : τ.T t = some b) : a = b := Option.some.inj (h.symm.trans h')
theorem sh {t : Nat} {as_ : List AV} (h : sv τ t as_) : Sh t as_ := by
 induction h with
 | bool h x =>
  constructor <;> intro e <;> subst e
  ·cases av h T3
  ·cases av h T4
   exact ⟨x, rfl⟩
  ·cases av h T9
  ·cases av h T23
  ·cases av h T43
  ·cases av h T45
  ·cases av h T37
  ·cases av h T70
  ·cases av h T66
  ·cases av h T68
  ·cases av h aep
 | int h n wf =>
  constructor <;> intro e <;> subst e
  ·cases av h T3
   exact ⟨n, rfl⟩
  ·cases av h T4
  ·cases av h T9
  ·cases av h T23
  ·cases av h T43
  ·cases av h T45
  ·cases av h T37
  ·cases av h T70
  ·cases av h T66
  ·cases av h T68
  ·cases av h aep
 | str h l hl =>
  constructor <;> intro e <;> subst e
  ·cases av h T3
  ·cases av h T4
  ·cases av h T9
   exact ⟨l, rfl⟩
  ·cases av h T23
  ·cases av h T43
  ·cases av h T45
  ·cases av h T37
  ·cases av h T70
  ·cases av h T66
  ·cases av h T68
  ·cases av h aep
 | slice h he l hlen hl ih =>
  constructor <;> intro e <;> subst e
  ·cases av h T3
  ·cases av h T4
  ·cases av h T9
  ·cases av h T23
   cases av he T70
   obtain ⟨v, rfl⟩ := atp l fun cs hc => (ih cs hc).th rfl
   exact ⟨v, rfl⟩
  ·cases av h T43
   cases av he T68
   obtain ⟨v, rfl⟩ := tms l fun cs hc => (ih cs hc).t rfl
   exact ⟨v, rfl⟩
  ·cases av h T45
  ·cases av h T37
   cases av he T9
   obtain ⟨v, rfl⟩ := txs l fun cs hc => (ih cs hc).s rfl
   exact ⟨v, rfl⟩
  ·cases av h T70
  ·cases av h T66
   cases av he aep
   obtain ⟨v, rfl⟩ := fds l fun cs hc => (ih cs hc).d rfl
   exact ⟨v, rfl⟩
  ·cases av h T68
  ·cases av h aep
 | struct h parts hlen hp ih =>
  constructor <;> intro e <;> subst e
  ·cases av h T3
  ·cases av h T4
  ·cases av h T9
  ·cases av h T23
  ·cases av h T43
  ·cases av h T45
   match parts, hlen with
   | [p0], _ =>
    obtain ⟨v, rfl⟩ := (ih 0 0 43 p0 rfl rfl).v rfl
    exact ⟨v, rfl⟩
  ·cases av h T37
  ·cases av h T70
   match parts, hlen with
   | [p0, p1, p2], _ =>
    obtain ⟨n, rfl⟩ := (ih 0 0 9 p0 rfl rfl).s rfl
    obtain ⟨v, rfl⟩ := (ih 1 1 45 p1 rfl rfl).w rfl
    obtain ⟨d, rfl⟩ := (ih 2 2 37 p2 rfl rfl).ds rfl
    exact ⟨⟨n, v, d⟩, rfl⟩
  ·cases av h T66
  ·cases av h T68
   match parts, hlen with
   | [p0, p1, p2, p3, p4, p5, p6, p7], _ =>
    obtain ⟨k, rfl⟩ := (ih 0 0 3 p0 rfl rfl).i rfl
    obtain ⟨lo, rfl⟩ := (ih 1 1 3 p1 rfl rfl).i rfl
    obtain ⟨hi, rfl⟩ := (ih 2 2 3 p2 rfl rfl).i rfl
    obtain ⟨s, rfl⟩ := (ih 3 3 9 p3 rfl rfl).s rfl
    obtain ⟨a, rfl⟩ := (ih 4 4 4 p4 rfl rfl).b rfl
    obtain ⟨m, rfl⟩ := (ih 5 5 4 p5 rfl rfl).b rfl
    obtain ⟨o, rfl⟩ := (ih 6 6 4 p6 rfl rfl).b rfl
    obtain ⟨fs, rfl⟩ := (ih 7 7 66 p7 rfl rfl).f rfl
    exact ⟨.mk k lo hi s a m o fs, rfl⟩
  ·cases av h aep
   match parts, hlen with
   | [p0, p1], _ =>
    obtain ⟨n, rfl⟩ := (ih 0 0 9 p0 rfl rfl).s rfl
    obtain ⟨v, rfl⟩ := (ih 1 1 45 p1 rfl rfl).w rfl
    exact ⟨.mk n v, rfl⟩
theorem walk {H : Type} {enc : TypeId × Value → H} (v0 : Value) (s : ByteArray) (n : Int) (W : World) (hG : GOK Q.τ W sw) (n0 : ∀ cs, v0 ≠ .agg cs) (hs : s.size ≤ 140737488351232) (hn : (Lit.int .i64 n).wf = true) {d0 : DataW H} {p0 : List MemPlace}
  (h0 : DataW.Trod enc Tryz.prog W 0 (fun _ => true) true 23 v0 d0 p0) : Calls Tryz.prog 5 #[v0, .string s, .int .i64 n] W fun e w' => e = .returned (.bool true) ∧ Below W.heap.size W w' := by
 obtain ⟨x, t0, a0⟩ := awy (S := Q) amk.tab a6k (by unfold Dt; omega) n0 h0
 obtain ⟨a, hp⟩ := (sh t0).ths rfl
 cases hp
 exact Th.awx (v := v0) (ts := a) (s := s) (n := n) ⟨Below.refl _ _, sw, hG, fun p hp => by rw [List.mem_singleton] at hp; subst hp; exact a0⟩ (by have h2 : IntKind.i64.min ≤ n ∧ n ≤ 9223372036854775807 := (by simpa [Lit.wf] using hn); exact h2)
end Go.Proofs.YtmdimhcjogjcgaaGreatDoor.Xp
