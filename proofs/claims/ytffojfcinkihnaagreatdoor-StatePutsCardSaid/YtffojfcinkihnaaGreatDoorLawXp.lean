/- StatePuts: the arguments opened; the call. -/
import Derived.Test.YtffojfcinkihnaaGreatDoorW30
import Derived.Test.YtffojfcinkihnaaGreatDoorMO
import Derived.Test.YtffojfcinkihnaaGreatDoorRows
import Derived.Deep.DeepHandedRow
import Derived.Lib.LaidU8
import Derived.ProofKit
import Derived.MakeChecks
set_option linter.unusedVariables false
set_option linter.unusedSimpArgs false
set_option linter.unusedSectionVars false
set_option linter.deprecated false
set_option linter.unnecessarySimpa false
namespace Go.Proofs.YtffojfcinkihnaaGreatDoor.Lat
open Go.ChangeShapes Go.WideShapes Go.ChangeAt Go.RowKit Go.Proofs.YtffojfcinkihnaaGreatDoor.Abs
set_option linter.unusedVariables false
set_option maxRecDepth 100000
/-- A variable that is an array of texts, and reads as these, holds these. -/
theorem strTable {P : Program} {w : World} {n : String} {g : Nat} {t e : TypeId} {N : Nat} {l : List (List UInt8)}
    (h : Lib.VarReads P w n (.agg (l.map fun b => .lit (.string b)))) (hg : P.globalNamed n = some g) (hy : (P.globals[g]?).map (·.type) = some t) (ht : P.underlying t = some (.array N e)) (he : P.underlying e = some .string) (hc : P.cellsOf e = 1) (hct : P.cellsOf t = N) :
    ∃ ty fr, w.heap[g]? = some (.cells (l.map fun b => Value.string ⟨b.toArray⟩).toArray ty fr) := by
  obtain ⟨g', t', cs, fuel, p, h1, h2, h3, h4⟩ := h
  obtain rfl := Option.some.inj (hg.symm.trans h1)
  obtain rfl := Option.some.inj (hy.symm.trans h2)
  obtain ⟨xs, m, rfl, hx, hl, hxl, hel⟩ := DataW.trod_array ht h4
  have hxs : xs.map (·.1) = l.map fun b => (.lit (.string b) : DataW Unit) := (DataW.agg.inj (Prod.mk.inj hx).1).symm
  have hll : l.length = N := by
    have := congrArg List.length hxs
    simp at this
    omega
  rw [hct] at hl
  have hcs : cs.toList = l.map fun b => Value.string ⟨b.toArray⟩ := by
    apply List.ext_getElem?
    intro i
    by_cases hi : i < N
    · have hE := hel i hi
      rw [hc, Nat.mul_one, List.getElem?_eq_getElem (by omega)] at hE
      obtain ⟨s, e1, e2, _⟩ := DataW.trod_string he hE
      have e4 : (xs.map (·.1))[i]? = (l.map fun b => (.lit (.string b) : DataW Unit))[i]? := by rw [hxs]
      rw [List.getElem?_map, List.getElem?_map, List.getElem?_eq_getElem (by omega : i < xs.length), List.getElem?_eq_getElem (by omega : i < l.length), e2] at e4
      simp only [Option.map_some, Option.some.injEq, DataW.lit.injEq, Lit.string.injEq] at e4
      have e5 : cs.toList[i]? = some (.string s) := by
        have h0 : ((cs.toList.drop i).take 1)[0]? = some (.string s) := by rw [e1]; rfl
        simpa using h0
      rw [e5, List.getElem?_map, List.getElem?_eq_getElem (by omega : i < l.length), ← e4]
      simp
    · rw [List.getElem?_eq_none (by omega), List.getElem?_eq_none (by simp; omega)]
  unfold World.var? at h3
  rw [hg] at h3
  simp only [Option.bind_some] at h3
  split at h3
  · rename_i c ty fr hh
    obtain rfl := Option.some.inj h3
    exact ⟨ty, fr, by rw [hh, ← hcs]⟩
  · cases h3

/-- The listed variable. -/
theorem gok {w : World} {r : OpenClaim} (hr : r.laid = Rows.statePutsRow.laid) (h : laidMetH Tryz.prog r.laid w) : GOK Z.τ w allFrz := by
  rw [hr, MakeChecks.laidMetH_plain _ _ _ (by kernel_rfl)] at h
  obtain ⟨ty, fr, hb⟩ := strTable (t := 152) (e := 9) (N := 9) (l := [[97, 110, 121], [98, 111, 111, 108], [99, 111, 109, 112, 117, 116, 101, 100], [102, 97, 108, 115, 101], [105, 110, 116], [110, 111, 110, 101], [114, 101, 115, 111, 117, 114, 99, 101], [115, 116, 114, 105, 110, 103], [116, 114, 117, 101]]) (Lib.laidMet.reads h (.head _)) (show _ = some 0 by kernel_rfl) (by kernel_rfl) Tryz.underlying152 Tryz.underlying9 (by kernel_rfl) (by kernel_rfl)
  intro g cs hg
  cases hb1 : Nat.beq g 0 with
  | false =>
    have hg : pick2 (Nat.beq g 0) (some wordsL) none = some cs := hg
    rw [hb1] at hg; cases hg
  | true =>
    obtain rfl : g = 0 := Nat.eq_of_beq_eq_true hb1
    cases (show some wordsL = some cs from hg)
    have hc : ∀ (j : Nat) (s : List UInt8), j < 9 → wordsL[j]? = some (.str s) → w.cell? ⟨0, j, none⟩ = some (.string ⟨s.toArray⟩) := fun j s hj hs => by
      rw [cell_of hb]
      rcases (by omega : j = 0 ∨ j = 1 ∨ j = 2 ∨ j = 3 ∨ j = 4 ∨ j = 5 ∨ j = 6 ∨ j = 7 ∨ j = 8) with rfl | rfl | rfl | rfl | rfl | rfl | rfl | rfl | rfl <;>
        (simp only [wordsL, List.getElem?_cons_zero, List.getElem?_cons_succ, Option.some.injEq, AV.str.injEq] at hs; subst hs; rfl)
    have hs : ∀ j, j < 9 → ∃ s, wordsL[j]? = some (.str s) := fun j hj => by
      rcases (by omega : j = 0 ∨ j = 1 ∨ j = 2 ∨ j = 3 ∨ j = 4 ∨ j = 5 ∨ j = 6 ∨ j = 7 ∨ j = 8) with rfl | rfl | rfl | rfl | rfl | rfl | rfl | rfl | rfl <;> exact ⟨_, rfl⟩
    refine Rep.eptr 0 0 9 wordsL 0 (fun j => (w.cell? ⟨0, j, none⟩).getD undef) rfl (fun j hj => ?_) (fun j hj => trivial) (fun j a ha => ?_)
    · obtain ⟨s, h1⟩ := hs j hj
      rw [Nat.zero_add, hc j s hj h1]; rfl
    · have hj : j < 9 := (List.getElem?_eq_some_iff.1 ha).1
      obtain ⟨s, h1⟩ := hs j hj
      rw [h1] at ha; cases ha
      simp only [hc j s hj h1, Option.getD_some]
      have := Rep.str (w := w) (c := allFrz) ⟨s.toArray⟩
      simpa using this
/-! The types -/
theorem T3 : τ.T 3 = some ⟨.int .i64, 1, 8, [AV.int .i64 0]⟩ := rfl
theorem T4 : τ.T 4 = some ⟨.bool, 1, 1, [AV.bool false]⟩ := rfl
theorem T9 : τ.T 9 = some ⟨.str, 1, 16, [AV.str []]⟩ := rfl
theorem T22 : τ.T 22 = some ⟨.slice 28, 1, 24, [AV.own 3 []]⟩ := rfl
theorem T23 : τ.T 23 = some ⟨.slice 54, 1, 24, [AV.own 8 []]⟩ := rfl
theorem T25 : τ.T 25 = some ⟨.struct [(0, 23)], 1, 24, [AV.own 8 []]⟩ := rfl
theorem T26 : τ.T 26 = some ⟨.slice 9, 1, 24, [AV.own 1 []]⟩ := rfl
theorem T28 : τ.T 28 = some ⟨.struct [(0, 9), (1, 25), (2, 26)], 3, 64, [AV.str [], AV.own 8 [], AV.own 1 []]⟩ := rfl
theorem T52 : τ.T 52 = some ⟨.slice 78, 1, 24, [AV.own 2 []]⟩ := rfl
theorem T54 : τ.T 54 = some ⟨.struct [(0, 3), (1, 3), (2, 3), (3, 9), (4, 4), (5, 4), (6, 4), (7, 52)], 8, 72, [AV.int .i64 0, AV.int .i64 0, AV.int .i64 0, AV.str [], AV.bool false, AV.bool false, AV.bool false, AV.own 2 []]⟩ := rfl
theorem T78 : τ.T 78 = some ⟨.struct [(0, 9), (1, 25)], 2, 40, [AV.str [], AV.own 8 []]⟩ := rfl
def Dt (t : Nat) : Prop := t = 3 ∨ t = 4 ∨ t = 9 ∨ t = 22 ∨ t = 23 ∨ t = 25 ∨ t = 26 ∨ t = 28 ∨ t = 52 ∨ t = 54 ∨ t = 78
theorem dataT : DataT τ Dt := fun t ht => by
  rcases ht with rfl | rfl | rfl | rfl | rfl | rfl | rfl | rfl | rfl | rfl | rfl
  · exact ⟨_, T3, trivial⟩
  · exact ⟨_, T4, trivial⟩
  · exact ⟨_, T9, trivial⟩
  · exact ⟨_, T22, (by unfold Dt; omega : Dt 28)⟩
  · exact ⟨_, T23, (by unfold Dt; omega : Dt 54)⟩
  · refine ⟨_, T25, ⟨rfl, _, T23, rfl⟩, fun o f hm => ?_⟩
    simp at hm
    unfold Dt; omega
  · exact ⟨_, T26, (by unfold Dt; omega : Dt 9)⟩
  · refine ⟨_, T28, ⟨rfl, _, T9, rfl, _, T25, rfl, _, T26, rfl⟩, fun o f hm => ?_⟩
    simp at hm
    unfold Dt; omega
  · exact ⟨_, T52, (by unfold Dt; omega : Dt 78)⟩
  · refine ⟨_, T54, ⟨rfl, _, T3, rfl, _, T3, rfl, _, T3, rfl, _, T9, rfl, _, T4, rfl, _, T4, rfl, _, T4, rfl, _, T52, rfl⟩, fun o f hm => ?_⟩
    simp at hm
    unfold Dt; omega
  · refine ⟨_, T78, ⟨rfl, _, T9, rfl, _, T25, rfl⟩, fun o f hm => ?_⟩
    simp at hm
    unfold Dt; omega
theorem tms : ∀ l : List (List AV), (∀ cs ∈ l, ∃ t, cs = encT t) → ∃ v, l = encV v
  | [], _ => ⟨[], rfl⟩
  | x :: r, h => by
    obtain ⟨t, rfl⟩ := h x (List.mem_cons_self ..)
    obtain ⟨v, rfl⟩ := tms r fun cs hc => h cs (List.mem_cons_of_mem _ hc)
    exact ⟨t :: v, rfl⟩
theorem fds : ∀ l : List (List AV), (∀ cs ∈ l, ∃ f, cs = encFd f) → ∃ v, l = encF v
  | [], _ => ⟨[], rfl⟩
  | x :: r, h => by
    obtain ⟨f, rfl⟩ := h x (List.mem_cons_self ..)
    obtain ⟨v, rfl⟩ := fds r fun cs hc => h cs (List.mem_cons_of_mem _ hc)
    exact ⟨f :: v, by rw [encF_map, encF_map]; rfl⟩
theorem txs : ∀ l : List (List AV), (∀ cs ∈ l, ∃ s, cs = [AV.str s]) → ∃ v, l = encD v
  | [], _ => ⟨[], rfl⟩
  | x :: r, h => by
    obtain ⟨t, rfl⟩ := h x (List.mem_cons_self ..)
    obtain ⟨v, rfl⟩ := txs r fun cs hc => h cs (List.mem_cons_of_mem _ hc)
    exact ⟨t :: v, rfl⟩
theorem things : ∀ l : List (List AV), (∀ cs ∈ l, ∃ t, cs = encTh t) → ∃ v, l = encTs v
  | [], _ => ⟨[], rfl⟩
  | x :: r, h => by
    obtain ⟨t, rfl⟩ := h x (List.mem_cons_self ..)
    obtain ⟨v, rfl⟩ := things r fun cs hc => h cs (List.mem_cons_of_mem _ hc)
    exact ⟨t :: v, rfl⟩
/-- What a type's cells are. -/
structure Sh (ty : Nat) (as_ : List AV) : Prop where
  i : ty = 3 → ∃ n, as_ = [.int .i64 n]
  b : ty = 4 → ∃ b, as_ = [.bool b]
  s : ty = 9 → ∃ s, as_ = [.str s]
  ths : ty = 22 → ∃ ts, as_ = [.sl 3 (encTs ts)]
  v : ty = 23 → ∃ v, as_ = [.sl 8 (encV v)]
  w : ty = 25 → ∃ v, as_ = [.sl 8 (encV v)]
  ds : ty = 26 → ∃ d, as_ = [.sl 1 (encD d)]
  th : ty = 28 → ∃ t, as_ = encTh t
  f : ty = 52 → ∃ fs, as_ = [.sl 2 (encF fs)]
  t : ty = 54 → ∃ t, as_ = encT t
  d : ty = 78 → ∃ f, as_ = encFd f
theorem kind_of {t : Nat} {a b : TI} (h : τ.T t = some a) (h' : τ.T t = some b) : a = b := Option.some.inj (h.symm.trans h')
theorem sh {t : Nat} {as_ : List AV} (h : HasTy τ t as_) : Sh t as_ := by
  induction h with
  | bool h x =>
    constructor <;> intro e <;> subst e
    · cases kind_of h T3
    · cases kind_of h T4
      exact ⟨x, rfl⟩
    · cases kind_of h T9
    · cases kind_of h T22
    · cases kind_of h T23
    · cases kind_of h T25
    · cases kind_of h T26
    · cases kind_of h T28
    · cases kind_of h T52
    · cases kind_of h T54
    · cases kind_of h T78
  | int h n wf =>
    constructor <;> intro e <;> subst e
    · cases kind_of h T3
      exact ⟨n, rfl⟩
    · cases kind_of h T4
    · cases kind_of h T9
    · cases kind_of h T22
    · cases kind_of h T23
    · cases kind_of h T25
    · cases kind_of h T26
    · cases kind_of h T28
    · cases kind_of h T52
    · cases kind_of h T54
    · cases kind_of h T78
  | str h l hl =>
    constructor <;> intro e <;> subst e
    · cases kind_of h T3
    · cases kind_of h T4
    · cases kind_of h T9
      exact ⟨l, rfl⟩
    · cases kind_of h T22
    · cases kind_of h T23
    · cases kind_of h T25
    · cases kind_of h T26
    · cases kind_of h T28
    · cases kind_of h T52
    · cases kind_of h T54
    · cases kind_of h T78
  | slice h he l hlen hl ih =>
    constructor <;> intro e <;> subst e
    · cases kind_of h T3
    · cases kind_of h T4
    · cases kind_of h T9
    · cases kind_of h T22
      cases kind_of he T28
      obtain ⟨v, rfl⟩ := things l fun cs hc => (ih cs hc).th rfl
      exact ⟨v, rfl⟩
    · cases kind_of h T23
      cases kind_of he T54
      obtain ⟨v, rfl⟩ := tms l fun cs hc => (ih cs hc).t rfl
      exact ⟨v, rfl⟩
    · cases kind_of h T25
    · cases kind_of h T26
      cases kind_of he T9
      obtain ⟨v, rfl⟩ := txs l fun cs hc => (ih cs hc).s rfl
      exact ⟨v, rfl⟩
    · cases kind_of h T28
    · cases kind_of h T52
      cases kind_of he T78
      obtain ⟨v, rfl⟩ := fds l fun cs hc => (ih cs hc).d rfl
      exact ⟨v, rfl⟩
    · cases kind_of h T54
    · cases kind_of h T78
  | struct h parts hlen hp ih =>
    constructor <;> intro e <;> subst e
    · cases kind_of h T3
    · cases kind_of h T4
    · cases kind_of h T9
    · cases kind_of h T22
    · cases kind_of h T23
    · cases kind_of h T25
      match parts, hlen with
      | [p0], _ =>
        obtain ⟨v, rfl⟩ := (ih 0 0 23 p0 rfl rfl).v rfl
        exact ⟨v, rfl⟩
    · cases kind_of h T26
    · cases kind_of h T28
      match parts, hlen with
      | [p0, p1, p2], _ =>
        obtain ⟨n, rfl⟩ := (ih 0 0 9 p0 rfl rfl).s rfl
        obtain ⟨v, rfl⟩ := (ih 1 1 25 p1 rfl rfl).w rfl
        obtain ⟨d, rfl⟩ := (ih 2 2 26 p2 rfl rfl).ds rfl
        exact ⟨⟨n, v, d⟩, rfl⟩
    · cases kind_of h T52
    · cases kind_of h T54
      match parts, hlen with
      | [p0, p1, p2, p3, p4, p5, p6, p7], _ =>
        obtain ⟨k, rfl⟩ := (ih 0 0 3 p0 rfl rfl).i rfl
        obtain ⟨lo, rfl⟩ := (ih 1 1 3 p1 rfl rfl).i rfl
        obtain ⟨hi, rfl⟩ := (ih 2 2 3 p2 rfl rfl).i rfl
        obtain ⟨s, rfl⟩ := (ih 3 3 9 p3 rfl rfl).s rfl
        obtain ⟨a, rfl⟩ := (ih 4 4 4 p4 rfl rfl).b rfl
        obtain ⟨m, rfl⟩ := (ih 5 5 4 p5 rfl rfl).b rfl
        obtain ⟨o, rfl⟩ := (ih 6 6 4 p6 rfl rfl).b rfl
        obtain ⟨fs, rfl⟩ := (ih 7 7 52 p7 rfl rfl).f rfl
        exact ⟨.mk k lo hi s a m o fs, rfl⟩
    · cases kind_of h T78
      match parts, hlen with
      | [p0, p1], _ =>
        obtain ⟨n, rfl⟩ := (ih 0 0 9 p0 rfl rfl).s rfl
        obtain ⟨v, rfl⟩ := (ih 1 1 25 p1 rfl rfl).w rfl
        exact ⟨.mk n v, rfl⟩
/-- The law's call. -/
theorem walk {H : Type} {enc : TypeId × Value → H} (v0 : Value) (cs : Array Value) (s : ByteArray) (W : World) (hG : GOK Z.τ W allFrz) (n0 : ∀ cs, v0 ≠ .agg cs) (hsz : cs.size = 3) (hs : s.size ≤ 140737488351232) {d0 d1 : DataW H} {p0 p1 : List MemPlace}
    (h0 : DataW.Trod enc Tryz.prog W 0 (fun _ => true) true 22 v0 d0 p0) (h1 : DataW.Trod enc Tryz.prog W 0 (fun _ => true) true 28 (.agg cs) d1 p1) :
    Calls Tryz.prog 3 #[v0, .agg cs, .string s] W fun e w' => e = .returned (.bool true) ∧ Below W.heap.size W w' := by
  obtain ⟨x, t0, a0⟩ := open_one (S := Z) sysOKZ.tab dataT (by unfold Dt; omega) n0 h0
  obtain ⟨a, hp⟩ := (sh t0).ths rfl
  cases hp
  obtain ⟨as_, t1, _, a1⟩ := open_agg (S := Z) sysOKZ.tab dataT (by unfold Dt; omega) T28 hsz h1
  obtain ⟨t, rfl⟩ := (sh t1).th rfl
  obtain ⟨vs, e, hvs, _, hr⟩ : AggR W allFrz (.agg cs) 3 (encTh t) := by
    rcases a1 with h | h
    · exact h
    · cases h
  cases e
  obtain ⟨u0, u1, u2, rfl⟩ : ∃ u0 u1 u2, cs = #[u0, u1, u2] := by
    match cs, hsz with
    | ⟨[u0, u1, u2]⟩, _ => exact ⟨u0, u1, u2, rfl⟩
  obtain ⟨sb, rfl, hsb⟩ := rep_str (hr 0 _ _ rfl rfl)
  have r1 := hr 1 _ _ rfl rfl
  have r2 := hr 2 _ _ rfl rfl
  obtain ⟨A1, cap1, rfl, _⟩ := rep_sl r1
  obtain ⟨A2, cap2, rfl, _⟩ := rep_sl r2
  refine Th.puts_any (W0 := W) (t := t) (l := a) ⟨Below.refl _ _, allFrz, hG, fun p hp => ?_⟩ hsb
  simp only [List.mem_cons, List.not_mem_nil, or_false] at hp
  rcases hp with rfl | rfl | rfl
  · exact a0
  · exact r1
  · exact r2
end Go.Proofs.YtffojfcinkihnaaGreatDoor.Lat
