/- Several texts of mine in one (merge.py). -/
import Derived.Test.YteonbgknmpobpaaDoorTokC
import Derived.Test.YteonbgknmpobpaaDoorNW
import Derived.Test.YteonbgknmpobpaaDoorRows
import Derived.Deep.DeepHandedRow
import Derived.Lib.LaidU8
import Derived.ProofKit
import Derived.SliceStrings
import Derived.MakeChecks
/- The law TokenNext: what it returns. -/
namespace Go.Proofs.YteonbgknmpobpaaDoor.TX
open Go.RowKit Go.Proofs.YteonbgknmpobpaaDoorW.PrintWords Go.Proofs.YteonbgknmpobpaaDoorW.PrintLast Go.Proofs.YteonbgknmpobpaaDoorW.PrintMore
open Go.Proofs.YteonbgknmpobpaaDoor Go.Proofs.YteonbgknmpobpaaDoor.PTokenLex
open Go.Proofs.YteonbgknmpobpaaDoor.TM (R6 E zeroT blk_dr tokV)
open Go.Proofs.YteonbgknmpobpaaDoor.TP (GT nextV)
open Go.Proofs.YteonbgknmpobpaaDoor.TQ (below_on tok_call)
open Go.Proofs.YteonbgknmpobpaaDoor.TT (refNext_is)
open Go.Proofs.YteonbgknmpobpaaDoor.TU Go.Proofs.YteonbgknmpobpaaDoor.TV Go.Proofs.YteonbgknmpobpaaDoor.TW
set_option linter.unusedVariables false

theorem refNext_any (s : B) (i : Int) (w : World) (hs : s.size ≤ 140737488351232) {k n : Int} {t : B} {p nx er : Int} (h : nextV s i = (k, n, t, p, nx, er)) :
    Calls Tryd.prog 11 #[.string s, .int .i64 i] w fun e w' => e = .returned (.tuple #[.agg #[.int .i64 k, .int .i64 n, .string t, .int .i64 p], .int .i64 nx, .int .i64 er]) ∧ Below w.heap.size w w' :=
  treillageref12_Next.calls (4 * s.size + 100) s i k n t p nx er w ((refNext_is s hs i _ (Nat.le_refl _)).trans (by rw [h]))
theorem like_any (k n : Int) (t : B) (p : Int) (w : World) : Calls Tryd.prog 12 #[.agg #[.int .i64 k, .int .i64 n, .string t, .int .i64 p], .agg #[.int .i64 k, .int .i64 n, .string t, .int .i64 p]] w fun e w' => e = .returned (.bool true) ∧ Below w.heap.size w w' :=
  treillagelaw12_like.calls k n t p k n t p true w (by simp [treillagelaw12_like.f])
/-- A token's four stores into a block of the call's own. -/
theorem put28 {W : World} {g : Nat} {K N A : Int} {T : B} (h : W.heap[g]? = some (.cells zeroT 28 (0, 0))) :
    ((((W.setCell ⟨g, 0, none⟩ (.int .i64 K)).setCell ⟨g, 1, none⟩ (.int .i64 N)).setCell ⟨g, 2, none⟩ (.string T)).setCell ⟨g, 3, none⟩ (.int .i64 A)).heap[g]? = some (.cells #[.int .i64 K, .int .i64 N, .string T, .int .i64 A] 28 (0, 0)) := by
  refine blk_put (cs := #[.int .i64 K, .int .i64 N, .string T, .int .i64 0]) ?_ 3 _ rfl
  refine blk_put (cs := #[.int .i64 K, .int .i64 N, .string E, .int .i64 0]) ?_ 2 _ rfl
  refine blk_put (cs := #[.int .i64 K, .int .i64 0, .string E, .int .i64 0]) ?_ 1 _ rfl
  exact blk_put h 0 _ rfl
theorem blk_far4 {W : World} {g a : Nat} {o : Obj} {v0 v1 v2 v3 : Value} (h : W.heap[a]? = some o) (hne : g ≠ a) :
    ((((W.setCell ⟨g, 0, none⟩ v0).setCell ⟨g, 1, none⟩ v1).setCell ⟨g, 2, none⟩ v2).setCell ⟨g, 3, none⟩ v3).heap[a]? = some o := by
  rw [Below.heap_setCell _ _ _ _ (fun e => hne e.symm), Below.heap_setCell _ _ _ _ (fun e => hne e.symm), Below.heap_setCell _ _ _ _ (fun e => hne e.symm), Below.heap_setCell _ _ _ _ (fun e => hne e.symm)]
  exact h
structure Full (W : World) (g : Nat) (k n : Int) (t : B) (p : Int) : Prop where
  c0 : W.cell? ⟨g, 0, none⟩ = some (.int .i64 k)
  c1 : W.cell? ⟨g, 1, none⟩ = some (.int .i64 n)
  c2 : W.cell? ⟨g, 2, none⟩ = some (.string t)
  c3 : W.cell? ⟨g, 3, none⟩ = some (.int .i64 p)
theorem full_of {W : World} {g : Nat} {ty : TypeId} {k n p : Int} {t : B} (h : W.heap[g]? = some (.cells #[.int .i64 k, .int .i64 n, .string t, .int .i64 p] ty (0, 0))) : Full W g k n t p :=
  ⟨(blk_cell h 0).trans rfl, (blk_cell h 1).trans rfl, (blk_cell h 2).trans rfl, (blk_cell h 3).trans rfl⟩
structure Zero4 (W : World) (g : Nat) : Prop where
  c0 : W.cell? ⟨g, 0, none⟩ = some (.int .i64 0)
  c1 : W.cell? ⟨g, 1, none⟩ = some (.int .i64 0)
  c2 : W.cell? ⟨g, 2, none⟩ = some (.string E)
  c3 : W.cell? ⟨g, 3, none⟩ = some (.int .i64 0)
  f0 : W.frozen? ⟨g, 0, none⟩ = false
  f1 : W.frozen? ⟨g, 1, none⟩ = false
  f2 : W.frozen? ⟨g, 2, none⟩ = false
  f3 : W.frozen? ⟨g, 3, none⟩ = false
theorem zero4 {W : World} {g : Nat} {ty : TypeId} (h : W.heap[g]? = some (.cells zeroT ty (0, 0))) : Zero4 W g :=
  ⟨(blk_cell h 0).trans rfl, (blk_cell h 1).trans rfl, (blk_cell h 2).trans rfl, (blk_cell h 3).trans rfl, blk_frozen h 0, blk_frozen h 1, blk_frozen h 2, blk_frozen h 3⟩
set_option maxHeartbeats 4000000 in
set_option maxRecDepth 100000 in
theorem law_any (s : B) (i : Int) (w : World) (hG : GT w) (hs : s.size ≤ 140737488351232) : Calls Tryd.prog 3 #[.string s, .int .i64 i] w fun e w' => e = .returned (.bool true) ∧ Below w.heap.size w w' := by
  have CA := Lib.hid fun wx (h : Below w.heap.size w wx) => awake_any wx (hG.below h)
  by_cases h8 : 800 < s.size
  · have hd : decide (800 < (s.size : Int)) = true := decide_eq_true (by omega)
    have C0 := Lib.hid (CA.out w (Below.refl _ _))
    clear h8
    go_enter Tryd.func3, Tryd.ntmps3
    go_wp2_with fail
    refine C0.out.mono ?_
    rintro e w1 ⟨rfl, hB⟩
    have HB := Lib.hid hB
    clear hB
    go_wp2_with fail
    go_ret
    exact ⟨rfl, HB.out⟩
  · have hd : decide (800 < (s.size : Int)) = false := decide_eq_false (by omega)
    obtain ⟨⟨k, n, t, p, nx, er⟩, hr⟩ : ∃ r, nextV s i = r := ⟨_, rfl⟩
    have C1 := Lib.hid (tok_call (next_any s i w hG hs) k n t p nx er hr)
    have C2 := Lib.hid fun wx => refNext_any s i wx hs hr
    have C3 := Lib.hid fun wx => like_any k n t p wx
    clear h8 hr hG
    go_enter Tryd.func3, Tryd.ntmps3
    go_wp2_with fail
    refine C1.out.mono ?_
    rintro e w1 ⟨rfl, hB⟩
    have HB := Lib.hid hB
    clear hB
    go_wp2_with ((with_reducible refine gate_dst (N := 5) rfl ?_); refine box_event ?hg (N := 5) ?hd (cs := zeroT) (t := 24) ?hr ?_; (case hd => rfl); (case hg => rfl); (case hr => first | (go_simp; done) | (go_simp; rfl)); intro ga hg w2 hbox hb; have BA := Lib.hid hbox; have GA := Lib.hid (Nat.le_trans (below_size HB.out) (Nat.le_of_eq hg.symm)); have HB2 := Lib.hid (below_on HB.out hb); obtain ⟨c0, c1, c2, c3, f0, f1, f2, f3⟩ := zero4 hbox; clear hg hbox hb)
    have BA2 := Lib.hid (TM.tok_put (K := k) (N := n) (T := t) (A := p) BA.out)
    have HB3 := Lib.hid (TM.put_below (v0 := .int .i64 k) (v1 := .int .i64 n) (v2 := .string t) (v3 := .int .i64 p) HB2.out GA.out)
    clear c0 c1 c2 c3 f0 f1 f2 f3 BA HB2
    refine (C2.out _).mono ?_
    rintro e w3 ⟨rfl, hB⟩
    have BA3 := Lib.hid (blk_below BA2.out hB)
    have HB4 := Lib.hid (below_on HB3.out hB)
    clear hB BA2 HB3
    go_wp2_with ((with_reducible refine gate_dst (N := 8) rfl ?_); refine box_event ?hg (N := 8) ?hd (cs := zeroT) (t := 28) ?hr ?_; (case hd => rfl); (case hg => rfl); (case hr => first | (go_simp; done) | (go_simp; rfl)); intro gc hg w4 hbox hb; have BC := Lib.hid hbox; have GC := Lib.hid (Nat.le_trans (below_size HB4.out) (Nat.le_of_eq hg.symm)); have HB5 := Lib.hid (below_on HB4.out hb); have BA4 := Lib.hid (blk_below BA3.out hb); have hne : gc ≠ ga := (by intro e; rw [e] at hbox; rw [blk_below BA3.out hb] at hbox; injection hbox with hbox; injection hbox with _ ht _; exact absurd ht (by decide)); have HNE := Lib.hid hne; obtain ⟨c0, c1, c2, c3, f0, f1, f2, f3⟩ := zero4 hbox; clear hg hbox hb hne)
    have BC2 := Lib.hid (put28 (K := k) (N := n) (T := t) (A := p) BC.out)
    have HB6 := Lib.hid (TM.put_below (v0 := .int .i64 k) (v1 := .int .i64 n) (v2 := .string t) (v3 := .int .i64 p) HB5.out GC.out)
    have BA5 := Lib.hid (blk_far4 (v0 := .int .i64 k) (v1 := .int .i64 n) (v2 := .string t) (v3 := .int .i64 p) BA4.out HNE.out)
    clear c0 c1 c2 c3 f0 f1 f2 f3 BC HB5 BA4
    refine (CA.out _ HB6.out).mono ?_
    rintro e w5 ⟨rfl, hB⟩
    obtain ⟨a0, a1, a2, a3⟩ := full_of (blk_below BA5.out hB)
    obtain ⟨b0, b1, b2, b3⟩ := full_of (blk_below BC2.out hB)
    have HB7 := Lib.hid (below_on HB6.out hB)
    clear hB BA5 BC2 HB6
    go_wp2_with fail
    refine (C3.out _).mono ?_
    rintro e w6 ⟨rfl, hB⟩
    have HB8 := Lib.hid (below_on HB7.out hB)
    clear hB
    go_wp2_with fail
    go_ret
    exact ⟨by simp, HB8.out⟩
end Go.Proofs.YteonbgknmpobpaaDoor.TX
/- A listed variable that is an array of texts. -/
namespace Go.Proofs.YteonbgknmpobpaaDoor.NJ
open Go.ChangeShapes Go.WideShapes Go.ChangeAt Go.RowKit Go.Proofs.YteonbgknmpobpaaDoorW.PrintWords
open Go.Proofs.YteonbgknmpobpaaDoor.NW
set_option linter.unusedVariables false

/-- A variable that is an array of texts, and reads as these, holds these. -/
theorem strTable {P : Program} {w : World} {n : String} {g : Nat} {t e : TypeId} {N : Nat} {l : List (List UInt8)}
    (h : Lib.VarReads P w n (.agg (l.map fun b => .lit (.string b)))) (hg : P.globalNamed n = some g) (hy : (P.globals[g]?).map (·.type) = some t) (ht : P.underlying t = some (.array N e)) (he : P.underlying e = some .string) (hc : P.cellsOf e = 1) (hct : P.cellsOf t = N) :
    ∃ ty fr, w.heap[g]? = some (.cells (l.map fun b => Value.string ⟨b.toArray⟩).toArray ty fr) := by
  obtain ⟨g', t', cs, fuel, p, h1, h2, h3, h4⟩ := h
  obtain rfl := Option.some.inj (hg.symm.trans h1)
  obtain rfl := Option.some.inj (hy.symm.trans h2)
  obtain ⟨xs, m, rfl, hx, hl, hxl, hel⟩ := DataW.trod_array ht h4
  have hxs : xs.map (·.1) = l.map fun b => (.lit (.string b) : DataW Unit) := (DataW.agg.inj (Prod.mk.inj hx).1).symm
  have hll : l.length = N := by
    have := congrArg List.length hxs
    simp at this
    omega
  rw [hct] at hl
  have hcs : cs.toList = l.map fun b => Value.string ⟨b.toArray⟩ := by
    apply List.ext_getElem?
    intro i
    by_cases hi : i < N
    · have hE := hel i hi
      rw [hc, Nat.mul_one, List.getElem?_eq_getElem (by omega)] at hE
      obtain ⟨s, e1, e2, _⟩ := DataW.trod_string he hE
      have e4 : (xs.map (·.1))[i]? = (l.map fun b => (.lit (.string b) : DataW Unit))[i]? := by rw [hxs]
      rw [List.getElem?_map, List.getElem?_map, List.getElem?_eq_getElem (by omega : i < xs.length), List.getElem?_eq_getElem (by omega : i < l.length), e2] at e4
      simp only [Option.map_some, Option.some.injEq, DataW.lit.injEq, Lit.string.injEq] at e4
      have e5 : cs.toList[i]? = some (.string s) := by
        have h0 : ((cs.toList.drop i).take 1)[0]? = some (.string s) := by rw [e1]; rfl
        simpa using h0
      rw [e5, List.getElem?_map, List.getElem?_eq_getElem (by omega : i < l.length), ← e4]
      simp
    · rw [List.getElem?_eq_none (by omega), List.getElem?_eq_none (by simp; omega)]
  unfold World.var? at h3
  rw [hg] at h3
  simp only [Option.bind_some] at h3
  split at h3
  · rename_i c ty fr hh
    obtain rfl := Option.some.inj h3
    exact ⟨ty, fr, by rw [hh, ← hcs]⟩
  · cases h3

theorem words_of {w : World} (h : Lib.VarReads Tryd.prog w "treillage/name.words" Rows.laid_treillage_name_words) : WordsAt w :=
  strTable (t := 64) (e := 9) (N := 9) (l := [[97, 110, 121], [98, 111, 111, 108], [99, 111, 109, 112, 117, 116, 101, 100], [102, 97, 108, 115, 101], [105, 110, 116], [110, 111, 110, 101], [114, 101, 115, 111, 117, 114, 99, 101], [115, 116, 114, 105, 110, 103], [116, 114, 117, 101]]) h (by kernel_rfl) (by kernel_rfl) Tryd.underlying64 Tryd.underlying9 (by kernel_rfl) (by kernel_rfl)
end Go.Proofs.YteonbgknmpobpaaDoor.NJ
/- What the token rows' listed variables give; the walk as the row asks for it. -/
namespace Go.Proofs.YteonbgknmpobpaaDoor.TY
open Go.ChangeShapes Go.WideShapes Go.ChangeAt Go.RowKit Go.Proofs.YteonbgknmpobpaaDoorW.PrintWords
open Go.Proofs.YteonbgknmpobpaaDoor Go.Proofs.YteonbgknmpobpaaDoor.TP
set_option linter.unusedVariables false

theorem signs_of {w : World} (h : Lib.VarReads Tryd.prog w "treillage/token.signs" Rows.laid_treillage_token_signs) : SignsAt w :=
  NJ.strTable (t := 57) (e := 9) (N := 15) (l := [[46, 46, 46], [62, 61], [60, 61], [58], [59], [123], [125], [40], [41], [38], [124], [43], [45], [42], [46]]) h (by kernel_rfl) (by kernel_rfl) Tryd.underlying57 Tryd.underlying9 (by kernel_rfl) (by kernel_rfl)
theorem gt_of {w : World} {r : OpenClaim} (hr : r.laid = Rows.tokenNextRow.laid) (h : laidMetH Tryd.prog r.laid w) (hs : w.ShapedOpen Tryd.prog) : GT w := by
  rw [hr, MakeChecks.laidMetH_plain _ _ _ (by kernel_rfl)] at h
  exact ⟨NJ.words_of (Lib.laidMet.reads h (.head _)), signs_of (Lib.laidMet.reads h (.tail _ (.head _)))⟩
theorem next_row (s : ByteArray) (i : Int) (W : World) (hG : GT W) (hs : s.size ≤ 140737488351232) (hi : (Lit.int .i64 i).wf = true) : Calls Tryd.prog 3 #[.string s, .int .i64 i] W fun e w' => e = .returned (.bool true) ∧ Below W.heap.size W w' := TX.law_any s i W hG hs
end Go.Proofs.YteonbgknmpobpaaDoor.TY
