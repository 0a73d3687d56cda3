/- What the rows' listed variables give the walks; a slice of strings opened. -/
import Derived.Test.YteonbgknmpobpaaDoorNH
import Derived.Test.YteonbgknmpobpaaDoorRows
import Derived.Deep.DeepHandedRow
import Derived.Lib.LaidU8
import Derived.ProofKit
import Derived.SliceStrings
import Derived.MakeChecks
namespace Go.Proofs.YteonbgknmpobpaaDoor.NI
open Go.ChangeShapes Go.WideShapes Go.ChangeAt Go.RowKit Go.Proofs.YteonbgknmpobpaaDoorW.PrintWords
open Go.Proofs.YteonbgknmpobpaaDoor.NW Go.Proofs.YteonbgknmpobpaaDoor.NP Go.Proofs.YteonbgknmpobpaaDoor.NF Go.Proofs.YteonbgknmpobpaaDoor.NG
set_option linter.unusedVariables false

/-- A variable that is an array of texts, and reads as these, holds these. -/
theorem strTable {P : Program} {w : World} {n : String} {g : Nat} {t e : TypeId} {N : Nat} {l : List (List UInt8)}
    (h : Lib.VarReads P w n (.agg (l.map fun b => .lit (.string b)))) (hg : P.globalNamed n = some g) (hy : (P.globals[g]?).map (·.type) = some t) (ht : P.underlying t = some (.array N e)) (he : P.underlying e = some .string) (hc : P.cellsOf e = 1) (hct : P.cellsOf t = N) :
    ∃ ty fr, w.heap[g]? = some (.cells (l.map fun b => Value.string ⟨b.toArray⟩).toArray ty fr) := by
  obtain ⟨g', t', cs, fuel, p, h1, h2, h3, h4⟩ := h
  obtain rfl := Option.some.inj (hg.symm.trans h1)
  obtain rfl := Option.some.inj (hy.symm.trans h2)
  obtain ⟨xs, m, rfl, hx, hl, hxl, hel⟩ := DataW.trod_array ht h4
  have hxs : xs.map (·.1) = l.map fun b => (.lit (.string b) : DataW Unit) := (DataW.agg.inj (Prod.mk.inj hx).1).symm
  have hll : l.length = N := by
    have := congrArg List.length hxs
    simp at this
    omega
  rw [hct] at hl
  have hcs : cs.toList = l.map fun b => Value.string ⟨b.toArray⟩ := by
    apply List.ext_getElem?
    intro i
    by_cases hi : i < N
    · have hE := hel i hi
      rw [hc, Nat.mul_one, List.getElem?_eq_getElem (by omega)] at hE
      obtain ⟨s, e1, e2, _⟩ := DataW.trod_string he hE
      have e4 : (xs.map (·.1))[i]? = (l.map fun b => (.lit (.string b) : DataW Unit))[i]? := by rw [hxs]
      rw [List.getElem?_map, List.getElem?_map, List.getElem?_eq_getElem (by omega : i < xs.length), List.getElem?_eq_getElem (by omega : i < l.length), e2] at e4
      simp only [Option.map_some, Option.some.injEq, DataW.lit.injEq, Lit.string.injEq] at e4
      have e5 : cs.toList[i]? = some (.string s) := by
        have h0 : ((cs.toList.drop i).take 1)[0]? = some (.string s) := by rw [e1]; rfl
        simpa using h0
      rw [e5, List.getElem?_map, List.getElem?_eq_getElem (by omega : i < l.length), ← e4]
      simp
    · rw [List.getElem?_eq_none (by omega), List.getElem?_eq_none (by simp; omega)]
  unfold World.var? at h3
  rw [hg] at h3
  simp only [Option.bind_some] at h3
  split at h3
  · rename_i c ty fr hh
    obtain rfl := Option.some.inj h3
    exact ⟨ty, fr, by rw [hh, ← hcs]⟩
  · cases h3

theorem words_of {w : World} (h : Lib.VarReads Tryd.prog w "treillage/name.words" Rows.laid_treillage_name_words) : WordsAt w :=
  strTable (t := 64) (e := 9) (N := 9) (l := [[97, 110, 121], [98, 111, 111, 108], [99, 111, 109, 112, 117, 116, 101, 100], [102, 97, 108, 115, 101], [105, 110, 116], [110, 111, 110, 101], [114, 101, 115, 111, 117, 114, 99, 101], [115, 116, 114, 105, 110, 103], [116, 114, 117, 101]]) h (by kernel_rfl) (by kernel_rfl) Tryd.underlying64 Tryd.underlying9 (by kernel_rfl) (by kernel_rfl)
theorem max_of {w : World} (h : w.ShapedOpen Tryd.prog) : ∃ m, w.cell? ⟨2, 0, none⟩ = some (.int .i64 m) := Tryd.laysM146.s1_3 w h

theorem weightsAll_strs {H : Type} {P : Program} {e : TypeId} : ∀ (l : List B) (s : B), s ∈ l → s.data.toList.length ∈ DataW.weightsAll P e (strs (H := H) l)
  | [], s, h => by cases h
  | x :: r, s, h => by
    have ih := weightsAll_strs (H := H) (P := P) (e := e) r s
    unfold strs at ih ⊢
    rw [List.map_cons, DataW.weightsAll, List.mem_append]
    rcases List.mem_cons.1 h with rfl | h
    · exact .inl (by simp [DataW.weights])
    · exact .inr (ih h)
/-- A slice of strings that came in. -/
theorem in_of {H : Type} {enc : TypeId × Value → H} {W : World} {base : Nat} {sp : Nat → Bool} {held : Bool} {a : Option Addr} {len cap : Nat} {d : DataW H} {p : List MemPlace} {ts : List TypeId} {ds : List (DataW H)} {j : Nat}
    (hsz : (DataW.weightsEach Tryd.prog ts ds).all (· ≤ reachBytes) = true) (ht : ts[j]? = some 42) (hd : ds[j]? = some d)
    (h : DataW.Trod enc Tryd.prog W base sp held 42 (.slice a len cap) d p) : ∃ l : List B, len = l.length ∧ In W a cap l := by
  obtain ⟨fuel, hf⟩ := h
  rcases open_strings Tryd.underlying42 Tryd.underlying9 (by kernel_rfl) hf with ⟨hcs, _⟩ | ⟨x, l, c, ss, hcs, _, hl, hm, hz, hx, hcell, _⟩
  · simp [Value.cells] at hcs
    obtain ⟨rfl, rfl, rfl⟩ := hcs
    exact ⟨[], rfl, ⟨nil_reads _, Nat.le_refl _, by simp, fun i hi => by simp at hi⟩⟩
  · simp [Value.cells] at hcs
    obtain ⟨rfl, rfl, rfl⟩ := hcs
    have hll : len ≤ ss.length := by rw [hz]; split <;> omega
    obtain ⟨rfl, _⟩ := Prod.mk.inj hx
    have hr := reachBytes_lt
    have hlen := sized_slice hsz ht hd Tryd.underlying42
    have hb : Tryd.prog.bytesOf 9 = 16 := by kernel_rfl
    rw [hb] at hlen
    have hlen2 : len ≤ reachBytes := by
      have : (strs (H := H) (ss.take len)).length = len := by unfold strs; rw [List.length_map, List.length_take]; omega
      omega
    refine ⟨ss.take len, by rw [List.length_take]; omega, ⟨?_, by rw [List.length_take]; omega, by rw [List.length_take]; omega, ?_⟩⟩
    · refine ⟨rfl, by rw [List.length_take]; omega, fun _ => ⟨x, rfl, fun j hj => ?_⟩⟩
      rw [List.length_take] at hj
      rw [hcell j (by omega)]
      rw [List.getD_eq_getElem?_getD, List.getD_eq_getElem?_getD, List.getElem?_take, if_pos (by omega)]
    · intro i hi
      have hm : nth (ss.take len) i ∈ ss.take len := by
        rw [Go.Proofs.YteonbgknmpobpaaDoor.NC.nth_get _ i hi]
        exact List.getElem_mem hi
      generalize nth (ss.take len) i = s at hm
      have hw := weightsAll_strs (H := H) (P := Tryd.prog) (e := 9) _ s hm
      have := List.all_eq_true.1 hsz _ (DataW.weights_mem_each ht hd s.data.toList.length (by
        simp only [DataW.weights, Tryd.underlying42, List.mem_cons, List.mem_append]
        exact .inr (.inl hw)))
      have h2 : s.data.toList.length ≤ reachBytes := by simpa using this
      rw [Go.Proofs.YteonbgknmpobpaaDoor.NR.sizeL] at h2
      omega
theorem gl_of {w : World} {r : OpenClaim} (hr : r.laid = Rows.nameRightsRow.laid) (h : laidMetH Tryd.prog r.laid w) (hs : w.ShapedOpen Tryd.prog) : Gl w := by
  rw [hr, MakeChecks.laidMetH_plain _ _ _ (by kernel_rfl)] at h
  exact ⟨words_of (Lib.laidMet.reads h (.tail _ (.head _))), max_of hs⟩
theorem rights_row (a : B) (A : Option Addr) (c : Nat) (l : List B) (W : World) (hG : Gl W) (ha : a.size ≤ 140737488351232) (hi : In W A c l) : Calls Tryd.prog 6 #[.string a, .slice A l.length c] W fun e w' => e = .returned (.bool true) ∧ Below W.heap.size W w' := rights_any a A c l W hG hi
theorem splits_row (a : B) (A : Option Addr) (c : Nat) (l : List B) (W : World) (hG : Gl W) (ha : a.size ≤ 140737488351232) (hi : In W A c l) : Calls Tryd.prog 7 #[.string a, .slice A l.length c] W fun e w' => e = .returned (.bool true) ∧ Below W.heap.size W w' := splits_any a A c l W hG hi
theorem back_row (a : B) (A : Option Addr) (c : Nat) (l : List B) (W : World) (hG : Gl W) (ha : a.size ≤ 140737488351232) (hi : In W A c l) : Calls Tryd.prog 8 #[.string a, .slice A l.length c] W fun e w' => e = .returned (.bool true) ∧ Below W.heap.size W w' := Go.Proofs.YteonbgknmpobpaaDoor.NH.back_any a A c l W hG hi
end Go.Proofs.YteonbgknmpobpaaDoor.NI
