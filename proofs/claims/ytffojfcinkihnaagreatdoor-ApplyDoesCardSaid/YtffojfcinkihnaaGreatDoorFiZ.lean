/- apply.Fill: its contract. -/
import Derived.Test.YtffojfcinkihnaaGreatDoorFlZ
import Derived.Test.YtffojfcinkihnaaGreatDoorMO
import Derived.Test.YtffojfcinkihnaaGreatDoorMG
import Derived.RegionTactic
set_option linter.unusedVariables false
set_option linter.unusedSimpArgs false
set_option linter.unusedSectionVars false
set_option linter.deprecated false
set_option linter.unnecessarySimpa false
namespace Go.Proofs.YtffojfcinkihnaaGreatDoor.Lat.Fl
open Go.RowKit Go.Lib Go.Proofs.YtffojfcinkihnaaGreatDoor.Abs Go.Proofs.YtffojfcinkihnaaGreatDoor.Lat.Cp
section
variable (N : Int → Bs) (R : Bs → Bool) (hF : FirmOK N) (picks : List Int) (hl : picks.length ≤ 1073741824) (hr : ∀ p ∈ picks, in64 p) (bu bp B : Nat)
include hF hl hr
theorem fill_any : ∀ (n : Nat), n ≤ 1073741824 → ∀ (ts : List Tm) (v : Value) (w : World) (fp : List Nat) (u : Nat), szV ts ≤ n → OV w B v ts fp → fp.Nodup → rcL R ts = true → seL true ts = true → Pk picks bu bp fp u w →
      Calls Tryz.prog 78 #[.agg #[v], .func (.func 79) #[] #[.pointer (some ⟨bu, 0, none⟩), .pointer (some ⟨bp, 0, none⟩)]] w (FillPost N picks bu bp fp B v ts u w)
  | 0, hn, ts, v, w, fp, u, hs => fill_step N R hF picks hl hr bu bp B 0 hn (fun ts' v' w' fp' u' hs' => by omega) ts v w fp u hs
  | n + 1, hn, ts, v, w, fp, u, hs => fill_step N R hF picks hl hr bu bp B (n + 1) hn (fun ts' v' w' fp' u' hs' => fill_any n (by omega) ts' v' w' fp' u' (by omega)) ts v w fp u hs
end
/-- A call whose plain value is known. -/
theorem calls_plain {P : Program} {S : Abs.Sys} (hS : SysOK P S) {f : Nat} {l : List AV} {r : AV} (h : ωκ S f l = some r) {vs : Array Value} {fn : Func} {cd : Code} (hf : P.funcs[f]? = some fn) (hb : fn.body = some cd) (hnm : ¬ fn.name = "runtime.NumGoroutine") {w : World} {c : Cls} (hG : GOK S.τ w c)
    (hsz : vs.size = l.length) (hargs : ∀ (i : Nat) (v : Value) (a : AV), vs[i]? = some v → l[i]? = some a → ArgR w c v a) : Calls P f vs w fun e w' => ∃ v c', e = .returned v ∧ Ext w.heap.size w c w' c' ∧ ResR w.heap.size w' c' v r := by
  have hent : (callFunc f vs).run P w = .ok (.enter f vs) w := by simp [callFunc, hf, hnm, hb]
  rcases contract hS h w c vs hG hsz hargs with ⟨_, hc⟩ | ⟨v, w', hc, _⟩
  · exact hc.mono fun e w' ⟨v, he, c', hx, hr⟩ => ⟨v, c', he, hx, hr⟩
  · rw [hent] at hc; cases hc
theorem ext_below {w w' : World} {c c' : Cls} (h : Ext w.heap.size w c w' c') : Below w.heap.size w w' := ⟨h.os, h.tape, h.output, h.size, fun k hk => (h.old k hk hk).1⟩
theorem results_cct {P : Program} {fn : Func} {p q u : Tmp} {ty tq : TypeId} (h : fn.results = #[.cell p ty, .cell q tq, .tmp u]) (tmps : Array Value) (w : World) (g g2 : Nat) (t : TypeId) (cs : Array Value) (fr : Nat × Nat) (d : TypeDesc) (x : Value)
    (hp : tmps.getD p undef = .pointer (some ⟨g, 0, none⟩)) (hg : w.heap[g]? = some (.cells cs t fr))
    (hu : P.underlying ty = some d) (hd : (match d with | .struct _ | .array _ _ => true | _ => false) = true) (hi : (P.info? ty).map (·.size) = some cs.size)
    (hq : tmps.getD q undef = .pointer (some ⟨g2, 0, none⟩)) (hl : w.cell? ⟨g2, 0, none⟩ = some x) (hf : (isAgg tq).run P w = .ok false w) :
    (results fn tmps).run P w = .ok (.tuple #[.agg cs, x, tmps.getD u undef]) w := by
  have hp' : tmps[p]?.getD undef = .pointer (some ⟨g, 0, none⟩) := by simpa using hp
  have hq' : tmps[q]?.getD undef = .pointer (some ⟨g2, 0, none⟩) := by simpa using hq
  have l1 := run_loadVar_row w g t ty cs fr d hg hu hd hi
  have l2 : (loadVar tq ⟨g2, 0, none⟩).run P w = .ok x w := by
    simp only [loadVar, Sem.run_bind, hf, Result.andThen_ok, Bool.false_eq_true, if_false]
    exact run_load_cell hl
  simp [results, h, hp', hq', asAddr, l1, l2]
theorem isAgg3 (w : World) : (isAgg 3).run Tryz.prog w = .ok false w := by
  have := agg_of (w := w) (tabOK_of rfl tabs : TabOK Tryz.prog τ) (t := 3) (ti := ⟨.int .i64, 1, 8, [.int .i64 0]⟩) rfl
  exact this
/-- Four new blocks. -/
theorem four (w : World) (o1 o2 o3 o4 : Obj) : Below w.heap.size w ((((w.alloc o1).alloc o2).alloc o3).alloc o4) ∧ ((((w.alloc o1).alloc o2).alloc o3).alloc o4).heap.size = w.heap.size + 4 ∧
    ((((w.alloc o1).alloc o2).alloc o3).alloc o4).heap[w.heap.size]? = some o1 ∧ ((((w.alloc o1).alloc o2).alloc o3).alloc o4).heap[w.heap.size + 1]? = some o2 ∧
    ((((w.alloc o1).alloc o2).alloc o3).alloc o4).heap[w.heap.size + 1 + 1]? = some o3 ∧ ((((w.alloc o1).alloc o2).alloc o3).alloc o4).heap[w.heap.size + 1 + 1 + 1]? = some o4 := by
  refine ⟨((((Below.refl _ w).alloc (Nat.le_refl _) _).alloc (by simp) _).alloc (by simp <;> omega) _).alloc (by simp <;> omega) _, by simp, ?_, ?_, ?_, ?_⟩
  · rw [Below.heap_alloc _ _ _ (by simp <;> omega), Below.heap_alloc _ _ _ (by simp <;> omega), Below.heap_alloc _ _ _ (by simp <;> omega)]; exact heap_alloc_new w _
  · rw [Below.heap_alloc _ _ _ (by simp <;> omega), Below.heap_alloc _ _ _ (by simp <;> omega)]; exact heap_alloc2_new w _ _
  · rw [Below.heap_alloc _ _ _ (by simp <;> omega)]
    have := heap_alloc_new ((w.alloc o1).alloc o2) o3
    simpa using this
  · have := heap_alloc_new (((w.alloc o1).alloc o2).alloc o3) o4
    simpa using this
section
variable (N : Int → Bs) (R : Bs → Bool) (hF : FirmOK N)
  (hReady : ∀ (ts : List Tm) (v : Value) (w : World) (c : Cls), szV ts ≤ 1073741824 → Rep w c v (.sl 8 (encV ts)) → GOK τ w c → Calls Tryz.prog 77 #[.agg #[v]] w fun e w' => e = .returned (.bool (okV R ts && seL true ts)) ∧ Below w.heap.size w w')
include hF hReady
set_option maxHeartbeats 4000000 in
set_option maxRecDepth 100000 in
theorem Fill_any (picks : List Int) (hl : picks.length ≤ 1073741824) (hr : ∀ p ∈ picks, in64 p) (ts : List Tm) (v pv : Value) (w : World) (c : Cls) (hs : szV ts ≤ 1073741824) (hR : Rep w c v (.sl 8 (encV ts))) (hp : Rep w c pv (.sl 1 (picks.map fun n => [.int .i64 n]))) (hG : GOK τ w c) :
    Calls Tryz.prog 49 #[.agg #[v], pv] w fun e w' => Below w.heap.size w w' ∧
      ((okV R ts && seL true ts) = true ∧ (∃ v' fp u', e = .returned (.tuple #[.agg #[v'], .int .i64 ((u' : Nat) : Int), .int .i64 0]) ∧ OV w' w.heap.size v' (fiL N ts picks).1 fp ∧ (fiL N ts picks).2 = picks.drop u' ∧ u' ≤ picks.length) ∨
       (okV R ts && seL true ts) = false ∧ e = .returned (.tuple #[.agg #[.slice none 0 0], .int .i64 0, .int .i64 1])) := by
  have C1 := Lib.hid fun W (hB : Below w.heap.size w W) => hReady ts v W _ hs (hR.ext (Cp.ext_cut c hB)) (hG.ext (Cp.ext_cut c hB))
  have C2 := Lib.hid fun W (hB : Below w.heap.size w W) => copy_any 1073741824 (by decide) ts v W _ hs (hR.ext (Cp.ext_cut c hB))
  obtain ⟨bov, nv, capv, rfl⟩ : ∃ bo n cap, v = .slice bo n cap := by obtain ⟨bo, cap, h, _⟩ := rep_sl hR; exact ⟨_, _, _, h⟩
  obtain ⟨bop, capp, rfl, hpc, _, hp2⟩ := rep_sl hp
  rw [List.length_map] at hp2 hpc ⊢
  have hG' := Lib.hid hG
  have hR' := Lib.hid hR
  have hp2 := Lib.hid hp2
  clear hR hp hG
  cases hb : okV R ts && seL true ts with
  | false =>
    rw [hb] at C1
    go_enter Tryz.func49, Tryz.ntmps49
    go_wp2_with fail
    obtain ⟨hA, hAs, b0, b1, b2, b3⟩ := four w (.cells #[.slice bov nv capv] 25) (.cells #[.slice bop picks.length capp] 41) (.cells #[.slice none 0 0] 25) (.cells #[.int .i64 0] 3)
    refine (C1.out _ hA).mono ?_
    generalize ((((w.alloc (.cells #[.slice bov nv capv] 25)).alloc (.cells #[.slice bop picks.length capp] 41)).alloc (.cells #[.slice none 0 0] 25)).alloc (.cells #[.int .i64 0] 3)) = wA at *
    rintro e w1 ⟨rfl, hB1⟩
    have d2 := (hB1.block _ (blk_lt b2)).trans b2
    have d3 := (hB1.block _ (blk_lt b3)).trans b3
    have c2 : w1.cell? ⟨w.heap.size + 1 + 1, 0, none⟩ = some (.slice none 0 0) := by rw [cell_of d2]; rfl
    have c3 : w1.cell? ⟨w.heap.size + 1 + 1 + 1, 0, none⟩ = some (.int .i64 0) := by rw [cell_of d3]; rfl
    have z2 := frozen_of_row w1 (w.heap.size + 1 + 1) 0 _ _ d2
    have z3 := frozen_of_row w1 (w.heap.size + 1 + 1 + 1) 0 _ _ d3
    have hA' := Lib.hid hA
    have hB1' := Lib.hid hB1
    have d2' := Lib.hid d2
    have d3' := Lib.hid d3
    clear hA hB1 b0 b1 b2 b3 d2 d3
    go_wp2_with fail
    have e3 := heap_setCell_same (w1.setCell ⟨w.heap.size + 1 + 1, 0, none⟩ (.slice none 0 0)) (w.heap.size + 1 + 1 + 1) 0 _ _ (.int .i64 0) ((Below.heap_setCell w1 ⟨w.heap.size + 1 + 1, 0, none⟩ (.slice none 0 0) _ (by simp)).trans d3'.out)
    have e2 := (Below.heap_setCell (w1.setCell ⟨w.heap.size + 1 + 1, 0, none⟩ (.slice none 0 0)) ⟨w.heap.size + 1 + 1 + 1, 0, none⟩ (.int .i64 0) (w.heap.size + 1 + 1) (by simp)).trans (heap_setCell_same w1 (w.heap.size + 1 + 1) 0 _ _ (.slice none 0 0) d2'.out)
    refine bodyPost_ret (results_cct (g := w.heap.size + 1 + 1) (g2 := w.heap.size + 1 + 1 + 1) (cs := #[.slice none 0 0]) (fr := (0, 0)) (x := .int .i64 0) rfl _ _ _ _ rfl e2 Tryz.underlying25 rfl (by kernel_rfl) rfl (by rw [cell_of e3]; rfl) (isAgg3 _)) rfl ?_
    exact ⟨below_put (below_put (below_up hA'.out hB1'.out) (by omega) _) (by omega) _, .inr ⟨trivial, rfl⟩⟩
  | true =>
    rw [hb] at C1
    have hbb := hb
    rw [ok_is] at hbb
    simp only [Bool.and_eq_true] at hbb
    have hrc : rcL R ts = true := by
      have := hbb.1.2
      unfold rcV at this
      simp only [Bool.and_eq_true] at this
      exact this.1.1
    have CF := Lib.hid fun bu bp B w' v' fp' (hO : OV w' B v' ts fp') hnd hP => fill_any N R hF picks hl hr bu bp B 1073741824 (by decide) ts v' w' fp' 0 hs hO hnd hrc hbb.2 hP
    go_enter Tryz.func49, Tryz.ntmps49
    go_wp2_with fail
    obtain ⟨hA, hAs, b0, b1, b2, b3⟩ := four w (.cells #[.slice bov nv capv] 25) (.cells #[.slice bop picks.length capp] 41) (.cells #[.slice none 0 0] 25) (.cells #[.int .i64 0] 3)
    refine (C1.out _ hA).mono ?_
    generalize ((((w.alloc (.cells #[.slice bov nv capv] 25)).alloc (.cells #[.slice bop picks.length capp] 41)).alloc (.cells #[.slice none 0 0] 25)).alloc (.cells #[.int .i64 0] 3)) = wA at *
    rintro e w1 ⟨rfl, hB1⟩
    have a0 := (hB1.block _ (blk_lt b0)).trans b0
    have a1 := (hB1.block _ (blk_lt b1)).trans b1
    have a2 := (hB1.block _ (blk_lt b2)).trans b2
    have a3 := (hB1.block _ (blk_lt b3)).trans b3
    have c0 : w1.cell? ⟨w.heap.size, 0, none⟩ = some (.slice bov nv capv) := by rw [cell_of a0]; rfl
    have hA1 := Lib.hid (below_up hA hB1)
    have hz1 := Lib.hid (show w.heap.size + 4 ≤ w1.heap.size by have := hB1.size; omega)
    have a0' := Lib.hid a0
    have a1' := Lib.hid a1
    have a2' := Lib.hid a2
    have a3' := Lib.hid a3
    clear hA hAs hB1 b0 b1 b2 b3 a0 a1 a2 a3
    go_wp2_with fail
    refine (C2.out _ hA1.out).mono ?_
    rintro e w2 ⟨v', fp, rfl, hB2, hO, hnd⟩
    obtain ⟨bo', n', cap', rfl⟩ := ov_slice hO
    have d2 := (hB2.block _ (blk_lt a2'.out)).trans a2'.out
    have c2 : w2.cell? ⟨w.heap.size + 1 + 1, 0, none⟩ = some (.slice none 0 0) := by rw [cell_of d2]; rfl
    have z2 := frozen_of_row w2 (w.heap.size + 1 + 1) 0 _ _ d2
    have d2' := Lib.hid (heap_setCell_same w2 (w.heap.size + 1 + 1) 0 _ _ (.slice bo' n' cap') d2)
    have hB2' := Lib.hid hB2
    have hO' := Lib.hid hO
    clear d2 hB2 hO
    go_wp2_with fail
    have hz := hz1.out
    have hfp : ∀ q ∈ fp, w.heap.size + 4 ≤ q := fun q hq => Nat.le_trans hz (hO'.out.bd q hq).1
    have hwB : ∀ q, q ≠ w.heap.size + 1 + 1 → (w2.setCell ⟨w.heap.size + 1 + 1, 0, none⟩ (.slice bo' n' cap')).heap[q]? = w2.heap[q]? := fun q hq => Below.heap_setCell w2 _ _ q hq
    have hOB : OV (w2.setCell ⟨w.heap.size + 1 + 1, 0, none⟩ (.slice bo' n' cap')) w.heap.size (.slice bo' n' cap') ts fp := (hO'.out.frame fun q hq => hwB q (by have := hfp q hq; omega)).base (by omega)
    have hBB : Below w.heap.size w (w2.setCell ⟨w.heap.size + 1 + 1, 0, none⟩ (.slice bo' n' cap')) := below_put (below_up hA1.out hB2'.out) (by omega) _
    have hPk : Pk picks (w.heap.size + 1 + 1 + 1) (w.heap.size + 1) fp 0 (w2.setCell ⟨w.heap.size + 1 + 1, 0, none⟩ (.slice bo' n' cap')) := by
      refine ⟨Nat.zero_le _, ⟨3, (hwB _ (by omega)).trans ((hB2'.out.block _ (blk_lt a3'.out)).trans a3'.out)⟩, ⟨bop, capp, 41, (hwB _ (by omega)).trans ((hB2'.out.block _ (blk_lt a1'.out)).trans a1'.out), fun j n hj => ?_⟩, fun c => by have := hfp _ c; omega, fun c => by have := hfp _ c; omega⟩
      have hjl := (List.getElem?_eq_some_iff.1 hj).1
      obtain ⟨g, q, rfl, _, f, k1, _, k3⟩ := hp2.out (by omega)
      have k1 := k1 j 0 hjl (by decide)
      have k3 := rep_int (k3 j 0 [.int .i64 n] (.int .i64 n) (by rw [List.getElem?_map, hj]; rfl) rfl)
      rw [k3] at k1
      have hg := World.block_lt_of_cell? w _ k1
      refine ⟨⟨g, q, none⟩, rfl, ?_, (by show g ≠ _; have : g < w.heap.size := hg; omega), fun c => by have h1 : w.heap.size + 4 ≤ g := hfp g c; have h2 : g < w.heap.size := hg; omega⟩
      rw [add_none, cell_heap (w := w) (hBB.block g hg)]
      rw [show q + j = q + (j * 1 + 0) by omega]; exact k1
    have hCF := Lib.hid (CF.out _ _ _ _ _ _ hOB hnd hPk)
    have hBB := Lib.hid hBB
    have hB3 := Lib.hid (show (w2.setCell ⟨w.heap.size + 1 + 1, 0, none⟩ (.slice bo' n' cap')).heap[w.heap.size + 1 + 1]? = some (.cells #[.slice bo' n' cap'] 25 (0, 0)) from d2'.out)
    clear hOB hPk hwB
    generalize (w2.setCell ⟨w.heap.size + 1 + 1, 0, none⟩ (.slice bo' n' cap')) = wB at *
    refine hCF.out.mono ?_
    rintro e w3 ⟨rfl, hK, hO3, u', hu', hP3⟩
    obtain ⟨t3, e3⟩ := hP3.ct
    have e2 : w3.heap[w.heap.size + 1 + 1]? = some (.cells #[.slice bo' n' cap'] 25 (0, 0)) := (hK.block _ (blk_lt hB3.out) (fun c => by have := hfp _ c; omega) (by omega)).trans hB3.out
    have q2 : w3.cell? ⟨w.heap.size + 1 + 1, 0, none⟩ = some (.slice bo' n' cap') := by rw [cell_of e2]; rfl
    have q3 : w3.cell? ⟨w.heap.size + 1 + 1 + 1, 0, none⟩ = some (.int .i64 u') := by rw [cell_of e3]; rfl
    have y2 := frozen_of_row w3 (w.heap.size + 1 + 1) 0 _ _ e2
    have y3 := frozen_of_row w3 (w.heap.size + 1 + 1 + 1) 0 _ _ e3
    have e2' := Lib.hid e2
    have e3' := Lib.hid e3
    have hK' := Lib.hid hK
    have hO3' := Lib.hid hO3
    have hu'' := Lib.hid hu'
    have hP3' := Lib.hid hP3
    clear e2 e3 hK hO3 hu' hP3 c0 c2 z2
    go_wp2_with fail
    go_region
    go_wp2_with fail
    have f3 := heap_setCell_same (w3.setCell ⟨w.heap.size + 1 + 1, 0, none⟩ (.slice bo' n' cap')) (w.heap.size + 1 + 1 + 1) 0 _ _ (.int .i64 u') ((Below.heap_setCell w3 ⟨w.heap.size + 1 + 1, 0, none⟩ (.slice bo' n' cap') _ (by simp)).trans e3'.out)
    have f2 := (Below.heap_setCell (w3.setCell ⟨w.heap.size + 1 + 1, 0, none⟩ (.slice bo' n' cap')) ⟨w.heap.size + 1 + 1 + 1, 0, none⟩ (.int .i64 u') (w.heap.size + 1 + 1) (by simp)).trans (heap_setCell_same w3 (w.heap.size + 1 + 1) 0 _ _ (.slice bo' n' cap') e2'.out)
    have hBe : Below w.heap.size w ((w3.setCell ⟨w.heap.size + 1 + 1, 0, none⟩ (.slice bo' n' cap')).setCell ⟨w.heap.size + 1 + 1 + 1, 0, none⟩ (.int .i64 u')) := by
      refine below_put (below_put ⟨hK'.out.os.trans hBB.out.os, hK'.out.tape.trans hBB.out.tape, hK'.out.output.trans hBB.out.output, Nat.le_trans hBB.out.size hK'.out.size, fun q hq => ?_⟩ (by omega) _) (by omega) _
      exact (hK'.out.block q (Nat.lt_of_lt_of_le hq hBB.out.size) (fun c => by have := hfp _ c; omega) (by omega)).trans (hBB.out.block q hq)
    have hOe : OV ((w3.setCell ⟨w.heap.size + 1 + 1, 0, none⟩ (.slice bo' n' cap')).setCell ⟨w.heap.size + 1 + 1 + 1, 0, none⟩ (.int .i64 u')) w.heap.size (.slice bo' n' cap') (fiL N ts picks).1 fp := hO3'.out.frame fun q hq => by
      have := hfp q hq
      rw [Below.heap_setCell _ _ _ q (by show q ≠ w.heap.size + 1 + 1 + 1; omega), Below.heap_setCell _ _ _ q (by show q ≠ w.heap.size + 1 + 1; omega)]
    generalize ((w3.setCell ⟨w.heap.size + 1 + 1, 0, none⟩ (.slice bo' n' cap')).setCell ⟨w.heap.size + 1 + 1 + 1, 0, none⟩ (.int .i64 u')) = w5 at *
    refine bodyPost_ret (results_cct (g := w.heap.size + 1 + 1) (g2 := w.heap.size + 1 + 1 + 1) (cs := #[.slice bo' n' cap']) (fr := (0, 0)) (x := .int .i64 u') rfl _ _ _ _ rfl f2 Tryz.underlying25 rfl (by kernel_rfl) rfl (by rw [show w5.drew.cell? ⟨w.heap.size + 1 + 1 + 1, 0, none⟩ = w5.cell? ⟨w.heap.size + 1 + 1 + 1, 0, none⟩ from rfl, cell_of f3]; rfl) (isAgg3 _)) rfl ?_
    refine ⟨⟨hBe.os, hBe.tape, hBe.output, hBe.size, hBe.block⟩, .inl ⟨trivial, _, fp, u', rfl, hOe.frame fun _ _ => rfl, hu''.out, hP3'.out.hu⟩⟩
end
end Go.Proofs.YtffojfcinkihnaaGreatDoor.Lat.Fl
