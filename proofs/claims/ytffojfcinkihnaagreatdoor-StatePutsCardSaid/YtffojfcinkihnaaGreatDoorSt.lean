/- lat.settle of one term. -/
import Derived.Test.YtffojfcinkihnaaGreatDoorCpZ
import Derived.Test.YtffojfcinkihnaaGreatDoorLC
import Derived.Test.YtffojfcinkihnaaGreatDoorSh
import Derived.Maps.AppendAt
import Derived.LoopN
import Derived.WalkMore
import Derived.OwnWalk
set_option linter.unusedVariables false
set_option linter.unusedSimpArgs false
set_option linter.unusedSectionVars false
set_option linter.deprecated false
set_option linter.unnecessarySimpa false
namespace Go.Proofs.YtffojfcinkihnaaGreatDoor.Lat.St
open Go.RowKit Go.Lib Go.Proofs.YtffojfcinkihnaaGreatDoor.Abs Go.Proofs.YtffojfcinkihnaaGreatDoor.Lat Go.Proofs.YtffojfcinkihnaaGreatDoor.Lat.Cp
set_option linter.unusedVariables false
theorem ins1 (w : World) (v : Value) (f : Value) : Calls Tryz.prog 202 #[v, .int .i64 0, .int .i64 1, f] w fun e w' => e = .returned (.tuple #[]) ∧ w' = w := by
  go_enter Tryz.func202, Tryz.ntmps202
  go_wp2_with fail
  refine wp_loop_rounds 1 ?_
  rw [rounds_succ]; go_wp2_with fail
  go_end0
  exact ⟨rfl, rfl⟩
theorem pdq1 (w : World) (v : Value) (f : Value) (n : Int) : Calls Tryz.prog 182 #[v, .int .i64 0, .int .i64 1, .int .i64 n, f] w fun e w' => e = .returned (.tuple #[]) ∧ w' = w := by
  have C := Lib.hid (ins1 w v f)
  go_enter Tryz.func182, Tryz.ntmps182
  go_wp2_with fail
  refine wp_loop_rounds 1 ?_
  rw [rounds_succ]; go_wp2_with fail
  refine C.out.mono ?_
  rintro e w' ⟨rfl, rfl⟩
  go_wp2_with fail
  refine bodyPost_ret (results_none rfl _ _ _) rfl ?_
  exact ⟨rfl, rfl⟩
theorem sort1 (w : World) (A : Option Addr) (cap : Nat) (f : Value) : Calls Tryz.prog 163 #[.slice A 1 cap, f] w fun e w' => e = .returned (.tuple #[]) ∧ w' = w := by
  have CL := Lib.hid (Any.bits_Len Tryz.laysLen 1 w (by omega) (by omega))
  have CP := Lib.hid fun n => pdq1 w (.slice A 1 cap) f n
  go_enter Tryz.func163, Tryz.ntmps163
  go_wp2_with fail
  refine CL.out.mono ?_
  rintro e w' ⟨rfl, rfl⟩
  go_wp2_with fail
  refine (CP.out _).mono ?_
  rintro e w' ⟨rfl, rfl⟩
  go_wp2_with fail
  go_end0
  exact ⟨rfl, rfl⟩
theorem compact1 (w : World) (A : Option Addr) (cap : Nat) (f : Value) : Calls Tryz.prog 164 #[.slice A 1 cap, f] w fun e w' => e = .returned (.slice A 1 cap) ∧ w' = w := by
  go_enter Tryz.func164, Tryz.ntmps164
  go_wp2_with fail
  go_ret
  exact ⟨rfl, rfl⟩
/-- A call whose plain value is known. -/
theorem calls_plain {P : Program} {S : Abs.Sys} (hS : SysOK P S) {f : Nat} {l : List AV} {r : AV} (h : ωκ S f l = some r) {vs : Array Value} {fn : Func} {cd : Code} (hf : P.funcs[f]? = some fn) (hb : fn.body = some cd) (hnm : ¬ fn.name = "runtime.NumGoroutine") {w : World} {c : Cls} (hG : GOK S.τ w c)
    (hsz : vs.size = l.length) (hargs : ∀ (i : Nat) (v : Value) (a : AV), vs[i]? = some v → l[i]? = some a → ArgR w c v a) : Calls P f vs w fun e w' => ∃ v c', e = .returned v ∧ Ext w.heap.size w c w' c' ∧ ResR w.heap.size w' c' v r := by
  have hent : (callFunc f vs).run P w = .ok (.enter f vs) w := by simp [callFunc, hf, hnm, hb]
  rcases contract hS h w c vs hG hsz hargs with ⟨_, hc⟩ | ⟨v, w', hc, _⟩
  · exact hc.mono fun e w' ⟨v, he, c', hx, hr⟩ => ⟨v, c', he, hx, hr⟩
  · rw [hent] at hc; cases hc
theorem ext_below {w w' : World} {c c' : Cls} (h : Ext w.heap.size w c w' c') : Below w.heap.size w w' := ⟨h.os, h.tape, h.output, h.size, fun k hk => (h.old k hk hk).1⟩
theorem rep_of_row {w : World} {c : Cls} {g cap : Nat} {cur : Array Value} {us : List Value} {t : Tm} {ty : TypeId} {fr : Nat × Nat} (hb : w.heap[g]? = some (.cells cur ty fr)) (hf : c g = .frz) (hc : 1 ≤ cap) (hu : ∀ j, j < 8 → cur[j]? = us[j]?) (hl : us.length = 8)
    (hr : ∀ (j : Nat) (u : Value) (a : AV), us[j]? = some u → (encT t)[j]? = some a → Rep w c u a) : Rep w c (.slice (some ⟨g, 0, none⟩) 1 cap) (.sl 8 [encT t]) := by
  refine Rep.sl g 0 cap 8 [encT t] (fun i j => us.getD j undef) hc (fun i cs h => ?_) (fun i j hi hj => ?_) (fun i j hi hj => ?_) (fun i j cs a h1 h2 => ?_)
  · rcases i with _ | i
    · simp at h; subst h; exact encT_len t
    · simp at h
  · obtain rfl : i = 0 := by simpa using hi
    rw [cell_of hb, show 0 + (0 * 8 + j) = j by omega, hu j hj, List.getD_eq_getElem?_getD, List.getElem?_eq_getElem (by omega)]; rfl
  · unfold stab; rw [hf]; trivial
  · rcases i with _ | i
    · simp at h1; subst h1
      have hj : j < 8 := by have := (List.getElem?_eq_some_iff.1 h2).1; rw [encT_len] at this; exact this
      exact hr j _ a (by rw [List.getD_eq_getElem?_getD, List.getElem?_eq_getElem (by omega)]; rfl) h2
    · simp at h1
theorem results_ct {P : Program} {fn : Func} {p u : Tmp} {ty : TypeId} (h : fn.results = #[.cell p ty, .tmp u]) (tmps : Array Value) (w : World) (g : Nat) (t : TypeId) (cs : Array Value) (fr : Nat × Nat) (d : TypeDesc)
    (hp : tmps.getD p undef = .pointer (some ⟨g, 0, none⟩)) (hg : w.heap[g]? = some (.cells cs t fr))
    (hu : P.underlying ty = some d) (hd : (match d with | .struct _ | .array _ _ => true | _ => false) = true) (hi : (P.info? ty).map (·.size) = some cs.size) :
    (results fn tmps).run P w = .ok (.tuple #[.agg cs, tmps.getD u undef]) w := by
  have hp' : tmps[p]?.getD undef = .pointer (some ⟨g, 0, none⟩) := by simpa using hp
  have l1 := run_loadVar_row w g t ty cs fr d hg hu hd hi
  simp [results, h, hp', asAddr, l1]
set_option maxHeartbeats 8000000 in
set_option maxRecDepth 100000 in
theorem settle_one (w : World) (c : Cls) (v : Value) (t : Tm) (hR : Rep w c v (.sl 8 [encT t])) (hs : szV [t] ≤ 1073741824) (hG : GOK τ w c) (hW : wtV [t] ≤ 512) :
    Calls Tryz.prog 129 #[v] w fun e w' => ∃ v' fp, e = .returned (.tuple #[.agg #[v'], .int .i64 0]) ∧ Below w.heap.size w w' ∧ OV w' w.heap.size v' [t] fp := by
  have e1 : [encT t] = encV [t] := by rw [encV_map]; rfl
  have C1 := Lib.hid fun W (hB : Below w.heap.size w W) => clone88 v [encT t] W _ (hR.ext (Cp.ext_cut c hB)) (by simp)
  obtain ⟨k, lo, hh, s, a, m, o, fs⟩ := t
  obtain ⟨bo, cap0, rfl, _⟩ := rep_sl hR
  replace hG := Lib.hid hG
  replace hR := Lib.hid hR
  have hA : Below w.heap.size w (w.alloc (Obj.cells #[.slice none 0 0] 25)) := (Below.refl _ w).alloc (Nat.le_refl _) _
  have hAb : (w.alloc (Obj.cells #[.slice none 0 0] 25)).heap[w.heap.size]? = some (Obj.cells #[.slice none 0 0] 25) := heap_alloc_new w _
  have C1' := C1.out _ hA
  replace C1' := Lib.hid C1'
  clear C1
  simp only [List.length_cons, List.length_nil, Nat.zero_add] at C1' ⊢
  go_enter Tryz.func129, Tryz.ntmps129
  go_wp2_with fail
  go_step3
  go_wp2_with fail
  refine C1'.out.mono ?_
  rintro e w1 ⟨v1, us, rfl, hC, hg1, hrow⟩
  have hB1 := below_up hA ⟨hg1.os, hg1.tape, hg1.output, hg1.size, fun k hk => hg1.block k hk (by simp)⟩
  obtain ⟨hul, ⟨_, h0⟩ | ⟨g, cap, cur, rfl, h3, h4, h5, h6, h7, h8⟩⟩ := hrow
  · cases h0
  have hcl := hC
  rw [e1] at hcl
  obtain ⟨sb, u7, hsb, f0, f1, f2, f3, f4, f5, f6, f7, r7⟩ := term_cells hcl (i := 0) rfl
  obtain ⟨bo7, cap7, rfl, _⟩ := rep_sl r7
  have hresb := (hg1.block w.heap.size (by simp) (by simp)).trans hAb
  have CS := Lib.hid fun W => sort1 W (some ⟨g, 0, none⟩) cap (.func (.func 115) #[] #[])
  have CC := Lib.hid fun W => compact1 W (some ⟨g, 0, none⟩) cap (.func (.func 165) #[] #[])
  have hcell : ∀ j x, j < 8 → us[0 * 8 + j]? = some x → w1.cell? ⟨g, j, none⟩ = some x := fun j x hj hx => by
    rw [cell_of h4]
    have e : (cur.toList.take (1 * 8))[j]? = some x := by rw [h8]; simpa using hx
    rw [List.getElem?_take, if_pos (by omega)] at e
    simpa using e
  have c0 := hcell 0 _ (by decide) f0
  have c1 := hcell 1 _ (by decide) f1
  have c2 := hcell 2 _ (by decide) f2
  have c3 := hcell 3 _ (by decide) f3
  have c4 := hcell 4 _ (by decide) f4
  have c5 := hcell 5 _ (by decide) f5
  have c6 := hcell 6 _ (by decide) f6
  have c7 := hcell 7 _ (by decide) f7
  have hA1 : Below (w.alloc (Obj.cells #[.slice none 0 0] 25)).heap.size (w.alloc (Obj.cells #[.slice none 0 0] 25)) w1 := ⟨hg1.os, hg1.tape, hg1.output, hg1.size, fun k hk => hg1.block k hk (by simp)⟩
  replace hA1 := Lib.hid hA1
  replace hB1 := Lib.hid hB1
  replace hresb := Lib.hid hresb
  replace hC := Lib.hid hC
  replace r7 := Lib.hid r7
  clear hcell hcl hul hA hAb hg1 h4 h8 f0 f1 f2 f3 f4 f5 f6 f7
  go_wp2_with fail
  refine (CS.out _).mono ?_
  rintro e w' ⟨rfl, rfl⟩
  go_wp2_with fail
  refine (CC.out _).mono ?_
  rintro e w' ⟨rfl, rfl⟩
  go_wp2_with fail
  go_step3
  have hgl := World.block_lt_of_cell? w' _ c0
  have hgl : g < w'.heap.size := hgl
  have hn0 : g ≠ w'.heap.size := by omega
  have hn1 : g ≠ w'.heap.size + 1 := by omega
  go_wp2_with fail
  refine wp_loop_rounds 2 ?_
  rw [rounds_succ]; go_wp2_with fail
  refine wp_loop_rounds 2 ?_
  rw [rounds_succ]; go_wp2_with fail
  rw [rounds_succ]; go_wp2_with fail
  have hG1 : 1 ≤ (Question.appendCap 1 0 54).cut (w'.tape w'.drawn (Question.appendCap 1 0 54)) := grownCap_ge w' 1 0 54
  generalize (Question.appendCap 1 0 54).cut (w'.tape w'.drawn (Question.appendCap 1 0 54)) = G at *
  have hcs : ∀ j, j < 8 → (#[Value.int .i64 k, .int .i64 lo, .int .i64 hh, .string sb, .bool a, .bool m, .bool o, .slice bo7 (encF fs).length cap7] ++ Builtin.zeroCells #[.int .i64 0, .int .i64 0, .int .i64 0, .string ⟨#[]⟩, .bool false, .bool false, .bool false, .slice none 0 0] (G - 1))[j]? = [Value.int .i64 k, .int .i64 lo, .int .i64 hh, .string sb, .bool a, .bool m, .bool o, .slice bo7 (encF fs).length cap7][j]? := fun j hj => by
    rw [Array.getElem?_append_left (by simpa using hj)]; simp
  generalize (#[Value.int .i64 k, .int .i64 lo, .int .i64 hh, .string sb, .bool a, .bool m, .bool o, .slice bo7 (encF fs).length cap7] ++ Builtin.zeroCells #[.int .i64 0, .int .i64 0, .int .i64 0, .string ⟨#[]⟩, .bool false, .bool false, .bool false, .slice none 0 0] (G - 1)) = cs8 at *
  have hW4 : Below w'.heap.size w' (((((w'.alloc (Obj.cells #[Value.int .i64 k, .int .i64 lo, .int .i64 hh, .string sb, .bool a, .bool m, .bool o, .slice bo7 (encF fs).length cap7] 54)).alloc (Obj.cells #[Value.int .i64 k, .int .i64 lo, .int .i64 hh, .string sb, .bool a, .bool m, .bool o, .slice bo7 (encF fs).length cap7] 54)).alloc (Obj.cells #[Value.int .i64 k, .int .i64 lo, .int .i64 hh, .string sb, .bool a, .bool m, .bool o, .slice bo7 (encF fs).length cap7] 54)).alloc (Obj.cells cs8 54)).drew) := (((((Below.refl _ w').alloc (Nat.le_refl _) _).alloc (by simp) _).alloc (by simp <;> omega) _).alloc (by simp <;> omega) _).drew
  have hb4 : (((((w'.alloc (Obj.cells #[Value.int .i64 k, .int .i64 lo, .int .i64 hh, .string sb, .bool a, .bool m, .bool o, .slice bo7 (encF fs).length cap7] 54)).alloc (Obj.cells #[Value.int .i64 k, .int .i64 lo, .int .i64 hh, .string sb, .bool a, .bool m, .bool o, .slice bo7 (encF fs).length cap7] 54)).alloc (Obj.cells #[Value.int .i64 k, .int .i64 lo, .int .i64 hh, .string sb, .bool a, .bool m, .bool o, .slice bo7 (encF fs).length cap7] 54)).alloc (Obj.cells cs8 54)).drew).heap[w'.heap.size + 1 + 1 + 1]? = some (Obj.cells cs8 54) := by
    have := heap_alloc_new (((w'.alloc (Obj.cells #[Value.int .i64 k, .int .i64 lo, .int .i64 hh, .string sb, .bool a, .bool m, .bool o, .slice bo7 (encF fs).length cap7] 54)).alloc (Obj.cells #[Value.int .i64 k, .int .i64 lo, .int .i64 hh, .string sb, .bool a, .bool m, .bool o, .slice bo7 (encF fs).length cap7] 54)).alloc (Obj.cells #[Value.int .i64 k, .int .i64 lo, .int .i64 hh, .string sb, .bool a, .bool m, .bool o, .slice bo7 (encF fs).length cap7] 54)) (Obj.cells cs8 54)
    have e : (((w'.alloc (Obj.cells #[Value.int .i64 k, .int .i64 lo, .int .i64 hh, .string sb, .bool a, .bool m, .bool o, .slice bo7 (encF fs).length cap7] 54)).alloc (Obj.cells #[Value.int .i64 k, .int .i64 lo, .int .i64 hh, .string sb, .bool a, .bool m, .bool o, .slice bo7 (encF fs).length cap7] 54)).alloc (Obj.cells #[Value.int .i64 k, .int .i64 lo, .int .i64 hh, .string sb, .bool a, .bool m, .bool o, .slice bo7 (encF fs).length cap7] 54)).heap.size = w'.heap.size + 1 + 1 + 1 := by simp
    rw [e] at this
    exact this
  generalize (((((w'.alloc (Obj.cells #[Value.int .i64 k, .int .i64 lo, .int .i64 hh, .string sb, .bool a, .bool m, .bool o, .slice bo7 (encF fs).length cap7] 54)).alloc (Obj.cells #[Value.int .i64 k, .int .i64 lo, .int .i64 hh, .string sb, .bool a, .bool m, .bool o, .slice bo7 (encF fs).length cap7] 54)).alloc (Obj.cells #[Value.int .i64 k, .int .i64 lo, .int .i64 hh, .string sb, .bool a, .bool m, .bool o, .slice bo7 (encF fs).length cap7] 54)).alloc (Obj.cells cs8 54)).drew) = W4 at *
  replace hW4 := Lib.hid hW4
  replace hb4 := Lib.hid hb4
  replace hcs := Lib.hid hcs
  clear c0 c1 c2 c3 c4 c5 c6 c7
  rw [rounds_succ]; go_wp2_with fail
  have hB4 := below_up hB1.out hW4.out
  have hzz : w.heap.size < w'.heap.size := blk_lt hresb.out
  have hrep : ∀ W, Below w.heap.size w W → Below (w.alloc (Obj.cells #[.slice none 0 0] 25)).heap.size (w.alloc (Obj.cells #[.slice none 0 0] 25)) W → W.heap[w'.heap.size + 1 + 1 + 1]? = some (Obj.cells cs8 54) → Rep W (fun b => if b < w.heap.size then c b else .frz) (.slice (some ⟨w'.heap.size + 1 + 1 + 1, 0, none⟩) 1 G) (.sl 8 [encT (.mk k lo hh s a m o fs)]) := fun W hB hB' hb => by
    have h7 := r7.out.ext (Cp.ext_cut _ hB')
    have ec : (fun b => if b < (w.alloc (Obj.cells #[.slice none 0 0] 25)).heap.size then (if b < w.heap.size then c b else Kind.frz) else Kind.frz) = fun b => if b < w.heap.size then c b else Kind.frz := by
      funext b
      by_cases h : b < w.heap.size
      · simp [h]; omega
      · simp [h]
    rw [ec] at h7
    refine rep_of_row (us := [.int .i64 k, .int .i64 lo, .int .i64 hh, .string sb, .bool a, .bool m, .bool o, .slice bo7 (encF fs).length cap7]) hb (by simp; omega) hG1 hcs.out rfl fun j u y hu hy => ?_
    rw [encT] at hy
    rcases j with _ | _ | _ | _ | _ | _ | _ | _ | j
    all_goals (simp only [List.getElem?_cons_zero, List.getElem?_cons_succ, List.getElem?_nil, Option.some.injEq, reduceCtorEq] at hu hy)
    all_goals (subst hu; subst hy)
    · exact .int _ _
    · exact .int _ _
    · exact .int _ _
    · rw [← hsb]; exact .str _
    · exact .bool _
    · exact .bool _
    · exact .bool _
    · exact h7
  have hW5 : Below W4.heap.size W4 (W4.alloc (Obj.cells #[.slice (some ⟨w'.heap.size + 1 + 1 + 1, 0, none⟩) 1 G] 25)) := (Below.refl _ W4).alloc (Nat.le_refl _) _
  have hB5 := below_up hB4 hW5
  have hA5 := below_up (below_up hA1.out hW4.out) hW5
  have hb5 := (hW5.block _ (blk_lt hb4.out)).trans hb4.out
  have hbx : (W4.alloc (Obj.cells #[.slice (some ⟨w'.heap.size + 1 + 1 + 1, 0, none⟩) 1 G] 25)).heap[W4.heap.size]? = some (Obj.cells #[.slice (some ⟨w'.heap.size + 1 + 1 + 1, 0, none⟩) 1 G] 25) := heap_alloc_new W4 _
  have hres5 := (hW5.block _ (Nat.lt_of_lt_of_le hzz hW4.out.size)).trans ((hW4.out.block _ hzz).trans hresb.out)
  have hR5 := hrep _ hB5 hA5 hb5
  obtain ⟨wt, hwt⟩ : ∃ x, wtV [.mk k lo hh s a m o fs] = x := ⟨_, rfl⟩
  have CW := calls_plain sysOK (show ωκ S 121 _ = _ from wtR_is 1073741824 [.mk k lo hh s a m o fs] hs (Nat.le_refl _)) (vs := #[.agg #[.slice (some ⟨w'.heap.size + 1 + 1 + 1, 0, none⟩) 1 G]]) Tryz.func121 rfl (by decide +kernel) (hG.out.ext (Cp.ext_cut c hB5)) rfl (fun i x y hx hy => by
    rcases i with _ | i
    · simp at hx hy
      subst hx; subst hy
      exact .inl ⟨_, rfl, rfl, rfl, fun j a u ha hu => by
        rcases j with _ | j
        · simp at ha hu; subst ha; subst hu; rw [← e1]; exact hR5
        · simp at ha⟩
    · simp at hx)
  rw [hwt] at CW hW
  replace CW := Lib.hid CW
  replace hrep := Lib.hid hrep
  replace hB5 := Lib.hid hB5
  replace hA5 := Lib.hid hA5
  replace hb5 := Lib.hid hb5
  replace hbx := Lib.hid hbx
  replace hres5 := Lib.hid hres5
  clear hB4 hW5 hR5
  generalize (W4.alloc (Obj.cells #[.slice (some ⟨w'.heap.size + 1 + 1 + 1, 0, none⟩) 1 G] 25)) = W5 at *
  refine CW.out.mono ?_
  rintro e w6 ⟨x, c6, rfl, hx6, hr6⟩
  obtain rfl := rep_int (show Rep w6 c6 x (.int .i64 wt) from hr6)
  have h56 := ext_below hx6
  have hB6 := below_up hB5.out h56
  have hA6 := below_up hA5.out h56
  have hb6 := (h56.block _ (blk_lt hb5.out)).trans hb5.out
  have hbx6 := (h56.block _ (blk_lt hbx.out)).trans hbx.out
  have hres6 := (h56.block _ (blk_lt hres5.out)).trans hres5.out
  have CC := copy_any 1073741824 (Nat.le_refl _) [.mk k lo hh s a m o fs] _ w6 _ hs (by rw [← e1]; exact hrep.out _ hB6 hA6 hb6)
  have q6 : w6.cell? ⟨W4.heap.size, 0, none⟩ = some (.slice (some ⟨w'.heap.size + 1 + 1 + 1, 0, none⟩) 1 G) := by rw [cell_of hbx6]; rfl
  have hwt' : ¬ (512 : Int) < wt := by omega
  replace CC := Lib.hid CC
  replace hB6 := Lib.hid hB6
  replace hres6 := Lib.hid hres6
  clear hx6 hr6 CW h56 hA6 hb6 hbx6
  go_wp2_with fail
  refine CC.out.mono ?_
  rintro e w7 ⟨v', fp, rfl, hB7, hO, hnd⟩
  obtain ⟨bo9, n9, cap9, rfl⟩ := ov_slice hO
  have hres7 := (hB7.block _ (blk_lt hres6.out)).trans hres6.out
  have q7 : w7.cell? ⟨w.heap.size, 0, none⟩ = some (.slice none 0 0) := by rw [cell_of hres7]; rfl
  have z7 := frozen_of_row w7 w.heap.size 0 _ _ hres7
  have hm := Lib.hid (heap_setCell_same w7 w.heap.size 0 _ _ (.slice bo9 n9 cap9) hres7)
  have hB8 := Lib.hid (below_put (below_up hB6.out hB7) (Nat.le_refl w.heap.size) (.slice bo9 n9 cap9) (i := 0))
  have h6s : w.heap.size < w6.heap.size := blk_lt hres6.out
  have hO8 := Lib.hid ((hO.frame (w' := w7.setCell ⟨w.heap.size, 0, none⟩ (.slice bo9 n9 cap9)) fun q hq => by
    have := (hO.bd q hq).1
    exact Below.heap_setCell w7 _ _ q (by show q ≠ w.heap.size; omega)).base (B' := w.heap.size) (by omega))
  clear hO hnd hB7 hres7 CC
  go_wp2_with fail
  rw [Exit.noGoto_ret]
  refine bodyPost_ret (results_ct (g := w.heap.size) (cs := #[.slice bo9 n9 cap9]) (fr := (0, 0)) rfl _ _ _ _ rfl hm.out Tryz.underlying25 rfl (by kernel_rfl)) rfl ?_
  exact ⟨_, fp, rfl, hB8.out, hO8.out⟩
end Go.Proofs.YtffojfcinkihnaaGreatDoor.Lat.St
