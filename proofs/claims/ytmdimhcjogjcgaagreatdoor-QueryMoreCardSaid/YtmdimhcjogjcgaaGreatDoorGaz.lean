/- lat.settle of one term. -/
import Derived.Test.YtmdimhcjogjcgaaGreatDoorGay
import Derived.Test.YtmdimhcjogjcgaaGreatDoorGan
import Derived.Test.YtmdimhcjogjcgaaGreatDoorGap
import Derived.Maps.AppendAt
import Derived.LoopN
import Derived.WalkMore
import Derived.OwnWalk
import Derived.Test.YtmdimhcjogjcgaaGreatDoorGax
import Derived.Shelf.Strings.OnBuilder
import Derived.Test.YtmdimhcjogjcgaaGreatDoorProg
import Derived.Test.YtmdimhcjogjcgaaGreatDoorGat
import Derived.Lib.ItoaLen
import Derived.Lib.ItoaMem
import Derived.Lib.Join
set_option linter.all false
set_option maxRecDepth 100000
set_option maxHeartbeats 8000000
noncomputable section
namespace Go.Proofs.YtmdimhcjogjcgaaGreatDoor.Lat.St
open Go.RowKit Go.Lib Go.Proofs.YtmdimhcjogjcgaaGreatDoor.Abs Go.Proofs.YtmdimhcjogjcgaaGreatDoor.Lat Go.Proofs.YtmdimhcjogjcgaaGreatDoor.Lat.Cp
theorem a8n (w : World) (v : Value) (f : Value) : Calls Tryz.prog 291 #[v, .int .i64 0, .int .i64 1, f] w fun e w' => e = .returned (.tuple #[]) ∧ w' = w := by
 go_enter Tryz.func291, Tryz.ntmps291
 go_wp2_with fail
 refine wp_loop_rounds 1 ?_
 rw [rounds_succ]; go_wp2_with fail
 go_end0
 exact ⟨rfl, rfl⟩
theorem a8o (w : World) (v : Value) (f : Value) (n : Int) : Calls Tryz.prog 274 #[v, .int .i64 0, .int .i64 1, .int .i64 n, f] w fun e w' => e = .returned (.tuple #[]) ∧ w' = w := by
 have C := Lib.hid (a8n w v f)
 go_enter Tryz.func274, Tryz.ntmps274
 go_wp2_with fail
 refine wp_loop_rounds 1 ?_
 rw [rounds_succ]; go_wp2_with fail
 refine C.out.mono ?_
 rintro e w' ⟨rfl, rfl⟩
 go_wp2_with fail
 refine bodyPost_ret (results_none rfl _ _ _) rfl ?_
 exact ⟨rfl, rfl⟩
theorem a6d (w : World) (A : Option Addr) (cap : Nat) (f : Value) : Calls Tryz.prog 244 #[.slice A 1 cap, f] w fun e w' => e = .returned (.tuple #[]) ∧ w' = w := by
 have CL := Lib.hid (Any.bits_Len Tryz.ayr 1 w (by omega) (by omega))
 have CP := Lib.hid fun n => a8o w (.slice A 1 cap) f n
 go_enter Tryz.func244, Tryz.ntmps244
 go_wp2_with fail
 refine CL.out.mono ?_
 rintro e w' ⟨rfl, rfl⟩
 go_wp2_with fail
 refine (CP.out _).mono ?_
 rintro e w' ⟨rfl, rfl⟩
 go_wp2_with fail
 go_end0
 exact ⟨rfl, rfl⟩
theorem awd (w : World) (A : Option Addr) (cap : Nat) (f : Value) : Calls Tryz.prog 245 #[.slice A 1 cap, f] w fun e w' => e = .returned (.slice A 1 cap) ∧ w' = w := by
 go_enter Tryz.func245, Tryz.ntmps245
 go_wp2_with fail
 go_ret
 exact ⟨rfl, rfl⟩
theorem qf {P : Program} {S : Abs.Sys} (hS : aa4 P S) {f : Nat} {l : List AV} {r : AV} (h : ag S f l = some r) {vs : Array Value} {fn : Func} {cd : Code} (hf : P.funcs[f]? = some fn) (hb : fn.body = some cd) (hnm : ¬ fn.name = "runtime.NumGoroutine") {w : World} {c : Cls} (hG : GOK S.τ w c)
  (hsz : vs.size = l.length) (hargs : ∀ (i : Nat) (v : Value) (a : AV), vs[i]? = some v → l[i]? = some a → td w c v a) : Calls P f vs w fun e w' => ∃ v c', e = .returned v ∧ Ext w.heap.size w c w' c' ∧ abt w.heap.size w' c' v r := by
 have hent : (callFunc f vs).run P w = .ok (.enter f vs) w := by simp [callFunc, hf, hnm, hb]
 rcases av9 hS h w c vs hG hsz hargs with ⟨_, hc⟩ | ⟨v, w', hc, _⟩
 ·exact hc.mono fun e w' ⟨v, he, c', hx, hr⟩ => ⟨v, c', he, hx, hr⟩
 ·rw [hent] at hc; cases hc
theorem yx {w w' : World} {c c' : Cls} (h : Ext w.heap.size w c w' c') : Below w.heap.size w w' := ⟨h.os, h.tape, h.output, h.size, fun k hk => (h.old k hk hk).1⟩
theorem ap5 {w : World} {c : Cls} {g cap : Nat} {cur : Array Value} {us : List Value} {t : Tm} {ty : TypeId} {fr : Nat × Nat} (hb : w.heap[g]? = some (.cells cur ty fr)) (hf : c g = .frz) (hc : 1 ≤ cap) (hu : ∀ j, j < 8 → cur[j]? = us[j]?) (hl : us.length = 8)
  (hr : ∀ (j : Nat) (u : Value) (a : AV), us[j]? = some u → (ah t)[j]? = some a → Rep w c u a) : Rep w c (.slice (some ⟨g, 0, none⟩) 1 cap) (.sl 8 [ah t]) := by
 refine Rep.sl g 0 cap 8 [ah t] (fun i j => us.getD j undef) hc (fun i cs h => ?_) (fun i j hi hj => ?_) (fun i j hi hj => ?_) (fun i j cs a h1 h2 => ?_)
 ·rcases i with _ | i
  ·simp at h; subst h; exact ad2 t
  ·simp at h
 ·obtain rfl : i = 0 := by simpa using hi
  rw [cell_of hb, show 0 + (0 * 8 + j) = j by omega, hu j hj, List.getD_eq_getElem?_getD, List.getElem?_eq_getElem (by omega)]; rfl
 ·unfold dw; rw [hf]; trivial
 ·rcases i with _ | i
  ·simp at h1; subst h1
   have hj : j < 8 := by have := (List.getElem?_eq_some_iff.1 h2).1; rw [ad2] at this; exact this
   exact hr j _ a (by rw [List.getD_eq_getElem?_getD, List.getElem?_eq_getElem (by omega)]; rfl) h2
  ·simp at h1
theorem ap6 {P : Program} {fn : Func} {p u : Tmp} {ty : TypeId} (h : fn.results = #[.cell p ty, .tmp u]) (tmps : Array Value) (w : World) (g : Nat) (t : TypeId) (cs : Array Value) (fr : Nat × Nat) (d : TypeDesc)
  (hp : tmps.getD p undef = .pointer (some ⟨g, 0, none⟩)) (hg : w.heap[g]? = some (.cells cs t fr))
  (hu : P.underlying ty = some d) (hd : (match d with | .struct _ | .array _ _ => true | _ => false) = true) (hi : (P.info? ty).map (·.size) = some cs.size) :
  (results fn tmps).run P w = .ok (.tuple #[.agg cs, tmps.getD u undef]) w := by
 have hp' : tmps[p]?.getD undef = .pointer (some ⟨g, 0, none⟩) := by simpa using hp
 have l1 := run_loadVar_row w g t ty cs fr d hg hu hd hi
 simp [results, h, hp', asAddr, l1]
theorem ap7 (w : World) (c : Cls) (v : Value) (t : Tm) (hR : Rep w c v (.sl 8 [ah t])) (hs : szV [t] ≤ 1073741824) (hG : GOK τ w c) (hW : wtV [t] ≤ 512) :
  Calls Tryz.prog 195 #[v] w fun e w' => ∃ v' fp, e = .returned (.tuple #[.agg #[v'], .int .i64 0]) ∧ Below w.heap.size w w' ∧ OV w' w.heap.size v' [t] fp := by
 have e1 : [ah t] = ak [t] := by rw [je]; rfl
 have C1 := Lib.hid fun W (hB : Below w.heap.size w W) => al4 v [ah t] W _ (hR.ext (Cp.ig c hB)) (by simp)
 obtain ⟨k, lo, hh, s, a, m, o, fs⟩ := t
 obtain ⟨bo, cap0, rfl, _⟩ := gz hR
 replace hG := Lib.hid hG
 replace hR := Lib.hid hR
 have hA : Below w.heap.size w (w.alloc (Obj.cells #[.slice none 0 0] 45)) := (Below.refl _ w).alloc (Nat.le_refl _) _
 have hAb : (w.alloc (Obj.cells #[.slice none 0 0] 45)).heap[w.heap.size]? = some (Obj.cells #[.slice none 0 0] 45) := heap_alloc_new w _
 have C1' := C1.out _ hA
 replace C1' := Lib.hid C1'
 clear C1
 simp only [List.length_cons, List.length_nil, Nat.zero_add] at C1' ⊢
 go_enter Tryz.func195, Tryz.ntmps195
 go_wp2_with fail
 go_step3
 go_wp2_with fail
 refine C1'.out.mono ?_
 rintro e w1 ⟨v1, us, rfl, hC, hg1, hrow⟩
 have hB1 := gb hA ⟨hg1.os, hg1.tape, hg1.output, hg1.size, fun k hk => hg1.block k hk (by simp)⟩
 obtain ⟨hul, ⟨_, h0⟩ | ⟨g, cap, cur, rfl, h3, h4, h5, h6, h7, h8⟩⟩ := hrow
 ·cases h0
 have hcl := hC
 rw [e1] at hcl
 obtain ⟨sb, u7, hsb, f0, f1, f2, f3, f4, f5, f6, f7, r7⟩ := afx hcl (i := 0) rfl
 obtain ⟨bo7, cap7, rfl, _⟩ := gz r7
 have hresb := (hg1.block w.heap.size (by simp) (by simp)).trans hAb
 have CS := Lib.hid fun W => a6d W (some ⟨g, 0, none⟩) cap (.func (.func 169) #[] #[])
 have CC := Lib.hid fun W => awd W (some ⟨g, 0, none⟩) cap (.func (.func 246) #[] #[])
 have hcell : ∀ j x, j < 8 → us[0 * 8 + j]? = some x → w1.cell? ⟨g, j, none⟩ = some x := fun j x hj hx => by
  rw [cell_of h4]
  have e : (cur.toList.take (1 * 8))[j]? = some x := by rw [h8]; simpa using hx
  rw [List.getElem?_take, if_pos (by omega)] at e
  simpa using e
 have c0 := hcell 0 _ (by decide) f0
 have c1 := hcell 1 _ (by decide) f1
 have c2 := hcell 2 _ (by decide) f2
 have c3 := hcell 3 _ (by decide) f3
 have c4 := hcell 4 _ (by decide) f4
 have c5 := hcell 5 _ (by decide) f5
 have c6 := hcell 6 _ (by decide) f6
 have c7 := hcell 7 _ (by decide) f7
 have hA1 : Below (w.alloc (Obj.cells #[.slice none 0 0] 45)).heap.size (w.alloc (Obj.cells #[.slice none 0 0] 45)) w1 := ⟨hg1.os, hg1.tape, hg1.output, hg1.size, fun k hk => hg1.block k hk (by simp)⟩
 replace hA1 := Lib.hid hA1
 replace hB1 := Lib.hid hB1
 replace hresb := Lib.hid hresb
 replace hC := Lib.hid hC
 replace r7 := Lib.hid r7
 clear hcell hcl hul hA hAb hg1 h4 h8 f0 f1 f2 f3 f4 f5 f6 f7
 go_wp2_with fail
 refine (CS.out _).mono ?_
 rintro e w' ⟨rfl, rfl⟩
 go_wp2_with fail
 refine (CC.out _).mono ?_
 rintro e w' ⟨rfl, rfl⟩
 go_wp2_with fail
 go_step3
 have hgl := World.block_lt_of_cell? w' _ c0
 have hgl : g < w'.heap.size := hgl
 have hn0 : g ≠ w'.heap.size := by omega
 have hn1 : g ≠ w'.heap.size + 1 := by omega
 go_wp2_with fail
 refine wp_loop_rounds 2 ?_
 rw [rounds_succ]; go_wp2_with fail
 refine wp_loop_rounds 2 ?_
 rw [rounds_succ]; go_wp2_with fail
 rw [rounds_succ]; go_wp2_with fail
 have hG1 : 1 ≤ (Question.appendCap 1 0 68).cut (w'.tape w'.drawn (Question.appendCap 1 0 68)) := grownCap_ge w' 1 0 68
 generalize (Question.appendCap 1 0 68).cut (w'.tape w'.drawn (Question.appendCap 1 0 68)) = G at *
 have hcs : ∀ j, j < 8 → (#[Value.int .i64 k, .int .i64 lo, .int .i64 hh, .string sb, .bool a, .bool m, .bool o, .slice bo7 (cb fs).length cap7] ++ Builtin.zeroCells #[.int .i64 0, .int .i64 0, .int .i64 0, .string ⟨#[]⟩, .bool false, .bool false, .bool false, .slice none 0 0] (G - 1))[j]? = [Value.int .i64 k, .int .i64 lo, .int .i64 hh, .string sb, .bool a, .bool m, .bool o, .slice bo7 (cb fs).length cap7][j]? := fun j hj => by
  rw [Array.getElem?_append_left (by simpa using hj)]; simp
 generalize (#[Value.int .i64 k, .int .i64 lo, .int .i64 hh, .string sb, .bool a, .bool m, .bool o, .slice bo7 (cb fs).length cap7] ++ Builtin.zeroCells #[.int .i64 0, .int .i64 0, .int .i64 0, .string ⟨#[]⟩, .bool false, .bool false, .bool false, .slice none 0 0] (G - 1)) = cs8 at *
 have hW4 : Below w'.heap.size w' (((((w'.alloc (Obj.cells #[Value.int .i64 k, .int .i64 lo, .int .i64 hh, .string sb, .bool a, .bool m, .bool o, .slice bo7 (cb fs).length cap7] 68)).alloc (Obj.cells #[Value.int .i64 k, .int .i64 lo, .int .i64 hh, .string sb, .bool a, .bool m, .bool o, .slice bo7 (cb fs).length cap7] 68)).alloc (Obj.cells #[Value.int .i64 k, .int .i64 lo, .int .i64 hh, .string sb, .bool a, .bool m, .bool o, .slice bo7 (cb fs).length cap7] 68)).alloc (Obj.cells cs8 68)).drew) := (((((Below.refl _ w').alloc (Nat.le_refl _) _).alloc (by simp) _).alloc (by simp <;> omega) _).alloc (by simp <;> omega) _).drew
 have hb4 : (((((w'.alloc (Obj.cells #[Value.int .i64 k, .int .i64 lo, .int .i64 hh, .string sb, .bool a, .bool m, .bool o, .slice bo7 (cb fs).length cap7] 68)).alloc (Obj.cells #[Value.int .i64 k, .int .i64 lo, .int .i64 hh, .string sb, .bool a, .bool m, .bool o, .slice bo7 (cb fs).length cap7] 68)).alloc (Obj.cells #[Value.int .i64 k, .int .i64 lo, .int .i64 hh, .string sb, .bool a, .bool m, .bool o, .slice bo7 (cb fs).length cap7] 68)).alloc (Obj.cells cs8 68)).drew).heap[w'.heap.size + 1 + 1 + 1]? = some (Obj.cells cs8 68) := by
  have := heap_alloc_new (((w'.alloc (Obj.cells #[Value.int .i64 k, .int .i64 lo, .int .i64 hh, .string sb, .bool a, .bool m, .bool o, .slice bo7 (cb fs).length cap7] 68)).alloc (Obj.cells #[Value.int .i64 k, .int .i64 lo, .int .i64 hh, .string sb, .bool a, .bool m, .bool o, .slice bo7 (cb fs).length cap7] 68)).alloc (Obj.cells #[Value.int .i64 k, .int .i64 lo, .int .i64 hh, .string sb, .bool a, .bool m, .bool o, .slice bo7 (cb fs).length cap7] 68)) (Obj.cells cs8 68)
  have e : (((w'.alloc (Obj.cells #[Value.int .i64 k, .int .i64 lo, .int .i64 hh, .string sb, .bool a, .bool m, .bool o, .slice bo7 (cb fs).length cap7] 68)).alloc (Obj.cells #[Value.int .i64 k, .int .i64 lo, .int .i64 hh, .string sb, .bool a, .bool m, .bool o, .slice bo7 (cb fs).length cap7] 68)).alloc (Obj.cells #[Value.int .i64 k, .int .i64 lo, .int .i64 hh, .string sb, .bool a, .bool m, .bool o, .slice bo7 (cb fs).length cap7] 68)).heap.size = w'.heap.size + 1 + 1 + 1 := by simp
  rw [e] at this
  exact this
 generalize (((((w'.alloc (Obj.cells #[Value.int .i64 k, .int .i64 lo, .int .i64 hh, .string sb, .bool a, .bool m, .bool o, .slice bo7 (cb fs).length cap7] 68)).alloc (Obj.cells #[Value.int .i64 k, .int .i64 lo, .int .i64 hh, .string sb, .bool a, .bool m, .bool o, .slice bo7 (cb fs).length cap7] 68)).alloc (Obj.cells #[Value.int .i64 k, .int .i64 lo, .int .i64 hh, .string sb, .bool a, .bool m, .bool o, .slice bo7 (cb fs).length cap7] 68)).alloc (Obj.cells cs8 68)).drew) = W4 at *
 replace hW4 := Lib.hid hW4
 replace hb4 := Lib.hid hb4
 replace hcs := Lib.hid hcs
 clear c0 c1 c2 c3 c4 c5 c6 c7
 rw [rounds_succ]; go_wp2_with fail
 have hB4 := gb hB1.out hW4.out
 have hzz : w.heap.size < w'.heap.size := nu hresb.out
 have hrep : ∀ W, Below w.heap.size w W → Below (w.alloc (Obj.cells #[.slice none 0 0] 45)).heap.size (w.alloc (Obj.cells #[.slice none 0 0] 45)) W → W.heap[w'.heap.size + 1 + 1 + 1]? = some (Obj.cells cs8 68) → Rep W (fun b => if b < w.heap.size then c b else .frz) (.slice (some ⟨w'.heap.size + 1 + 1 + 1, 0, none⟩) 1 G) (.sl 8 [ah (.mk k lo hh s a m o fs)]) := fun W hB hB' hb => by
  have h7 := r7.out.ext (Cp.ig _ hB')
  have ec : (fun b => if b < (w.alloc (Obj.cells #[.slice none 0 0] 45)).heap.size then (if b < w.heap.size then c b else Kind.frz) else Kind.frz) = fun b => if b < w.heap.size then c b else Kind.frz := by
   funext b
   by_cases h : b < w.heap.size
   ·simp [h]; omega
   ·simp [h]
  rw [ec] at h7
  refine ap5 (us := [.int .i64 k, .int .i64 lo, .int .i64 hh, .string sb, .bool a, .bool m, .bool o, .slice bo7 (cb fs).length cap7]) hb (by simp; omega) hG1 hcs.out rfl fun j u y hu hy => ?_
  rw [ah] at hy
  rcases j with _ | _ | _ | _ | _ | _ | _ | _ | j
  all_goals (simp only [List.getElem?_cons_zero, List.getElem?_cons_succ, List.getElem?_nil, Option.some.injEq, reduceCtorEq] at hu hy)
  all_goals (subst hu; subst hy)
  ·exact .int _ _
  ·exact .int _ _
  ·exact .int _ _
  ·rw [← hsb]; exact .str _
  ·exact .bool _
  ·exact .bool _
  ·exact .bool _
  ·exact h7
 have hW5 : Below W4.heap.size W4 (W4.alloc (Obj.cells #[.slice (some ⟨w'.heap.size + 1 + 1 + 1, 0, none⟩) 1 G] 45)) := (Below.refl _ W4).alloc (Nat.le_refl _) _
 have hB5 := gb hB4 hW5
 have hA5 := gb (gb hA1.out hW4.out) hW5
 have hb5 := (hW5.block _ (nu hb4.out)).trans hb4.out
 have hbx : (W4.alloc (Obj.cells #[.slice (some ⟨w'.heap.size + 1 + 1 + 1, 0, none⟩) 1 G] 45)).heap[W4.heap.size]? = some (Obj.cells #[.slice (some ⟨w'.heap.size + 1 + 1 + 1, 0, none⟩) 1 G] 45) := heap_alloc_new W4 _
 have hres5 := (hW5.block _ (Nat.lt_of_lt_of_le hzz hW4.out.size)).trans ((hW4.out.block _ hzz).trans hresb.out)
 have hR5 := hrep _ hB5 hA5 hb5
 obtain ⟨wt, hwt⟩ : ∃ x, wtV [.mk k lo hh s a m o fs] = x := ⟨_, rfl⟩
 have CW := qf vz (show ag S 121 _ = _ from ak1 1073741824 [.mk k lo hh s a m o fs] hs (Nat.le_refl _)) (vs := #[.agg #[.slice (some ⟨w'.heap.size + 1 + 1 + 1, 0, none⟩) 1 G]]) Tryz.func121 rfl (by decide +kernel) (hG.out.ext (Cp.ig c hB5)) rfl (fun i x y hx hy => by
  rcases i with _ | i
  ·simp at hx hy
   subst hx; subst hy
   exact .inl ⟨_, rfl, rfl, rfl, fun j a u ha hu => by
    rcases j with _ | j
    ·simp at ha hu; subst ha; subst hu; rw [← e1]; exact hR5
    ·simp at ha⟩
  ·simp at hx)
 rw [hwt] at CW hW
 replace CW := Lib.hid CW
 replace hrep := Lib.hid hrep
 replace hB5 := Lib.hid hB5
 replace hA5 := Lib.hid hA5
 replace hb5 := Lib.hid hb5
 replace hbx := Lib.hid hbx
 replace hres5 := Lib.hid hres5
 clear hB4 hW5 hR5
 generalize (W4.alloc (Obj.cells #[.slice (some ⟨w'.heap.size + 1 + 1 + 1, 0, none⟩) 1 G] 45)) = W5 at *
 refine CW.out.mono ?_
 rintro e w6 ⟨x, c6, rfl, hx6, hr6⟩
 obtain rfl := fb (show Rep w6 c6 x (.int .i64 wt) from hr6)
 have h56 := yx hx6
 have hB6 := gb hB5.out h56
 have hA6 := gb hA5.out h56
 have hb6 := (h56.block _ (nu hb5.out)).trans hb5.out
 have hbx6 := (h56.block _ (nu hbx.out)).trans hbx.out
 have hres6 := (h56.block _ (nu hres5.out)).trans hres5.out
 have CC := aei 1073741824 (Nat.le_refl _) [.mk k lo hh s a m o fs] _ w6 _ hs (by rw [← e1]; exact hrep.out _ hB6 hA6 hb6)
 have q6 : w6.cell? ⟨W4.heap.size, 0, none⟩ = some (.slice (some ⟨w'.heap.size + 1 + 1 + 1, 0, none⟩) 1 G) := by rw [cell_of hbx6]; rfl
 have hwt' : ¬ (512 : Int) < wt := by omega
 replace CC := Lib.hid CC
 replace hB6 := Lib.hid hB6
 replace hres6 := Lib.hid hres6
 clear hx6 hr6 CW h56 hA6 hb6 hbx6
 go_wp2_with fail
 refine CC.out.mono ?_
 rintro e w7 ⟨v', fp, rfl, hB7, hO, hnd⟩
 obtain ⟨bo9, n9, cap9, rfl⟩ := aeh hO
 have hres7 := (hB7.block _ (nu hres6.out)).trans hres6.out
 have q7 : w7.cell? ⟨w.heap.size, 0, none⟩ = some (.slice none 0 0) := by rw [cell_of hres7]; rfl
 have z7 := frozen_of_row w7 w.heap.size 0 _ _ hres7
 have hm := Lib.hid (heap_setCell_same w7 w.heap.size 0 _ _ (.slice bo9 n9 cap9) hres7)
 have hB8 := Lib.hid (rq (gb hB6.out hB7) (Nat.le_refl w.heap.size) (.slice bo9 n9 cap9) (i := 0))
 have h6s : w.heap.size < w6.heap.size := nu hres6.out
 have hO8 := Lib.hid ((hO.frame (w' := w7.setCell ⟨w.heap.size, 0, none⟩ (.slice bo9 n9 cap9)) fun q hq => by
  have := (hO.bd q hq).1
  exact Below.heap_setCell w7 _ _ q (by show q ≠ w.heap.size; omega)).base (B' := w.heap.size) (by omega))
 clear hO hnd hB7 hres7 CC
 go_wp2_with fail
 rw [Exit.noGoto_ret]
 refine bodyPost_ret (ap6 (g := w.heap.size) (cs := #[.slice bo9 n9 cap9]) (fr := (0, 0)) rfl _ _ _ _ rfl hm.out Tryz.underlying45 rfl (by kernel_rfl)) rfl ?_
 exact ⟨_, fp, rfl, hB8.out, hO8.out⟩
end Go.Proofs.YtmdimhcjogjcgaaGreatDoor.Lat.St
namespace Go.Proofs.YtmdimhcjogjcgaaGreatDoor.Abs
def sq (S : Sys) (k : Nat) (g : List AV → Option AV) : Sys := ⟨S.τ, S.ann, fun f => aa (Nat.beq f k) (some g) (S.O f), S.F⟩
theorem nh (S : Sys) (k : Nat) (g : List AV → Option AV) : (sq S k g).O k = some g := by
 show aa (Nat.beq k k) (some g) (S.O k) = some g
 rw [Nat.beq_refl]; rfl
theorem ke (S : Sys) (k : Nat) (g : List AV → Option AV) {f : Nat} (h : f ≠ k) : (sq S k g).O f = S.O f := by
 show aa (Nat.beq f k) (some g) (S.O f) = S.O f
 have : Nat.beq f k = false := by cases hb : Nat.beq f k with | false => rfl | true => exact absurd (Nat.eq_of_beq_eq_true hb) h
 rw [this]; rfl
theorem al7 (S : Sys) (k : Nat) (g : List AV → Option AV) (hk : S.O k = some fun _ => none) : ∀ n f l, Le (iw S n f l) (iw (sq S k g) n f l)
 | 0, _, _ => fun v h => by cases h
 | n + 1, f, l => by
  by_cases hf : f = k
  ·subst hf
   intro v h
   unfold iw at h
   rw [hk] at h; cases h
  ·unfold iw
   rw [ke S k g hf]
   cases S.O f with
   | some g' => exact Le.refl _
   | none =>
    show Le (match S.F f with | some d => wh S (iw S n) (iter n) f d l | none => none) (match S.F f with | some d => wh (sq S k g) (iw (sq S k g) n) (iter n) f d l | none => none)
    cases S.F f with
    | none => exact Le.refl _
    | some d => exact js S.τ _ _ (fun f l => al7 S k g hk n f l) (oz (Nat.le_refl _)) (oz (Nat.le_refl _)) _ _ _ _ fun _ _ => Le.refl _
theorem afz (S : Sys) (k : Nat) (g : List AV → Option AV) (hk : S.O k = some fun _ => none) {f : Nat} {l : List AV} {v : AV} (h : ag S f l = some v) : ag (sq S k g) f l = some v := by
 rw [ph] at h ⊢
 obtain ⟨n, hn⟩ := agk.1 h
 exact agk.2 ⟨n, al7 S k g hk n f l v hn⟩
end Go.Proofs.YtmdimhcjogjcgaaGreatDoor.Abs
namespace Go.Proofs
open Go.Shelf
def Tryz.adw : Go.Shelf.Ren := ⟨fun | 156 => 107 | 165 => 142 | 166 => 74 | 169 => 75 | 240 => 109 | 241 => 189 | 276 => 143 | 277 => 237 | n => n, fun | 31 => 37 | 9 => 9 | 3 => 3 | 4 => 4 | 0 => 0 | 20 => 20 | 72 => 125 | 76 => 128 | 70 => 123 | 37 => 91 | 75 => 127 | 127 => 171 | 164 => 200 | 5 => 5 | 80 => 130 | n => n, fun | n => n⟩
theorem Tryz.aom : Go.Proofs.Lays.n156 Tryz.prog Tryz.adw := {
 mixed := by kernel_rfl
 f156 := Tryz.func107.trans (congrArg some (by kernel_rfl))
 f165 := Tryz.func142.trans (congrArg some (by kernel_rfl))
 f166 := Tryz.func74.trans (congrArg some (by kernel_rfl))
 f169 := Tryz.func75.trans (congrArg some (by kernel_rfl))
 f240 := Tryz.func109.trans (congrArg some (by kernel_rfl))
 f241 := Tryz.func189.trans (congrArg some (by kernel_rfl))
 f276 := Tryz.func143.trans (congrArg some (by kernel_rfl))
 f277 := Tryz.func237.trans (congrArg some (by kernel_rfl))
 t0 := Tryz.underlying0
 a0 := Tryz.isAgg0
 z0 := Tryz.sizeOf0
 v0 := Tryz.zeroValue0
 t3 := Tryz.underlying3
 a3 := Tryz.isAgg3
 z3 := Tryz.sizeOf3
 v3 := Tryz.zeroValue3
 t4 := Tryz.underlying4
 a4 := Tryz.isAgg4
 z4 := Tryz.sizeOf4
 v4 := Tryz.zeroValue4
 t9 := Tryz.underlying9
 a9 := Tryz.isAgg9
 z9 := Tryz.sizeOf9
 v9 := Tryz.zeroValue9
 t20 := Tryz.underlying20
 a20 := Tryz.isAgg20
 z20 := Tryz.sizeOf20
 v20 := Tryz.zeroValue20
 t31 := Tryz.underlying37
 a31 := Tryz.isAgg37
 z31 := Tryz.sizeOf37
 v31 := Tryz.zeroValue37
 t37 := Tryz.underlying91
 a37 := Tryz.isAgg91
 z37 := Tryz.sizeOf91
 v37 := Tryz.zeroValue91
 t70 := Tryz.underlying123
 a70 := Tryz.isAgg123
 z70 := Tryz.sizeOf123
 v70 := Tryz.zeroValue123
 t72 := Tryz.underlying125
 a72 := Tryz.isAgg125
 z72 := Tryz.sizeOf125
 v72 := Tryz.zeroValue125
 t75 := Tryz.underlying127
 a75 := Tryz.isAgg127
 z75 := Tryz.sizeOf127
 v75 := Tryz.zeroValue127
 t76 := Tryz.underlying128
 a76 := Tryz.isAgg128
 z76 := Tryz.sizeOf128
 v76 := Tryz.zeroValue128
 t127 := Tryz.underlying171
 a127 := Tryz.isAgg171
 z127 := Tryz.sizeOf171
 v127 := Tryz.zeroValue171
 t164 := Tryz.underlying200
 a164 := Tryz.isAgg200
 z164 := Tryz.sizeOf200
 v164 := Tryz.zeroValue200 }
theorem Tryz.vp : Builder.Extra Tryz.prog Tryz.adw := {
 sizeBuilder := by kernel_rfl
 liesBuilder := by kernel_rfl
 t5 := Tryz.underlying5
 a5 := Tryz.isAgg5
 z5 := Tryz.sizeOf5
 v5 := Tryz.zeroValue5
 infoByte := by kernel_rfl
 cellsByte := by kernel_rfl
 sizeByte := by kernel_rfl
 neB5 := by decide }
open Go.RowKit in
theorem Tryz.strings_Join_none (a : Option Addr) (c : Nat) (sep : ByteArray) (w : World) :
  Calls Tryz.prog 107 #[.slice a 0 c, .string sep] w fun e w' => e = .returned (.string ⟨#[]⟩) ∧ w' = w := Any.strings_Join_none Tryz.aom Tryz.vp a c sep w
open Go.RowKit in
theorem Tryz.strings_Join (bk o c : Nat) (xs : List ByteArray) (sep : ByteArray) (w : World) (hcells : ∀ (j : Nat) x, xs[j]? = some x → w.cell? ⟨bk, o + j, none⟩ = some (.string x)) (hbk : bk < w.heap.size) (hN : xs.length ≤ 140737488355328) (hcap : xs.length ≤ c) (hlen : (Lib.join (xs.map (·.data.toList)) sep.data.toList).length ≤ 140737488355328) :
  Calls Tryz.prog 107 #[.slice (some ⟨bk, o, none⟩) xs.length c, .string sep] w fun e w' => e = .returned (.string ⟨(Lib.join (xs.map (·.data.toList)) sep.data.toList).toArray⟩) ∧ Below w.heap.size w w' := Any.strings_Join Tryz.aom Tryz.vp bk o c xs sep w hcells hbk hN hcap hlen
end Go.Proofs
namespace Go.Proofs.YtmdimhcjogjcgaaGreatDoor.Abs
open Go.RowKit Go.Proofs.YtmdimhcjogjcgaaGreatDoor.Lat Go.Proofs.YtmdimhcjogjcgaaGreatDoor.Gr
def ahg (ts : List Th) : Prop := ts.length ≤ 16384 ∧ ∀ t ∈ ts, t.d.length ≤ 16384 ∧ t.n.length ≤ maxLen
theorem aej : ∀ {a b : List Bs}, br a = br b → a = b
 | [], [], _ => rfl
 | [], _ :: _, h => by simp [br] at h
 | _ :: _, [], h => by simp [br] at h
 | x :: a, y :: b, h => by
  simp only [br, List.map_cons, List.cons.injEq, AV.str.injEq, and_true] at h
  rw [h.1, aej (a := a) (b := b) h.2]
theorem aon : ∀ {a b : List Th}, cf a = cf b → tds a = tds b
 | [], [], _ => rfl
 | [], _ :: _, h => by simp [cf] at h
 | _ :: _, [], h => by simp [cf] at h
 | x :: a, y :: b, h => by
  simp only [cf, ui, List.map_cons, List.cons.injEq, AV.str.injEq, AV.sl.injEq, and_true, true_and] at h
  have ih := aon (a := a) (b := b) h.2
  simp only [tds, List.map_cons, List.cons.injEq, Prod.mk.injEq]
  exact ⟨⟨h.1.1, aej h.1.2.2⟩, ih⟩
def xz (l : List AV) : Option AV := open Classical in if h : ∃ ts, ahg ts ∧ l = [.sl 3 (cf ts)] then some (.bool (kq (tds (Classical.choose h)))) else none
theorem asz {l : List AV} {r : AV} (h : xz l = some r) : ∃ ts, ahg ts ∧ l = [.sl 3 (cf ts)] ∧ r = .bool (kq (tds ts)) := by
 unfold xz at h
 split at h
 ·rename_i hx
  cases h
  exact ⟨_, (Classical.choose_spec hx).1, (Classical.choose_spec hx).2, rfl⟩
 ·cases h
theorem as0 {ts : List Th} (hs : ahg ts) : xz [.sl 3 (cf ts)] = some (.bool (kq (tds ts))) := by
 unfold xz
 have hx : ∃ q, ahg q ∧ [AV.sl 3 (cf ts)] = [.sl 3 (cf q)] := ⟨ts, hs, rfl⟩
 rw [dif_pos hx]
 have h2 := (Classical.choose_spec hx).2
 have h3 := (AV.sl.inj (List.cons.inj h2).1).2
 exact congrArg (fun x => some (AV.bool (kq x))) (aon h3).symm
theorem af0 {w : World} {c : Cls} {v : Value} {s : Bs} (h : Rep w c v (.str s)) : v = .string ⟨s.toArray⟩ := by
 obtain ⟨b, rfl, rfl⟩ := gu h
 congr 1
theorem a6e {w : World} {c : Cls} {v : Value} {ts : List Th} (h : Rep w c v (.sl 3 (cf ts))) : RT w v (tds ts) := by
 obtain ⟨A, cap, rfl, _, _, hm⟩ := gz h
 have hlen : (tds ts).length = (cf ts).length := by simp [tds, cf]
 refine ⟨A, cap, by rw [hlen], fun i n ds hi => ?_⟩
 have hi' : i < ts.length := by have := (List.getElem?_eq_some_iff.1 hi).1; simpa [tds] using this
 have e1 : ts[i]? = some ts[i] := List.getElem?_eq_getElem hi'
 have e2 : (ts[i].n, ts[i].d) = (n, ds) := by
  rw [tds, List.getElem?_map, e1] at hi; simpa using hi
 obtain ⟨rfl, rfl⟩ := Prod.mk.inj e2
 obtain ⟨g, o, rfl, _, f, hc, _, hr⟩ := hm (by rw [pa]; omega)
 have hl : i < (cf ts).length := by rw [pa]; exact hi'
 have r0 := af0 (hr i 0 _ _ (ir e1) rfl)
 obtain ⟨A1, cap1, r1, _⟩ := gz (hr i 1 _ _ (ir e1) rfl)
 obtain ⟨A2, cap2, r2, _, _, hm2⟩ := gz (hr i 2 _ _ (ir e1) rfl)
 refine ⟨g, o, A1, (ak ts[i].v).length, cap1, A2, cap2, rfl, ?_, ?_, ?_, fun j s hs => ?_⟩
 ·have := hc i 0 hl (by omega); rw [r0] at this; exact this
 ·have := hc i 1 hl (by omega); rw [r1] at this; exact this
 ·have := hc i 2 hl (by omega); rw [r2, df] at this; exact this
 ·have hj : j < ts[i].d.length := (List.getElem?_eq_some_iff.1 hs).1
  obtain ⟨g2, o2, rfl, _, f2, hc2, _, hr2⟩ := hm2 (by rw [df]; omega)
  refine ⟨g2, o2, rfl, ?_⟩
  have := hc2 j 0 (by rw [df]; exact hj) (by omega)
  rw [af0 (hr2 j 0 _ _ (j4 hs) rfl)] at this
  simpa using this
theorem ap8 {w : World} {c : Cls} {v : Value} {ts : List Th} (hG : GOK τ w c) (hR : Rep w c v (.sl 3 (cf ts))) (hl : ts.length ≤ 1073741824) (W : World) (hB : Below w.heap.size w W) (s : Bs) :
  Calls Tryz.prog 34 #[v, .string ⟨s.toArray⟩] W fun e w' => ∃ i : Int, e = .returned (.int .i64 i) ∧ (0 ≤ i ↔ s ∈ nms (tds ts)) ∧ Below W.heap.size W w' := by
 refine (St.qf vz (show ag S 34 _ = _ from apj ts hl s) (vs := #[v, .string ⟨s.toArray⟩]) Tryz.func34 rfl (by decide +kernel) (hG.ext (ig c hB)) rfl (fun i x y hx hy => ?_)).mono fun e w' ⟨x, c', he, hx, hr⟩ => ?_
 ·rcases i with _ | _ | i
  ·simp at hx hy; subst hx; subst hy; exact .inr (hR.ext (ig c hB))
  ·simp at hx hy; subst hx; subst hy
   have := Rep.str (w := W) (c := fun b => if b < w.heap.size then c b else .frz) ⟨s.toArray⟩
   exact .inr (by simpa using this)
  ·simp at hx
 ·obtain rfl := fb (show Rep w' c' x (.int .i64 _) from hr)
  exact ⟨_, he, by rw [aoh]; exact ag7 _ _ _, St.yx hx⟩
theorem ay4 {ts : List Th} (hs : ahg ts) : PC Tryz.prog τ 78 [.sl 3 (cf ts)] (.bool (kq (tds ts))) := by
 refine ajs Tryz.func78 rfl (by decide +kernel) fun w c vs hG hsz ha => ?_
 obtain ⟨v, rfl, hv⟩ := adb hsz ha
 have hR : Rep w c v (.sl 3 (cf ts)) := by rcases hv with hv | hv <;> exact hv
 refine (asl (a6e hR) (by simpa [tds] using hs.1) (fun t ht => ?_) (fun x hx => ?_) fun W hB s => ?_).mono fun e w' ⟨he, hB⟩ => ⟨_, he, hB, fun c' => Rep.bool _⟩
 ·obtain ⟨u, hu, rfl⟩ := List.mem_map.1 ht
  exact (hs.2 u hu).1
 ·rw [aoh] at hx
  obtain ⟨u, hu, rfl⟩ := List.mem_map.1 hx
  exact (hs.2 u hu).2
 ·exact ap8 hG hR (by have := hs.1; omega) W hB s
def tq (l : List AV) : Option AV := open Classical in if ∃ t : Tm, szV [t] ≤ 1073741824 ∧ wtV [t] ≤ 512 ∧ l = [.sl 8 [ah t]] then (match l with | [.sl 8 x] => some (.tup [.agg 1 [.sl 8 x], .int .i64 0]) | _ => none) else none
theorem ap9 {l : List AV} {r : AV} (h : tq l = some r) : ∃ t : Tm, szV [t] ≤ 1073741824 ∧ wtV [t] ≤ 512 ∧ l = [.sl 8 [ah t]] ∧ r = .tup [.agg 1 [.sl 8 [ah t]], .int .i64 0] := by
 unfold tq at h
 split at h
 ·rename_i hx
  obtain ⟨t, h1, h2, rfl⟩ := hx
  cases h
  exact ⟨t, h1, h2, rfl, rfl⟩
 ·cases h
theorem aqa {t : Tm} (h1 : szV [t] ≤ 1073741824) (h2 : wtV [t] ≤ 512) : tq [.sl 8 [ah t]] = some (.tup [.agg 1 [.sl 8 [ah t]], .int .i64 0]) := by
 unfold tq
 rw [if_pos ⟨t, h1, h2, rfl⟩]; rfl
theorem awe {t : Tm} (h1 : szV [t] ≤ 1073741824) (h2 : wtV [t] ≤ 512) : PC Tryz.prog τ 195 [.sl 8 [ah t]] (.tup [.agg 1 [.sl 8 [ah t]], .int .i64 0]) := by
 intro w c vs hG hsz ha
 obtain ⟨v, rfl, hv⟩ := adb hsz ha
 have hR : Rep w c v (.sl 8 [ah t]) := by rcases hv with hv | hv <;> exact hv
 refine .inl ⟨by simp [callFunc, Tryz.func195, (show ¬ Tryz.f195.name = "runtime.NumGoroutine" by decide +kernel), (show Tryz.f195.body = some _ from rfl)], ?_⟩
 refine (St.ap7 w c v t hR h1 hG h2).mono fun e w' ⟨v', fp, he, hB, hO⟩ => ⟨_, he, _, ig c hB, ?_⟩
 have e1 : [ah t] = ak [t] := by rw [je]; rfl
 refine ⟨_, rfl, rfl, fun i x y hx hy => ?_⟩
 rcases i with _ | _ | i
 ·simp at hx hy
  subst hx; subst hy
  exact ⟨_, rfl, rfl, rfl, fun j a z ha hz => by
   rcases j with _ | j
   ·simp at ha hz; subst ha; subst hz; rw [e1]; exact hO.rep (fun b hb => by simp; omega)
   ·simp at ha⟩
 ·simp at hx hy; subst hx; subst hy; exact .int _ _
 ·simp at hx
def aca : List (List AV) → Option (List Bs)
 | [] => some []
 | [.str s] :: r => (aca r).map (s :: ·)
 | _ => none
theorem aiv : ∀ {l : List (List AV)} {d : List Bs}, aca l = some d → l = br d
 | [], d, h => by cases h; rfl
 | x :: r, d, h => by
  unfold aca at h
  split at h
  ·rename_i h1; cases h1
  ·rename_i s q h1
   cases h1
   cases hq : aca r with
   | none => rw [hq] at h; cases h
   | some e =>
    rw [hq] at h; cases h
    rw [aiv hq]; rfl
  ·cases h
def al8 (d : List Bs) (sep : Bs) : Prop := d.length ≤ 1073741824 ∧ (Lib.join d sep).length ≤ 1099511627776
instance (d : List Bs) (sep : Bs) : Decidable (al8 d sep) := by unfold al8; infer_instance
def ajt : List AV → Option AV
 | [.sl 1 l, .str sep] => (match aca l with
  | some d => if al8 d sep then some (.str (Lib.join d sep)) else none
  | none => none)
 | _ => none
theorem a2y (l : List AV) (r : AV) (h : ajt l = some r) : PC Tryz.prog τ 107 l r := by
 unfold ajt at h
 split at h
 ·rename_i l sep
  split at h
  ·rename_i d hd
   split at h
   ·rename_i hok
    cases h
    obtain rfl := aiv hd
    refine ajs Tryz.func107 rfl (by decide +kernel) fun w c vs hG hsz ha => ?_
    obtain ⟨v, u, rfl, hv, hu⟩ := aa6 hsz ha
    have hR : Rep w c v (.sl 1 (br d)) := by rcases hv with hv | hv <;> exact hv
    have hU : Rep w c u (.str sep) := by rcases hu with hu | hu <;> exact hu
    obtain ⟨sb, rfl, rfl⟩ := gu hU
    obtain ⟨A, cap, rfl, hcap, _, hm⟩ := gz hR
    rw [df] at hcap hm ⊢
    by_cases h0 : d.length = 0
    ·obtain rfl := List.eq_nil_of_length_eq_zero h0
     refine (Tryz.strings_Join_none A cap sb w).mono fun e w' ⟨he, hw⟩ => ⟨_, he, ?_, fun c' => ?_⟩
     ·rw [hw]; exact Below.refl _ _
     ·exact Rep.str ⟨#[]⟩
    ·obtain ⟨g, o, rfl, _, f, hc, _, hr⟩ := hm (by omega)
     have hcell : ∀ (j : Nat) (x : ByteArray), (d.map fun s => (⟨s.toArray⟩ : ByteArray))[j]? = some x → w.cell? ⟨g, o + j, none⟩ = some (.string x) := fun j x hx => by
      rw [List.getElem?_map] at hx
      cases hj : d[j]? with
      | none => rw [hj] at hx; cases hx
      | some s =>
       rw [hj] at hx; cases hx
       have hjl := (List.getElem?_eq_some_iff.1 hj).1
       have hcj := hc j 0 hjl (by omega)
       rw [af0 (hr j 0 _ _ (j4 hj) rfl)] at hcj
       simpa using hcj
     have hmm : (d.map fun s => (⟨s.toArray⟩ : ByteArray)).map (·.data.toList) = d := by
      rw [List.map_map]
      conv => rhs; rw [← List.map_id d]
      exact List.map_congr_left fun s _ => rfl
     have hlt : g < w.heap.size := re (hcell 0 _ (List.getElem?_eq_getElem (by rw [List.length_map]; omega)))
     have C := Tryz.strings_Join g o cap (d.map fun s => (⟨s.toArray⟩ : ByteArray)) sb w hcell hlt (by rw [List.length_map]; have := hok.1; omega) (by rw [List.length_map]; exact hcap) (by rw [hmm]; have := hok.2; omega)
     rw [hmm, List.length_map] at C
     refine C.mono fun e w' ⟨he, hB⟩ => ⟨_, he, hB, fun c' => ?_⟩
     have := Rep.str (w := w') (c := c') ⟨(Lib.join d sb.data.toList).toArray⟩
     show Rep w' c' _ _
     simpa using this
   ·cases h
  ·cases h
 ·cases h
def Y1 : Abs.Sys := sq S 78 xz
def Y2 : Abs.Sys := sq Y1 195 tq
def Y3 : Abs.Sys := sq Y2 107 ajt
end Go.Proofs.YtmdimhcjogjcgaaGreatDoor.Abs
namespace Go.Proofs.YtmdimhcjogjcgaaGreatDoor.Lat
open Go.Proofs.YtmdimhcjogjcgaaGreatDoor.Abs
end Go.Proofs.YtmdimhcjogjcgaaGreatDoor.Lat
namespace Go.Proofs.YtmdimhcjogjcgaaGreatDoor.Xp
open Go.Proofs.YtmdimhcjogjcgaaGreatDoor.Abs Go.Proofs.YtmdimhcjogjcgaaGreatDoor.Lat Go.Proofs.YtmdimhcjogjcgaaGreatDoor.Gr
theorem aqb {α : Type} (a b : AV) (k : AV → AV → Option α) : lg (.tup [a, b]) k = k a b := rfl
theorem a2z {α : Type} (l : List (List AV)) (k : List (List AV) → Option α) : asL 1 (.own 1 l) k = k l := rfl
theorem al9 {s : Bs} (h : Rn s = true) : s.length ≤ 16 := by
 have h : Nam.ek s = true := h
 unfold Nam.ek at h
 simp only [Bool.and_eq_true, decide_eq_true_eq] at h
 exact h.1.1.2
theorem ama : ∀ (d : List Bs) (p : Option Bs), ij Rn p (fsD d) = true → ∀ s ∈ d, Rn s = true
 | [], p, _, s, h => by cases h
 | x :: r, p, h, s, hs => by
  have h' : (Rn x && ub p x && ij Rn (some x) (fsD r)) = true := h
  simp only [Bool.and_eq_true] at h'
  rcases List.mem_cons.1 hs with rfl | hs
  ·exact h'.1.1
  ·exact ama r _ h'.2 s hs
theorem ay5 {d : List Bs} (h : aaw d = true) : ∀ s ∈ d, s.length ≤ 16 := fun s hs => al9 (ama d none h s hs)
theorem as1 (x : Bs) (r : List Bs) : Lib.lens (x :: r) = x.length + Lib.lens r := by simp [Lib.lens]
theorem gW {n m : Nat} (h : n + m ≤ 1099511627776) : Nat.ble (n + m) lim = true := by rw [Nat.ble_eq]; unfold lim; omega
theorem ay6 (sep x : Bs) (r : List Bs) : Lib.joinTail sep (x :: r) = sep ++ (x ++ Lib.joinTail sep r) := by simp [Lib.joinTail, List.append_assoc]
mutual
theorem a3a : ∀ t : Tm, okT Rn t = true → szT t + 1 ≤ 2 * wtT t
 | .mk k lo hi s a m o fs, h => by
  have hf : fs = [] ∨ okF Rn fs = true := by
   rw [abz] at h
   split at h
   ·left
    have : sc (.mk k lo hi s a m o fs) = true := h
    unfold sc at this
    simp only [Bool.and_eq_true, List.isEmpty_iff] at this
    exact this.2
   ·split at h
    ·right; rw [Bool.and_eq_true] at h; exact h.2
    ·left
     have : ji (.mk k lo hi s a m o fs) = true := h
     have hn : ¬ (o || !fs.isEmpty || (m && single (.mk k lo hi s a m o fs))) = true := fun c => by
      unfold ji at this; dsimp only at this; rw [if_pos c] at this; cases this
     cases fs with
     | nil => rfl
     | cons x r => exact absurd (by simp) hn
  rw [wtT, show szT (.mk k lo hi s a m o fs) = 1 + szF fs from fq _]
  rcases hf with rfl | hf
  ·rw [szF]; omega
  ·have := as2 fs hf; omega
theorem as2 : ∀ fs : List Lat.Fd, okF Rn fs = true → szF fs ≤ 2 * wtF fs
 | [], _ => by rw [szF]; omega
 | .mk n v :: r, h => by
  rw [aat] at h
  simp only [Bool.and_eq_true] at h
  have h1 := as2 r h.2
  have hv := h.1.2
  unfold okV at hv
  simp only [Bool.and_eq_true] at hv
  have hL : okL Rn v = true := hv.1.1.2
  have hne : v ≠ [] := fun e => by have := h.1.1; rw [show (Lat.Fd.mk n v).v = v from rfl, e] at this; cases this
  have h2 := amb v hL
  have hlen : 0 < v.length := List.length_pos_iff.2 hne
  rw [szF, wtF]; omega
theorem amb : ∀ v : List Tm, okL Rn v = true → szV v + v.length ≤ 2 * wtV v
 | [], _ => by rw [szV, wtV]; simp
 | t :: r, h => by
  rw [okL, Bool.and_eq_true] at h
  have h1 := a3a t h.1
  have h2 := amb r h.2
  rw [szV, wtV, List.length_cons]; omega
end
theorem a6f {v : List Tm} (h : okV Rn v = true) : szV v ≤ 1024 := by
 have hL := aau h
 have := amb v hL
 unfold okV za at h
 simp only [Bool.and_eq_true, decide_eq_true_eq] at h
 omega
theorem ahh : ∀ {d : List Bs}, (∀ s ∈ d, s.length ≤ 16) → Lib.lens d ≤ 16 * d.length
 | [], _ => by simp [Lib.lens]
 | x :: r, h => by
  have := ahh (d := r) fun s hs => h s (List.mem_cons_of_mem _ hs)
  have := h x (List.mem_cons_self ..)
  rw [as1, List.length_cons]; omega
end Go.Proofs.YtmdimhcjogjcgaaGreatDoor.Xp
namespace Go.Proofs.YtmdimhcjogjcgaaGreatDoor.Th
open Go.RowKit Go.Lib Go.Proofs.YtmdimhcjogjcgaaGreatDoor.Abs Go.Proofs.YtmdimhcjogjcgaaGreatDoor.Lat Go.Proofs.YtmdimhcjogjcgaaGreatDoor.Lat.Cp Go.Proofs.YtmdimhcjogjcgaaGreatDoor.Gr
theorem aek {B b i : Nat} {c : Cls} : dw (fun b => if b < B then c b else .frz) b i ↔ (b < B → dw c b i) := by
 by_cases h : b < B
 ·simp [dw, h]
 ·simp [dw, h]
theorem a3b {w w' : World} {c c' : Cls} (hs : w.heap.size ≤ w'.heap.size) (ho : w'.os = w.os) (ht : w'.tape = w.tape) (hp : w'.output = w.output) (h : ∀ b i, dw c b i → b < w.heap.size → w'.heap[b]? = w.heap[b]? ∧ dw c' b i) : Ext 0 w c w' c' :=
 ⟨ho, ht, hp, hs, fun b hb => absurd hb (Nat.not_lt_zero b), fun b i v hv hb => by
  obtain ⟨h1, h2⟩ := h b i hb (World.block_lt_of_cell? w _ hv)
  exact ⟨(o1 h1).trans hv, h2⟩⟩
end Go.Proofs.YtmdimhcjogjcgaaGreatDoor.Th
