/- lat.settle of one term. -/
import Derived.Test.YtmdimhcjogjcgaaGreatDoorGbf
import Derived.Test.YtmdimhcjogjcgaaGreatDoorGar
import Derived.Test.YtmdimhcjogjcgaaGreatDoorGaw
import Derived.Maps.AppendAt
import Derived.LoopN
import Derived.WalkMore
import Derived.OwnWalk
import Derived.Test.YtmdimhcjogjcgaaGreatDoorGbe
import Derived.Test.YtmdimhcjogjcgaaGreatDoorGba
import Derived.Ground.NamesProg
import Derived.Shelf.Strings.Split
import Derived.Test.YtmdimhcjogjcgaaGreatDoorProg
import Derived.Shelf.Strings.OnBuilder
set_option linter.all false
set_option maxRecDepth 100000
set_option maxHeartbeats 8000000
noncomputable section
namespace Go.Proofs.YtmdimhcjogjcgaaGreatDoor.Lat.St
open Go.RowKit Go.Lib Go.Proofs.YtmdimhcjogjcgaaGreatDoor.Abs Go.Proofs.YtmdimhcjogjcgaaGreatDoor.Lat Go.Proofs.YtmdimhcjogjcgaaGreatDoor.Lat.Cp
theorem bmp (w : World) (v : Value) (f : Value) : Calls Tryz.prog 291 #[v, .int .i64 0, .int .i64 1, f] w fun e w' => e = .returned (.tuple #[]) ∧ w' = w := by
 go_enter Tryz.func291, Tryz.ntmps291
 go_wp2_with fail
 refine wp_loop_rounds 1 ?_
 rw [rounds_succ]; go_wp2_with fail
 go_end0
 exact ⟨rfl, rfl⟩
theorem bmq (w : World) (v : Value) (f : Value) (n : Int) : Calls Tryz.prog 274 #[v, .int .i64 0, .int .i64 1, .int .i64 n, f] w fun e w' => e = .returned (.tuple #[]) ∧ w' = w := by
 have C := Lib.hid (bmp w v f)
 go_enter Tryz.func274, Tryz.ntmps274
 go_wp2_with fail
 refine wp_loop_rounds 1 ?_
 rw [rounds_succ]; go_wp2_with fail
 refine C.out.mono ?_
 rintro e w' ⟨rfl, rfl⟩
 go_wp2_with fail
 refine bodyPost_ret (results_none rfl _ _ _) rfl ?_
 exact ⟨rfl, rfl⟩
theorem bi2 (w : World) (A : Option Addr) (cap : Nat) (f : Value) : Calls Tryz.prog 244 #[.slice A 1 cap, f] w fun e w' => e = .returned (.tuple #[]) ∧ w' = w := by
 have CL := Lib.hid (Any.bits_Len Tryz.bb5 1 w (by omega) (by omega))
 have CP := Lib.hid fun n => bmq w (.slice A 1 cap) f n
 go_enter Tryz.func244, Tryz.ntmps244
 go_wp2_with fail
 refine CL.out.mono ?_
 rintro e w' ⟨rfl, rfl⟩
 go_wp2_with fail
 refine (CP.out _).mono ?_
 rintro e w' ⟨rfl, rfl⟩
 go_wp2_with fail
 go_end0
 exact ⟨rfl, rfl⟩
theorem a82 (w : World) (A : Option Addr) (cap : Nat) (f : Value) : Calls Tryz.prog 245 #[.slice A 1 cap, f] w fun e w' => e = .returned (.slice A 1 cap) ∧ w' = w := by
 go_enter Tryz.func245, Tryz.ntmps245
 go_wp2_with fail
 go_ret
 exact ⟨rfl, rfl⟩
theorem xf {P : Program} {S : Abs.Sys} (hS : agu P S) {f : Nat} {l : List AV} {r : AV} (h : ah S f l = some r) {vs : Array Value} {fn : Func} {cd : Code} (hf : P.funcs[f]? = some fn) (hb : fn.body = some cd) (hnm : ¬ fn.name = "runtime.NumGoroutine") {w : World} {c : Cls} (hG : GOK S.τ w c)
  (hsz : vs.size = l.length) (hargs : ∀ (i : Nat) (v : Value) (a : AV), vs[i]? = some v → l[i]? = some a → acs w c v a) : Calls P f vs w fun e w' => ∃ v c', e = .returned v ∧ Ext w.heap.size w c w' c' ∧ anq w.heap.size w' c' v r := by
 have hent : (callFunc f vs).run P w = .ok (.enter f vs) w := by simp [callFunc, hf, hnm, hb]
 rcases ava hS h w c vs hG hsz hargs with ⟨_, hc⟩ | ⟨v, w', hc, _⟩
 ·exact hc.mono fun e w' ⟨v, he, c', hx, hr⟩ => ⟨v, c', he, hx, hr⟩
 ·rw [hent] at hc; cases hc
theorem ah5 {w w' : World} {c c' : Cls} (h : Ext w.heap.size w c w' c') : Below w.heap.size w w' := ⟨h.os, h.tape, h.output, h.size, fun k hk => (h.old k hk hk).1⟩
theorem az9 {w : World} {c : Cls} {g cap : Nat} {cur : Array Value} {us : List Value} {t : Tm} {ty : TypeId} {fr : Nat × Nat} (hb : w.heap[g]? = some (.cells cur ty fr)) (hf : c g = .frz) (hc : 1 ≤ cap) (hu : ∀ j, j < 8 → cur[j]? = us[j]?) (hl : us.length = 8)
  (hr : ∀ (j : Nat) (u : Value) (a : AV), us[j]? = some u → (ao t)[j]? = some a → Rep w c u a) : Rep w c (.slice (some ⟨g, 0, none⟩) 1 cap) (.sl 8 [ao t]) := by
 refine Rep.sl g 0 cap 8 [ao t] (fun i j => us.getD j undef) hc (fun i cs h => ?_) (fun i j hi hj => ?_) (fun i j hi hj => ?_) (fun i j cs a h1 h2 => ?_)
 ·rcases i with _ | i
  ·simp at h; subst h; exact aka t
  ·simp at h
 ·obtain rfl : i = 0 := by simpa using hi
  rw [cell_of hb, show 0 + (0 * 8 + j) = j by omega, hu j hj, List.getD_eq_getElem?_getD, List.getElem?_eq_getElem (by omega)]; rfl
 ·unfold ga; rw [hf]; trivial
 ·rcases i with _ | i
  ·simp at h1; subst h1
   have hj : j < 8 := by have := (List.getElem?_eq_some_iff.1 h2).1; rw [aka] at this; exact this
   exact hr j _ a (by rw [List.getD_eq_getElem?_getD, List.getElem?_eq_getElem (by omega)]; rfl) h2
  ·simp at h1
theorem a0a {P : Program} {fn : Func} {p u : Tmp} {ty : TypeId} (h : fn.results = #[.cell p ty, .tmp u]) (tmps : Array Value) (w : World) (g : Nat) (t : TypeId) (cs : Array Value) (fr : Nat × Nat) (d : TypeDesc)
  (hp : tmps.getD p undef = .pointer (some ⟨g, 0, none⟩)) (hg : w.heap[g]? = some (.cells cs t fr))
  (hu : P.underlying ty = some d) (hd : (match d with | .struct _ | .array _ _ => true | _ => false) = true) (hi : (P.info? ty).map (·.size) = some cs.size) :
  (results fn tmps).run P w = .ok (.tuple #[.agg cs, tmps.getD u undef]) w := by
 have hp' : tmps[p]?.getD undef = .pointer (some ⟨g, 0, none⟩) := by simpa using hp
 have l1 := run_loadVar_row w g t ty cs fr d hg hu hd hi
 simp [results, h, hp', asAddr, l1]
theorem a0b (w : World) (c : Cls) (v : Value) (t : Tm) (hR : Rep w c v (.sl 8 [ao t])) (hs : szV [t] ≤ 1073741824) (hG : GOK τ w c) (hW : wtV [t] ≤ 512) :
  Calls Tryz.prog 195 #[v] w fun e w' => ∃ v' fp, e = .returned (.tuple #[.agg #[v'], .int .i64 0]) ∧ Below w.heap.size w w' ∧ OV w' w.heap.size v' [t] fp := by
 have e1 : [ao t] = al [t] := by rw [nw]; rfl
 have C1 := Lib.hid fun W (hB : Below w.heap.size w W) => avb v [ao t] W _ (hR.ext (Cp.ly c hB)) (by simp)
 obtain ⟨k, lo, hh, s, a, m, o, fs⟩ := t
 obtain ⟨bo, cap0, rfl, _⟩ := lr hR
 replace hG := Lib.hid hG
 replace hR := Lib.hid hR
 have hA : Below w.heap.size w (w.alloc (Obj.cells #[.slice none 0 0] 45)) := (Below.refl _ w).alloc (Nat.le_refl _) _
 have hAb : (w.alloc (Obj.cells #[.slice none 0 0] 45)).heap[w.heap.size]? = some (Obj.cells #[.slice none 0 0] 45) := heap_alloc_new w _
 have C1' := C1.out _ hA
 replace C1' := Lib.hid C1'
 clear C1
 simp only [List.length_cons, List.length_nil, Nat.zero_add] at C1' ⊢
 go_enter Tryz.func195, Tryz.ntmps195
 go_wp2_with fail
 go_step3
 go_wp2_with fail
 refine C1'.out.mono ?_
 rintro e w1 ⟨v1, us, rfl, hC, hg1, hrow⟩
 have hB1 := je hA ⟨hg1.os, hg1.tape, hg1.output, hg1.size, fun k hk => hg1.block k hk (by simp)⟩
 obtain ⟨hul, ⟨_, h0⟩ | ⟨g, cap, cur, rfl, h3, h4, h5, h6, h7, h8⟩⟩ := hrow
 ·cases h0
 have hcl := hC
 rw [e1] at hcl
 obtain ⟨sb, u7, hsb, f0, f1, f2, f3, f4, f5, f6, f7, r7⟩ := amz hcl (i := 0) rfl
 obtain ⟨bo7, cap7, rfl, _⟩ := lr r7
 have hresb := (hg1.block w.heap.size (by simp) (by simp)).trans hAb
 have CS := Lib.hid fun W => bi2 W (some ⟨g, 0, none⟩) cap (.func (.func 169) #[] #[])
 have CC := Lib.hid fun W => a82 W (some ⟨g, 0, none⟩) cap (.func (.func 246) #[] #[])
 have hcell : ∀ j x, j < 8 → us[0 * 8 + j]? = some x → w1.cell? ⟨g, j, none⟩ = some x := fun j x hj hx => by
  rw [cell_of h4]
  have e : (cur.toList.take (1 * 8))[j]? = some x := by rw [h8]; simpa using hx
  rw [List.getElem?_take, if_pos (by omega)] at e
  simpa using e
 have c0 := hcell 0 _ (by decide) f0
 have c1 := hcell 1 _ (by decide) f1
 have c2 := hcell 2 _ (by decide) f2
 have c3 := hcell 3 _ (by decide) f3
 have c4 := hcell 4 _ (by decide) f4
 have c5 := hcell 5 _ (by decide) f5
 have c6 := hcell 6 _ (by decide) f6
 have c7 := hcell 7 _ (by decide) f7
 have hA1 : Below (w.alloc (Obj.cells #[.slice none 0 0] 45)).heap.size (w.alloc (Obj.cells #[.slice none 0 0] 45)) w1 := ⟨hg1.os, hg1.tape, hg1.output, hg1.size, fun k hk => hg1.block k hk (by simp)⟩
 replace hA1 := Lib.hid hA1
 replace hB1 := Lib.hid hB1
 replace hresb := Lib.hid hresb
 replace hC := Lib.hid hC
 replace r7 := Lib.hid r7
 clear hcell hcl hul hA hAb hg1 h4 h8 f0 f1 f2 f3 f4 f5 f6 f7
 go_wp2_with fail
 refine (CS.out _).mono ?_
 rintro e w' ⟨rfl, rfl⟩
 go_wp2_with fail
 refine (CC.out _).mono ?_
 rintro e w' ⟨rfl, rfl⟩
 go_wp2_with fail
 go_step3
 have hgl := World.block_lt_of_cell? w' _ c0
 have hgl : g < w'.heap.size := hgl
 have hn0 : g ≠ w'.heap.size := by omega
 have hn1 : g ≠ w'.heap.size + 1 := by omega
 go_wp2_with fail
 refine wp_loop_rounds 2 ?_
 rw [rounds_succ]; go_wp2_with fail
 refine wp_loop_rounds 2 ?_
 rw [rounds_succ]; go_wp2_with fail
 rw [rounds_succ]; go_wp2_with fail
 have hG1 : 1 ≤ (Question.appendCap 1 0 68).cut (w'.tape w'.drawn (Question.appendCap 1 0 68)) := grownCap_ge w' 1 0 68
 generalize (Question.appendCap 1 0 68).cut (w'.tape w'.drawn (Question.appendCap 1 0 68)) = G at *
 have hcs : ∀ j, j < 8 → (#[Value.int .i64 k, .int .i64 lo, .int .i64 hh, .string sb, .bool a, .bool m, .bool o, .slice bo7 (cq fs).length cap7] ++ Builtin.zeroCells #[.int .i64 0, .int .i64 0, .int .i64 0, .string ⟨#[]⟩, .bool false, .bool false, .bool false, .slice none 0 0] (G - 1))[j]? = [Value.int .i64 k, .int .i64 lo, .int .i64 hh, .string sb, .bool a, .bool m, .bool o, .slice bo7 (cq fs).length cap7][j]? := fun j hj => by
  rw [Array.getElem?_append_left (by simpa using hj)]; simp
 generalize (#[Value.int .i64 k, .int .i64 lo, .int .i64 hh, .string sb, .bool a, .bool m, .bool o, .slice bo7 (cq fs).length cap7] ++ Builtin.zeroCells #[.int .i64 0, .int .i64 0, .int .i64 0, .string ⟨#[]⟩, .bool false, .bool false, .bool false, .slice none 0 0] (G - 1)) = cs8 at *
 have hW4 : Below w'.heap.size w' (((((w'.alloc (Obj.cells #[Value.int .i64 k, .int .i64 lo, .int .i64 hh, .string sb, .bool a, .bool m, .bool o, .slice bo7 (cq fs).length cap7] 68)).alloc (Obj.cells #[Value.int .i64 k, .int .i64 lo, .int .i64 hh, .string sb, .bool a, .bool m, .bool o, .slice bo7 (cq fs).length cap7] 68)).alloc (Obj.cells #[Value.int .i64 k, .int .i64 lo, .int .i64 hh, .string sb, .bool a, .bool m, .bool o, .slice bo7 (cq fs).length cap7] 68)).alloc (Obj.cells cs8 68)).drew) := (((((Below.refl _ w').alloc (Nat.le_refl _) _).alloc (by simp) _).alloc (by simp <;> omega) _).alloc (by simp <;> omega) _).drew
 have hb4 : (((((w'.alloc (Obj.cells #[Value.int .i64 k, .int .i64 lo, .int .i64 hh, .string sb, .bool a, .bool m, .bool o, .slice bo7 (cq fs).length cap7] 68)).alloc (Obj.cells #[Value.int .i64 k, .int .i64 lo, .int .i64 hh, .string sb, .bool a, .bool m, .bool o, .slice bo7 (cq fs).length cap7] 68)).alloc (Obj.cells #[Value.int .i64 k, .int .i64 lo, .int .i64 hh, .string sb, .bool a, .bool m, .bool o, .slice bo7 (cq fs).length cap7] 68)).alloc (Obj.cells cs8 68)).drew).heap[w'.heap.size + 1 + 1 + 1]? = some (Obj.cells cs8 68) := by
  have := heap_alloc_new (((w'.alloc (Obj.cells #[Value.int .i64 k, .int .i64 lo, .int .i64 hh, .string sb, .bool a, .bool m, .bool o, .slice bo7 (cq fs).length cap7] 68)).alloc (Obj.cells #[Value.int .i64 k, .int .i64 lo, .int .i64 hh, .string sb, .bool a, .bool m, .bool o, .slice bo7 (cq fs).length cap7] 68)).alloc (Obj.cells #[Value.int .i64 k, .int .i64 lo, .int .i64 hh, .string sb, .bool a, .bool m, .bool o, .slice bo7 (cq fs).length cap7] 68)) (Obj.cells cs8 68)
  have e : (((w'.alloc (Obj.cells #[Value.int .i64 k, .int .i64 lo, .int .i64 hh, .string sb, .bool a, .bool m, .bool o, .slice bo7 (cq fs).length cap7] 68)).alloc (Obj.cells #[Value.int .i64 k, .int .i64 lo, .int .i64 hh, .string sb, .bool a, .bool m, .bool o, .slice bo7 (cq fs).length cap7] 68)).alloc (Obj.cells #[Value.int .i64 k, .int .i64 lo, .int .i64 hh, .string sb, .bool a, .bool m, .bool o, .slice bo7 (cq fs).length cap7] 68)).heap.size = w'.heap.size + 1 + 1 + 1 := by simp
  rw [e] at this
  exact this
 generalize (((((w'.alloc (Obj.cells #[Value.int .i64 k, .int .i64 lo, .int .i64 hh, .string sb, .bool a, .bool m, .bool o, .slice bo7 (cq fs).length cap7] 68)).alloc (Obj.cells #[Value.int .i64 k, .int .i64 lo, .int .i64 hh, .string sb, .bool a, .bool m, .bool o, .slice bo7 (cq fs).length cap7] 68)).alloc (Obj.cells #[Value.int .i64 k, .int .i64 lo, .int .i64 hh, .string sb, .bool a, .bool m, .bool o, .slice bo7 (cq fs).length cap7] 68)).alloc (Obj.cells cs8 68)).drew) = W4 at *
 replace hW4 := Lib.hid hW4
 replace hb4 := Lib.hid hb4
 replace hcs := Lib.hid hcs
 clear c0 c1 c2 c3 c4 c5 c6 c7
 rw [rounds_succ]; go_wp2_with fail
 have hB4 := je hB1.out hW4.out
 have hzz : w.heap.size < w'.heap.size := ub hresb.out
 have hrep : ∀ W, Below w.heap.size w W → Below (w.alloc (Obj.cells #[.slice none 0 0] 45)).heap.size (w.alloc (Obj.cells #[.slice none 0 0] 45)) W → W.heap[w'.heap.size + 1 + 1 + 1]? = some (Obj.cells cs8 68) → Rep W (fun b => if b < w.heap.size then c b else .frz) (.slice (some ⟨w'.heap.size + 1 + 1 + 1, 0, none⟩) 1 G) (.sl 8 [ao (.mk k lo hh s a m o fs)]) := fun W hB hB' hb => by
  have h7 := r7.out.ext (Cp.ly _ hB')
  have ec : (fun b => if b < (w.alloc (Obj.cells #[.slice none 0 0] 45)).heap.size then (if b < w.heap.size then c b else Kind.frz) else Kind.frz) = fun b => if b < w.heap.size then c b else Kind.frz := by
   funext b
   by_cases h : b < w.heap.size
   ·simp [h]; omega
   ·simp [h]
  rw [ec] at h7
  refine az9 (us := [.int .i64 k, .int .i64 lo, .int .i64 hh, .string sb, .bool a, .bool m, .bool o, .slice bo7 (cq fs).length cap7]) hb (by simp; omega) hG1 hcs.out rfl fun j u y hu hy => ?_
  rw [ao] at hy
  rcases j with _ | _ | _ | _ | _ | _ | _ | _ | j
  all_goals (simp only [List.getElem?_cons_zero, List.getElem?_cons_succ, List.getElem?_nil, Option.some.injEq, reduceCtorEq] at hu hy)
  all_goals (subst hu; subst hy)
  ·exact .int _ _
  ·exact .int _ _
  ·exact .int _ _
  ·rw [← hsb]; exact .str _
  ·exact .bool _
  ·exact .bool _
  ·exact .bool _
  ·exact h7
 have hW5 : Below W4.heap.size W4 (W4.alloc (Obj.cells #[.slice (some ⟨w'.heap.size + 1 + 1 + 1, 0, none⟩) 1 G] 45)) := (Below.refl _ W4).alloc (Nat.le_refl _) _
 have hB5 := je hB4 hW5
 have hA5 := je (je hA1.out hW4.out) hW5
 have hb5 := (hW5.block _ (ub hb4.out)).trans hb4.out
 have hbx : (W4.alloc (Obj.cells #[.slice (some ⟨w'.heap.size + 1 + 1 + 1, 0, none⟩) 1 G] 45)).heap[W4.heap.size]? = some (Obj.cells #[.slice (some ⟨w'.heap.size + 1 + 1 + 1, 0, none⟩) 1 G] 45) := heap_alloc_new W4 _
 have hres5 := (hW5.block _ (Nat.lt_of_lt_of_le hzz hW4.out.size)).trans ((hW4.out.block _ hzz).trans hresb.out)
 have hR5 := hrep _ hB5 hA5 hb5
 obtain ⟨wt, hwt⟩ : ∃ x, wtV [.mk k lo hh s a m o fs] = x := ⟨_, rfl⟩
 have CW := xf abz (show ah S 121 _ = _ from atf 1073741824 [.mk k lo hh s a m o fs] hs (Nat.le_refl _)) (vs := #[.agg #[.slice (some ⟨w'.heap.size + 1 + 1 + 1, 0, none⟩) 1 G]]) Tryz.func121 rfl (by decide +kernel) (hG.out.ext (Cp.ly c hB5)) rfl (fun i x y hx hy => by
  rcases i with _ | i
  ·simp at hx hy
   subst hx; subst hy
   exact .inl ⟨_, rfl, rfl, rfl, fun j a u ha hu => by
    rcases j with _ | j
    ·simp at ha hu; subst ha; subst hu; rw [← e1]; exact hR5
    ·simp at ha⟩
  ·simp at hx)
 rw [hwt] at CW hW
 replace CW := Lib.hid CW
 replace hrep := Lib.hid hrep
 replace hB5 := Lib.hid hB5
 replace hA5 := Lib.hid hA5
 replace hb5 := Lib.hid hb5
 replace hbx := Lib.hid hbx
 replace hres5 := Lib.hid hres5
 clear hB4 hW5 hR5
 generalize (W4.alloc (Obj.cells #[.slice (some ⟨w'.heap.size + 1 + 1 + 1, 0, none⟩) 1 G] 45)) = W5 at *
 refine CW.out.mono ?_
 rintro e w6 ⟨x, c6, rfl, hx6, hr6⟩
 obtain rfl := iu (show Rep w6 c6 x (.int .i64 wt) from hr6)
 have h56 := ah5 hx6
 have hB6 := je hB5.out h56
 have hA6 := je hA5.out h56
 have hb6 := (h56.block _ (ub hb5.out)).trans hb5.out
 have hbx6 := (h56.block _ (ub hbx.out)).trans hbx.out
 have hres6 := (h56.block _ (ub hres5.out)).trans hres5.out
 have CC := ak2 1073741824 (Nat.le_refl _) [.mk k lo hh s a m o fs] _ w6 _ hs (by rw [← e1]; exact hrep.out _ hB6 hA6 hb6)
 have q6 : w6.cell? ⟨W4.heap.size, 0, none⟩ = some (.slice (some ⟨w'.heap.size + 1 + 1 + 1, 0, none⟩) 1 G) := by rw [cell_of hbx6]; rfl
 have hwt' : ¬ (512 : Int) < wt := by omega
 replace CC := Lib.hid CC
 replace hB6 := Lib.hid hB6
 replace hres6 := Lib.hid hres6
 clear hx6 hr6 CW h56 hA6 hb6 hbx6
 go_wp2_with fail
 refine CC.out.mono ?_
 rintro e w7 ⟨v', fp, rfl, hB7, hO, hnd⟩
 obtain ⟨bo9, n9, cap9, rfl⟩ := ak1 hO
 have hres7 := (hB7.block _ (ub hres6.out)).trans hres6.out
 have q7 : w7.cell? ⟨w.heap.size, 0, none⟩ = some (.slice none 0 0) := by rw [cell_of hres7]; rfl
 have z7 := frozen_of_row w7 w.heap.size 0 _ _ hres7
 have hm := Lib.hid (heap_setCell_same w7 w.heap.size 0 _ _ (.slice bo9 n9 cap9) hres7)
 have hB8 := Lib.hid (aa6 (je hB6.out hB7) (Nat.le_refl w.heap.size) (.slice bo9 n9 cap9) (i := 0))
 have h6s : w.heap.size < w6.heap.size := ub hres6.out
 have hO8 := Lib.hid ((hO.frame (w' := w7.setCell ⟨w.heap.size, 0, none⟩ (.slice bo9 n9 cap9)) fun q hq => by
  have := (hO.bd q hq).1
  exact Below.heap_setCell w7 _ _ q (by show q ≠ w.heap.size; omega)).base (B' := w.heap.size) (by omega))
 clear hO hnd hB7 hres7 CC
 go_wp2_with fail
 rw [Exit.noGoto_ret]
 refine bodyPost_ret (a0a (g := w.heap.size) (cs := #[.slice bo9 n9 cap9]) (fr := (0, 0)) rfl _ _ _ _ rfl hm.out Tryz.underlying45 rfl (by kernel_rfl)) rfl ?_
 exact ⟨_, fp, rfl, hB8.out, hO8.out⟩
end Go.Proofs.YtmdimhcjogjcgaaGreatDoor.Lat.St
namespace Go.Proofs.YtmdimhcjogjcgaaGreatDoor.Abs
def wj (S : Sys) (k : Nat) (g : List AV → Option AV) : Sys := ⟨S.τ, S.ann, fun f => ag (Nat.beq f k) (some g) (S.O f), S.F⟩
theorem nk (S : Sys) (k : Nat) (g : List AV → Option AV) : (wj S k g).O k = some g := by
 show ag (Nat.beq k k) (some g) (S.O k) = some g
 rw [Nat.beq_refl]; rfl
theorem ky (S : Sys) (k : Nat) (g : List AV → Option AV) {f : Nat} (h : f ≠ k) : (wj S k g).O f = S.O f := by
 show ag (Nat.beq f k) (some g) (S.O f) = S.O f
 have : Nat.beq f k = false := by cases hb : Nat.beq f k with | false => rfl | true => exact absurd (Nat.eq_of_beq_eq_true hb) h
 rw [this]; rfl
theorem ave (S : Sys) (k : Nat) (g : List AV → Option AV) (hk : S.O k = some fun _ => none) : ∀ n f l, Le (ng S n f l) (ng (wj S k g) n f l)
 | 0, _, _ => fun v h => by cases h
 | n + 1, f, l => by
  by_cases hf : f = k
  ·subst hf
   intro v h
   unfold ng at h
   rw [hk] at h; cases h
  ·unfold ng
   rw [ky S k g hf]
   cases S.O f with
   | some g' => exact Le.refl _
   | none =>
    show Le (match S.F f with | some d => ab4 S (ng S n) (iter n) f d l | none => none) (match S.F f with | some d => ab4 (wj S k g) (ng (wj S k g) n) (iter n) f d l | none => none)
    cases S.F f with
    | none => exact Le.refl _
    | some d => exact oz S.τ _ _ (fun f l => ave S k g hk n f l) (uz (Nat.le_refl _)) (uz (Nat.le_refl _)) _ _ _ _ fun _ _ => Le.refl _
theorem agw (S : Sys) (k : Nat) (g : List AV → Option AV) (hk : S.O k = some fun _ => none) {f : Nat} {l : List AV} {v : AV} (h : ah S f l = some v) : ah (wj S k g) f l = some v := by
 rw [rr] at h ⊢
 obtain ⟨n, hn⟩ := anp.1 h
 exact anp.2 ⟨n, ave S k g hk n f l v hn⟩
end Go.Proofs.YtmdimhcjogjcgaaGreatDoor.Abs
namespace Go.Proofs.YtmdimhcjogjcgaaGreatDoor.Th
open Go.RowKit Go.Lib Go.Proofs.YtmdimhcjogjcgaaGreatDoor.Abs Go.Proofs.YtmdimhcjogjcgaaGreatDoor.Lat Go.Proofs.YtmdimhcjogjcgaaGreatDoor.Lat.Cp Go.Proofs.YtmdimhcjogjcgaaGreatDoor.Gr
theorem ak3 {w w' : World} {c c' : Cls} (hs : w.heap.size ≤ w'.heap.size) (ho : w'.os = w.os) (ht : w'.tape = w.tape) (hp : w'.output = w.output) (h : ∀ b i, ga c b i → b < w.heap.size → w'.heap[b]? = w.heap[b]? ∧ ga c' b i) : Ext 0 w c w' c' :=
 ⟨ho, ht, hp, hs, fun b hb => absurd hb (Nat.not_lt_zero b), fun b i v hv hb => by
  obtain ⟨h1, h2⟩ := h b i hb (World.block_lt_of_cell? w _ hv)
  exact ⟨(vd h1).trans hv, h2⟩⟩
def Sx (B : Nat) (c : Cls) (v : Value) : Cls := fun b => if v.ownBlock = some b then .box 0 else if b < B then c b else .frz
theorem acf {B b i : Nat} {c : Cls} {v : Value} : ga (Sx B c v) b i ↔ v.ownBlock ≠ some b ∧ (b < B → ga c b i) := by
 unfold ga Sx
 by_cases h : v.ownBlock = some b
 ·rw [if_pos h]; simp [h]
 ·rw [if_neg h]
  by_cases h2 : b < B
  ·rw [if_pos h2]; simp [h, h2]
  ·rw [if_neg h2]; simp [h, h2]
theorem zu {B b i : Nat} {c : Cls} : ga (fun b => if b < B then c b else .frz) b i ↔ (b < B → ga c b i) := by
 by_cases h : b < B
 ·simp [ga, h]
 ·simp [ga, h]
theorem a0c {w w' : World} {B : Nat} {c : Cls} {v v' u : Value} {a : AV} (h : Rep w (Sx B c v) u a) (hg : w.grownBy w' v.ownBlock) (hat : v'.ownBlock = v.ownBlock ∨ v'.ownBlock = some w.heap.size) : Rep w' (Sx B c v') u a :=
 h.ext (ak3 hg.size hg.os hg.tape hg.output fun b i hb hl => by
  obtain ⟨h1, h2⟩ := acf.1 hb
  refine ⟨hg.block b hl fun e => h1 e.symm, acf.2 ⟨fun e => ?_, h2⟩⟩
  rcases hat with q | q
  ·exact h1 (q.symm.trans e)
  ·rw [q] at e; cases e; omega)
end Go.Proofs.YtmdimhcjogjcgaaGreatDoor.Th
namespace Go.Proofs.YtmdimhcjogjcgaaGreatDoor.Lat
structure Hit where
 p : Bs
 v : List Tm
def abh (h : Hit) : List Abs.AV := [.str h.p, .sl 8 (al h.v)]
def mj (l : List Hit) : List (List Abs.AV) := l.map abh
theorem avf {l : List Hit} {i : Nat} {t : Hit} (h : l[i]? = some t) : (mj l)[i]? = some (abh t) := by rw [mj, List.getElem?_map, h]; rfl
theorem aqp (l : List Hit) : (mj l).length = l.length := by simp [mj]
end Go.Proofs.YtmdimhcjogjcgaaGreatDoor.Lat
namespace Go.Proofs.YtmdimhcjogjcgaaGreatDoor.Qw
open Go.RowKit Go.Lib Go.Proofs.YtmdimhcjogjcgaaGreatDoor.Abs Go.Proofs.YtmdimhcjogjcgaaGreatDoor.Lat Go.Proofs.YtmdimhcjogjcgaaGreatDoor.Lat.Cp Go.Proofs.YtmdimhcjogjcgaaGreatDoor.Gr Go.Proofs.YtmdimhcjogjcgaaGreatDoor.Th
def Hx (B b : Nat) (c : Cls) (v : Value) : Cls := fun q => if v.ownBlock = some q ∨ q = b then .box 0 else if q < B then c q else .frz
theorem aoo {B b q i : Nat} {c : Cls} {v : Value} : ga (Hx B b c v) q i ↔ (v.ownBlock ≠ some q ∧ q ≠ b) ∧ (q < B → ga c q i) := by
 unfold ga Hx
 by_cases h : v.ownBlock = some q ∨ q = b
 ·rw [if_pos h]
  simp only [false_iff, not_and]
  rintro ⟨h1, h2⟩
  rcases h with h | h
  ·exact absurd h h1
  ·exact absurd h h2
 ·rw [if_neg h]
  have h1 : v.ownBlock ≠ some q ∧ q ≠ b := ⟨fun e => h (.inl e), fun e => h (.inr e)⟩
  by_cases h2 : q < B
  ·rw [if_pos h2]; simp [h1, h2]
  ·rw [if_neg h2]; simp [h1, h2]
structure uk (w : World) (B b : Nat) (c : Cls) (v : Value) (l : List Hit) : Prop where
 ex : ∃ xs, w.ownsRow B 47 2 v l.length xs ∧ ∀ i t j a, l[i]? = some t → (abh t)[j]? = some a → ∃ u, xs[i * 2 + j]? = some u ∧ Rep w (Hx B b c v) u a
structure HI (w1 : World) (c : Cls) (b : Nat) (l : List Hit) (W : World) : Prop where
 ex : ∃ v, W.heap[b]? = some (.cells #[v] 39 (0, 0)) ∧ uk W w1.heap.size b c v l ∧ v.ownBlock ≠ some b
 bel : Below w1.heap.size w1 W
 ge : w1.heap.size ≤ b
theorem avg {w : World} {B b : Nat} {c : Cls} {v : Value} {l : List Hit} (h : uk w B b c v l) : ∀ g, v.ownBlock = some g → B ≤ g ∧ g < w.heap.size := fun g e => by
 obtain ⟨xs, ⟨h1, ⟨rfl, h2⟩ | ⟨g', cap, cur, rfl, h3, h4, _⟩⟩, _⟩ := h.ex
 ·cases e
 ·cases e; exact ⟨h3, fj h4⟩
theorem aep {w w' : World} {B b : Nat} {c : Cls} {v v' u : Value} {a : AV} (h : Rep w (Hx B b c v) u a) (hsz : w.heap.size ≤ w'.heap.size) (ho : w'.os = w.os) (ht : w'.tape = w.tape) (hp : w'.output = w.output)
  (hk : ∀ q, q < w.heap.size → v.ownBlock ≠ some q → q ≠ b → w'.heap[q]? = w.heap[q]?) (hat : v'.ownBlock = v.ownBlock ∨ v'.ownBlock = some w.heap.size ∨ v'.ownBlock = none) : Rep w' (Hx B b c v') u a :=
 h.ext (ak3 hsz ho ht hp fun q i hb hl => by
  obtain ⟨⟨h1, h0⟩, h2⟩ := aoo.1 hb
  refine ⟨hk q hl h1 h0, aoo.2 ⟨⟨fun e => ?_, h0⟩, h2⟩⟩
  rcases hat with q1 | q1 | q1
  ·exact h1 (q1.symm.trans e)
  ·rw [q1] at e; cases e; omega
  ·rw [q1] at e; cases e)
theorem uk.nil (w : World) (B b : Nat) (c : Cls) : uk w B b c (.slice none 0 0) [] := ⟨[], ⟨rfl, .inl ⟨rfl, rfl⟩⟩, fun i t j a hi => by simp at hi⟩
theorem uk.snoc {w w' : World} {B b : Nat} {c : Cls} {v v' : Value} {l : List Hit} {xs us : List Value} {t : Hit}
  (h3 : ∀ i t j a, l[i]? = some t → (abh t)[j]? = some a → ∃ u, xs[i * 2 + j]? = some u ∧ Rep w (Hx B b c v) u a) (hxs : xs.length = l.length * 2)
  (hu : ∀ (j : Nat) (a : AV), (abh t)[j]? = some a → ∃ u : Value, us[j]? = some u ∧ Rep w (Hx B b c v) u a)
  (hown : w'.ownsRow B 47 2 v' (l.length + 1) (xs ++ us)) (hg : w.grownBy w' v.ownBlock) (hat : v'.ownBlock = v.ownBlock ∨ v'.ownBlock = some w.heap.size) : uk w' B b c v' (l ++ [t]) := by
 have om : ∀ {u a}, Rep w (Hx B b c v) u a → Rep w' (Hx B b c v') u a := fun hr => aep hr hg.size hg.os hg.tape hg.output (fun q hq h1 _ => hg.block q hq fun e => h1 e.symm) (hat.imp id .inl)
 refine ⟨xs ++ us, by rw [List.length_append]; exact hown, fun i t' j a hi hj => ?_⟩
 have hj3 : j < 2 := by have := (List.getElem?_eq_some_iff.1 hj).1; simpa [abh] using this
 by_cases h : i < l.length
 ·rw [List.getElem?_append_left h] at hi
  obtain ⟨u, e, hr⟩ := h3 i t' j a hi hj
  refine ⟨u, ?_, om hr⟩
  rw [List.getElem?_append_left (by rw [hxs]; omega)]; exact e
 ·have hil := (List.getElem?_eq_some_iff.1 hi).1
  rw [List.length_append, List.length_singleton] at hil
  obtain rfl : i = l.length := by omega
  rw [List.getElem?_append_right (Nat.le_refl _), Nat.sub_self] at hi
  cases hi
  obtain ⟨u, e, hr⟩ := hu j a hj
  refine ⟨u, ?_, om hr⟩
  rw [List.getElem?_append_right (by rw [hxs]; omega), hxs, Nat.add_sub_cancel_left]; exact e
theorem uk.rep {w : World} {B b : Nat} {v : Value} {l : List Hit} {c : Cls} (h : uk w B b c v l) : Rep w (fun q => if q < B then c q else .frz) v (.sl 2 (mj l)) := by
 obtain ⟨xs, ⟨h1, h2⟩, h3⟩ := h.ex
 have hR : ∀ {u a}, Rep w (Hx B b c v) u a → Rep w (fun q => if q < B then c q else .frz) u a := fun hr => hr.ext (ak3 (Nat.le_refl _) rfl rfl rfl fun q i hb _ => ⟨rfl, zu.2 (aoo.1 hb).2⟩)
 rcases h2 with ⟨rfl, h2⟩ | ⟨g, cap, cur, rfl, h4, h5, h6, h7, h8, h9⟩
 ·obtain rfl := List.eq_nil_of_length_eq_zero h2
  exact .nil _
 ·have hl := aqp l
  rw [← hl]
  have hcell : ∀ i t j a, l[i]? = some t → (abh t)[j]? = some a → ∃ u, cur[i * 2 + j]? = some u ∧ Rep w (fun q => if q < B then c q else .frz) u a := fun i t j a hi hj => by
   obtain ⟨u, e, hr⟩ := h3 i t j a hi hj
   refine ⟨u, ?_, hR hr⟩
   rw [← h9, List.getElem?_take] at e
   split at e
   ·simpa using e
   ·cases e
  refine Rep.sl g 0 cap 2 _ (fun i j => cur.getD (i * 2 + j) undef) (by omega) (fun i cs hi => ?_) (fun i j hi hj => ?_) (fun i j hi hj => zu.2 fun h => by omega) (fun i j cs a hi hj => ?_)
  ·rw [mj, List.getElem?_map] at hi
   cases hx : l[i]? with
   | none => rw [hx] at hi; cases hi
   | some f => rw [hx] at hi; cases hi; rfl
  ·rw [cell_of h5, Nat.zero_add]
   have : i * 2 + j < cur.size := by omega
   simp [Array.getD_eq_getD_getElem?, this]
  ·rw [mj, List.getElem?_map] at hi
   cases hx : l[i]? with
   | none => rw [hx] at hi; cases hi
   | some t =>
    rw [hx] at hi; cases hi
    obtain ⟨u, e, hr⟩ := hcell i t j a hx hj
    show Rep w _ (cur.getD (i * 2 + j) undef) a
    simp only [Array.getD_eq_getD_getElem?, e, Option.getD_some]; exact hr
end Go.Proofs.YtmdimhcjogjcgaaGreatDoor.Qw
namespace Go.Proofs
open Go.Shelf
def Tryz.pe : Go.Shelf.Ren := ⟨fun | 146 => 100 | 221 => 132 | 268 => 176 | 138 => 177 | 143 => 178 | 195 => 223 | 197 => 224 | 218 => 225 | 219 => 226 | 260 => 265 | 217 => 266 | 225 => 267 | 224 => 268 | 267 => 269 | 266 => 289 | 314 => 290 | n => n, fun | 9 => 9 | 31 => 37 | 3 => 3 | 4 => 4 | 0 => 0 | 105 => 254 | 21 => 21 | 5 => 5 | 46 => 142 | 119 => 297 | 139 => 300 | 138 => 299 | 146 => 301 | 51 => 293 | n => n, fun | 1 => 3 | 3 => 5 | 4 => 6 | n => n⟩
theorem Tryz.bcj : Go.Proofs.Lays.n146 Tryz.prog Tryz.pe := {
 mixed := by kernel_rfl
 f138 := Tryz.func177.trans (congrArg some (by kernel_rfl))
 f143 := Tryz.func178.trans (congrArg some (by kernel_rfl))
 f146 := Tryz.func100.trans (congrArg some (by kernel_rfl))
 f195 := Tryz.func223.trans (congrArg some (by kernel_rfl))
 f197 := Tryz.func224.trans (congrArg some (by kernel_rfl))
 f217 := Tryz.func266.trans (congrArg some (by kernel_rfl))
 f218 := Tryz.func225.trans (congrArg some (by kernel_rfl))
 f219 := Tryz.func226.trans (congrArg some (by kernel_rfl))
 f221 := Tryz.func132.trans (congrArg some (by kernel_rfl))
 f224 := Tryz.func268.trans (congrArg some (by kernel_rfl))
 f225 := Tryz.func267.trans (congrArg some (by kernel_rfl))
 f260 := Tryz.func265.trans (congrArg some (by kernel_rfl))
 f266 := Tryz.func289.trans (congrArg some (by kernel_rfl))
 f267 := Tryz.func269.trans (congrArg some (by kernel_rfl))
 f268 := Tryz.func176.trans (congrArg some (by kernel_rfl))
 f314 := Tryz.func290.trans (congrArg some (by kernel_rfl))
 t0 := Tryz.underlying0
 a0 := Tryz.isAgg0
 z0 := Tryz.sizeOf0
 v0 := Tryz.zeroValue0
 t3 := Tryz.underlying3
 a3 := Tryz.isAgg3
 z3 := Tryz.sizeOf3
 v3 := Tryz.zeroValue3
 t4 := Tryz.underlying4
 a4 := Tryz.isAgg4
 z4 := Tryz.sizeOf4
 v4 := Tryz.zeroValue4
 t5 := Tryz.underlying5
 a5 := Tryz.isAgg5
 z5 := Tryz.sizeOf5
 v5 := Tryz.zeroValue5
 t9 := Tryz.underlying9
 a9 := Tryz.isAgg9
 z9 := Tryz.sizeOf9
 v9 := Tryz.zeroValue9
 t21 := Tryz.underlying21
 a21 := Tryz.isAgg21
 z21 := Tryz.sizeOf21
 v21 := Tryz.zeroValue21
 t31 := Tryz.underlying37
 a31 := Tryz.isAgg37
 z31 := Tryz.sizeOf37
 v31 := Tryz.zeroValue37
 t46 := Tryz.underlying142
 a46 := Tryz.isAgg142
 z46 := Tryz.sizeOf142
 v46 := Tryz.zeroValue142
 t51 := Tryz.underlying293
 a51 := Tryz.isAgg293
 z51 := Tryz.sizeOf293
 v51 := Tryz.zeroValue293
 t105 := Tryz.underlying254
 a105 := Tryz.isAgg254
 z105 := Tryz.sizeOf254
 v105 := Tryz.zeroValue254
 t119 := Tryz.underlying297
 a119 := Tryz.isAgg297
 z119 := Tryz.sizeOf297
 t138 := Tryz.underlying299
 a138 := Tryz.isAgg299
 z138 := Tryz.sizeOf299
 v138 := Tryz.zeroValue299
 t139 := Tryz.underlying300
 a139 := Tryz.isAgg300
 z139 := Tryz.sizeOf300
 v139 := Tryz.zeroValue300
 t146 := Tryz.underlying301
 a146 := Tryz.isAgg301
 z146 := Tryz.sizeOf301
 v146 := Tryz.zeroValue301
 g1 := by kernel_rfl
 g3 := by kernel_rfl
 g4 := by kernel_rfl }
end Go.Proofs
namespace Go.Proofs
open Go.Shelf
def Tryz.aap : Go.Shelf.Ren := ⟨fun | 156 => 107 | 165 => 142 | 166 => 74 | 169 => 75 | 240 => 109 | 241 => 189 | 276 => 143 | 277 => 237 | n => n, fun | 31 => 37 | 9 => 9 | 3 => 3 | 4 => 4 | 0 => 0 | 20 => 20 | 72 => 125 | 76 => 128 | 70 => 123 | 37 => 91 | 75 => 127 | 127 => 171 | 164 => 200 | 5 => 5 | 80 => 130 | n => n, fun | n => n⟩
theorem Tryz.aje : Go.Proofs.Lays.n156 Tryz.prog Tryz.aap := {
 mixed := by kernel_rfl
 f156 := Tryz.func107.trans (congrArg some (by kernel_rfl))
 f165 := Tryz.func142.trans (congrArg some (by kernel_rfl))
 f166 := Tryz.func74.trans (congrArg some (by kernel_rfl))
 f169 := Tryz.func75.trans (congrArg some (by kernel_rfl))
 f240 := Tryz.func109.trans (congrArg some (by kernel_rfl))
 f241 := Tryz.func189.trans (congrArg some (by kernel_rfl))
 f276 := Tryz.func143.trans (congrArg some (by kernel_rfl))
 f277 := Tryz.func237.trans (congrArg some (by kernel_rfl))
 t0 := Tryz.underlying0
 a0 := Tryz.isAgg0
 z0 := Tryz.sizeOf0
 v0 := Tryz.zeroValue0
 t3 := Tryz.underlying3
 a3 := Tryz.isAgg3
 z3 := Tryz.sizeOf3
 v3 := Tryz.zeroValue3
 t4 := Tryz.underlying4
 a4 := Tryz.isAgg4
 z4 := Tryz.sizeOf4
 v4 := Tryz.zeroValue4
 t9 := Tryz.underlying9
 a9 := Tryz.isAgg9
 z9 := Tryz.sizeOf9
 v9 := Tryz.zeroValue9
 t20 := Tryz.underlying20
 a20 := Tryz.isAgg20
 z20 := Tryz.sizeOf20
 v20 := Tryz.zeroValue20
 t31 := Tryz.underlying37
 a31 := Tryz.isAgg37
 z31 := Tryz.sizeOf37
 v31 := Tryz.zeroValue37
 t37 := Tryz.underlying91
 a37 := Tryz.isAgg91
 z37 := Tryz.sizeOf91
 v37 := Tryz.zeroValue91
 t70 := Tryz.underlying123
 a70 := Tryz.isAgg123
 z70 := Tryz.sizeOf123
 v70 := Tryz.zeroValue123
 t72 := Tryz.underlying125
 a72 := Tryz.isAgg125
 z72 := Tryz.sizeOf125
 v72 := Tryz.zeroValue125
 t75 := Tryz.underlying127
 a75 := Tryz.isAgg127
 z75 := Tryz.sizeOf127
 v75 := Tryz.zeroValue127
 t76 := Tryz.underlying128
 a76 := Tryz.isAgg128
 z76 := Tryz.sizeOf128
 v76 := Tryz.zeroValue128
 t127 := Tryz.underlying171
 a127 := Tryz.isAgg171
 z127 := Tryz.sizeOf171
 v127 := Tryz.zeroValue171
 t164 := Tryz.underlying200
 a164 := Tryz.isAgg200
 z164 := Tryz.sizeOf200
 v164 := Tryz.zeroValue200 }
theorem Tryz.rm : Builder.Extra Tryz.prog Tryz.aap := {
 sizeBuilder := by kernel_rfl
 liesBuilder := by kernel_rfl
 t5 := Tryz.underlying5
 a5 := Tryz.isAgg5
 z5 := Tryz.sizeOf5
 v5 := Tryz.zeroValue5
 infoByte := by kernel_rfl
 cellsByte := by kernel_rfl
 sizeByte := by kernel_rfl
 neB5 := by decide }
open Go.RowKit in
theorem Tryz.strings_Join_none (a : Option Addr) (c : Nat) (sep : ByteArray) (w : World) :
  Calls Tryz.prog 107 #[.slice a 0 c, .string sep] w fun e w' => e = .returned (.string ⟨#[]⟩) ∧ w' = w := Any.strings_Join_none Tryz.aje Tryz.rm a c sep w
open Go.RowKit in
theorem Tryz.strings_Join (bk o c : Nat) (xs : List ByteArray) (sep : ByteArray) (w : World) (hcells : ∀ (j : Nat) x, xs[j]? = some x → w.cell? ⟨bk, o + j, none⟩ = some (.string x)) (hbk : bk < w.heap.size) (hN : xs.length ≤ 140737488355328) (hcap : xs.length ≤ c) (hlen : (Lib.join (xs.map (·.data.toList)) sep.data.toList).length ≤ 140737488355328) :
  Calls Tryz.prog 107 #[.slice (some ⟨bk, o, none⟩) xs.length c, .string sep] w fun e w' => e = .returned (.string ⟨(Lib.join (xs.map (·.data.toList)) sep.data.toList).toArray⟩) ∧ Below w.heap.size w w' := Any.strings_Join Tryz.aje Tryz.rm bk o c xs sep w hcells hbk hN hcap hlen
end Go.Proofs
