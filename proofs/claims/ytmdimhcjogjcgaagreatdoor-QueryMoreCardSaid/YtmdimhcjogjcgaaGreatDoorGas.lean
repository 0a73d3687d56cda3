/- Graphs in memory: Order. -/
import Derived.Test.YtmdimhcjogjcgaaGreatDoorGar
set_option linter.all false
set_option maxRecDepth 100000
set_option maxHeartbeats 16000000
noncomputable section
namespace Go.Proofs.YtmdimhcjogjcgaaGreatDoor.Gr
open Go.RowKit Go.Lib Go.Proofs.YtmdimhcjogjcgaaGreatDoor.Lat Go.Proofs.YtmdimhcjogjcgaaGreatDoor.Mp Go.Maps
theorem a52 : (Tryz.prog.info? 9).map (fun i => (i.zero, i.size, i.bytes)) = some (some (.string ⟨#[]⟩), 1, 16) := by kernel_rfl
def cv (c : Nat) : Value := .int .i64 ((c : Nat) : Int)
def jv (C : Bs → Option Nat) : Ks → Option Value := fun k => (C k).map cv
theorem avs (C : Bs → Option Nat) (k : Bs) (c : Nat) : upd (jv C) k (some (cv c)) = jv (upd C k (some c)) := by
 funext x
 by_cases hx : x = k
 ·subst hx; simp [upd, jv]
 ·simp [upd, jv, hx]
theorem avt (C : Bs → Option Nat) (k : Bs) : upd (jv C) k none = jv (upd C k none) := by
 funext x
 by_cases hx : x = k
 ·subst hx; simp [upd, jv]
 ·simp [upd, jv, hx]
theorem aea {w : World} {b n : Nat} {C : Bs → Option Nat} {k : Bs} {c : Nat} (h : fh Tryz.prog 9 w b n (jv C)) (hk : k.length ≤ maxLen) (hc : C k = some c) : (Instr.lookup 219 (.map (some b)) (.string ⟨k.toArray⟩) false).run Tryz.prog w = .ok (.int .i64 (c : Nat)) w := by
 have := h.apk Tryz.underlying9 Tryz.underlying219 (Tryz.zeroValue3 w) ⟨k.toArray⟩ (by rw [size_mk]; exact hk)
 rw [this]
 try rw [rj]
 unfold jv
 rw [hc]; rfl
theorem ail {w : World} {b n : Nat} {C : Bs → Option Nat} (h : fh Tryz.prog 9 w b n (jv C)) (k : Bs) (hk : k.length ≤ maxLen) (hn : n < maxLen) (c : Nat) :
  ∃ w', (Instr.mapUpdate 219 (.map (some b)) (.string ⟨k.toArray⟩) (.int .i64 (c : Nat))).run Tryz.prog w = .ok () w' ∧ Ax (fh Tryz.prog 9 w' b (n + 1) (jv (upd C k (some c))) ∧ w.grownBy w' (some b)) := by
 obtain ⟨w', h1, h2, h3⟩ := h.store Tryz.underlying9 Tryz.underlying219 hn ⟨k.toArray⟩ (by rw [size_mk]; exact hk) (.int .i64 (c : Nat))
 try rw [rj] at h2
 refine ⟨w', h1, ?_, h3.grown⟩
 rw [← avs]; exact h2
theorem avu {w : World} {b n : Nat} {C : Bs → Option Nat} (h : fh Tryz.prog 9 w b n (jv C)) (k : Bs) (hk : k.length ≤ maxLen) (ty : TypeId) :
  ∃ w', (Builtin.delete_ #[219, 9] ty #[.map (some b), .string ⟨k.toArray⟩]).run Tryz.prog w = .ok (.tuple #[]) w' ∧ Ax (fh Tryz.prog 9 w' b n (jv (upd C k none)) ∧ w.grownBy w' (some b)) := by
 obtain ⟨w', h1, h2, h3⟩ := h.drop Tryz.underlying9 Tryz.underlying219 ⟨k.toArray⟩ (by rw [size_mk]; exact hk) ty
 try rw [rj] at h2
 refine ⟨w', h1, ?_, h3.grown⟩
 rw [← avt]; exact h2
structure Fs (f : Gr) (P : List Bs) (bl : Nat) (wB : World) (i : Nat) (vf : Value) (W : World) : Prop where
 gr : wB.grownBy W (some bl)
 ex : ∃ (C : Bs → Option Nat) (fr : List Bs), fh Tryz.prog 9 W bl i (jv C) ∧ (∀ k, C k ≠ none ↔ k ∈ P.take i) ∧ (∀ k c, C k = some c → c = ((f k).getD []).length) ∧
  W.ownsRow wB.heap.size 9 1 vf fr.length (fr.map encStr) ∧ fr = (P.take i).filter fun k => decide (((f k).getD []).length = 0)
theorem ahb {w w' : World} {m : Nat} {es : Array MapEntry} {c : Nat} (hm : w.heap[m]? = some (.map es c)) (hk : w.grownBy w' (some m)) {B : Nat} {v : Value} {n : Nat} {xs : List Value} (h : w.ownsRow B 9 1 v n xs) : w'.ownsRow B 9 1 v n xs :=
 tp h fun b cs t fr hb _ _ => hk.block b (dz hb) fun e => by cases e; rw [hb] at hm; cases hm
theorem aim {wB W W' : World} {bl : Nat} {o : Option Nat} (h : wB.grownBy W (some bl)) (k : W.grownBy W' o) (ho : ∀ g, o = some g → g = bl ∨ wB.heap.size ≤ g) : wB.grownBy W' (some bl) :=
 ⟨k.os.trans h.os, k.tape.trans h.tape, k.output.trans h.output, Nat.le_trans h.size k.size, fun i hi hr => (k.block i (Nat.lt_of_lt_of_le hi h.size) fun e => by
  rcases ho i e.symm with h1 | h1
  ·exact hr (by rw [h1])
  ·omega).trans (h.block i hi hr)⟩
theorem afo {w : World} {m g i : Nat} {x : Value} {es : Array MapEntry} {c : Nat} (hm : w.heap[m]? = some (.map es c)) (h : w.cell? ⟨g, i, none⟩ = some x) : g ≠ m := fun e => by
 subst e
 simp [World.cell?, hm] at h
structure Os (wA : World) (bl nl : Nat) (out : List Bs) (C : Bs → Option Nat) (fr : List Bs) (vl vf : Value) (W : World) : Prop where
 gr : wA.grownBy W (some bl)
 mp : fh Tryz.prog 9 W bl nl (jv C)
 rl : W.ownsRow wA.heap.size 9 1 vl out.length (out.map encStr)
 rf : RdS W 0 vf fr
 ne : ∀ g, vl.ownBlock = some g → vf.ownBlock ≠ some g
theorem a8l {w : World} {l : List Bs} {x : Bs} {t : TypeId} : ∀ (w1 : World) (v : Value), Ax (w1.ownsRow w.heap.size 9 1 v l.length (l.map encStr) ∧ Below w.heap.size w w1) → zs w (w1.alloc (.cells #[encStr x] t)) v w1.heap.size l x := fun w1 v h =>
 ⟨dp h.out.2 (Nat.le_refl _) ((Below.refl _ w1).alloc (Nat.le_refl _) _), ko h.out.1 ((Below.refl _ w1).alloc (Nat.le_refl _) _), ⟨t, heap_alloc_new w1 _⟩, fun g hg => by have := (so h.out.1 hg).2; omega⟩
theorem ayv {w W : World} {v : Value} {vb : Nat} {l : List Bs} {x : Bs} (hH : zs w W v vb l x) (hl : l.length ≤ 1073741824) :
  Calls Tryz.prog 159 #[v, .int .i64 (pos l x : Nat), .slice (some ⟨vb, 0, none⟩) 1 1] W fun e w' => ∃ v3, e = .returned v3 ∧ Ax (w'.ownsRow w.heap.size 9 1 v3 (xq l x).length ((xq l x).map encStr) ∧ Below w.heap.size w w') := by
 obtain ⟨t, hblk⟩ := hH.blk
 refine (afn hH.row hH.bel.size hl (pos l x) (afl l x) x vb t hblk hH.ne).mono fun e w' ⟨v3, he, hrow, hg⟩ => ⟨v3, he, ⟨hrow, ?_⟩⟩
 refine ⟨hg.os.trans hH.bel.os, hg.tape.trans hH.bel.tape, hg.output.trans hH.bel.output, Nat.le_trans hH.bel.size hg.size, fun k hk => (hg.block k (Nat.lt_of_lt_of_le hk hH.bel.size) fun e => ?_).trans (hH.bel.block k hk)⟩
 have := (so hH.row e.symm).1
 omega
theorem alj {w : World} {m : Nat} {es : Array MapEntry} {c : Nat} (hm : w.heap[m]? = some (.map es c)) {B : Nat} {v : Value} {n : Nat} {xs : List Value} (h : w.ownsRow B 9 1 v n xs) : some m ≠ v.ownBlock := fun e => by
 obtain ⟨h1, ⟨rfl, h2⟩ | ⟨g, cap, cur, rfl, h3, h4, _⟩⟩ := h
 ·cases e
 ·cases e; rw [h4] at hm; cases hm
theorem avv {f : Gr} {P : List Bs} {i : Nat} {k : Bs} (hk : P[i]? = some k) {C : Bs → Option Nat} {fr : List Bs} (hdom : ∀ k, C k ≠ none ↔ k ∈ P.take i) (hval : ∀ k c, C k = some c → c = ((f k).getD []).length) (hfr : fr = (P.take i).filter fun k => decide (((f k).getD []).length = 0)) {c : Nat} (hc : ((f k).getD []).length = c) :
  (∀ x, upd C k (some c) x ≠ none ↔ x ∈ P.take (i + 1)) ∧ (∀ x d, upd C k (some c) x = some d → d = ((f x).getD []).length) ∧
  (c = 0 → fr ++ [k] = (P.take (i + 1)).filter fun k => decide (((f k).getD []).length = 0)) ∧ (c ≠ 0 → fr = (P.take (i + 1)).filter fun k => decide (((f k).getD []).length = 0)) := by
 have e : P.take (i + 1) = P.take i ++ [k] := by rw [List.take_add_one, hk]; rfl
 refine ⟨fun x => ?_, fun x d hd => ?_, fun h0 => ?_, fun h0 => ?_⟩
 ·rw [qt hk, ← hdom x]
  by_cases hx : x = k
  ·subst hx; rw [jf]; simp
  ·rw [pc _ _ hx]; simp [hx]
 ·by_cases hx : x = k
  ·subst hx; rw [jf] at hd; cases hd; exact hc.symm
  ·rw [pc _ _ hx] at hd; exact hval x d hd
 ·rw [e, List.filter_append, ← hfr]
  congr 1
  rw [List.filter_cons_of_pos (by rw [hc, h0]; rfl)]; rfl
 ·rw [e, List.filter_append, ← hfr, List.filter_cons_of_neg (by rw [hc]; simpa using h0)]
  simp
theorem aog {f : Gr} {P : List Bs} {bl i : Nat} {wB wr w4 w5 w6 : World} {v6 v' : Value} {k : Bs} (hM : Fs f P bl wB i v6 wr) (hk : P[i]? = some k) {C : Bs → Option Nat} {fr' : List Bs} (hB4 : Below wr.heap.size wr w4) (h5 : Ax (fh Tryz.prog 9 w5 bl (i + 1) (jv C) ∧ w4.grownBy w5 (some bl)))
  {o : Option Nat} (hg : w5.grownBy w6 o) (ho : ∀ g, o = some g → wB.heap.size ≤ g ∧ g ≠ bl) (h1 : ∀ x, C x ≠ none ↔ x ∈ P.take (i + 1)) (h2 : ∀ x d, C x = some d → d = ((f x).getD []).length) (h3 : fr' = (P.take (i + 1)).filter fun k => decide (((f k).getD []).length = 0)) (hr : w6.ownsRow wB.heap.size 9 1 v' fr'.length (fr'.map encStr)) : Fs f P bl wB (i + 1) v' w6 :=
 ⟨aim (dv (dv hM.gr (gn _ hB4)) h5.out.2) hg fun g e => .inr (ho g e).1, C, fr', h5.out.1.uj (hg.block _ h5.out.1.lt fun e => (ho bl e.symm).2 rfl), h1, h2, hr, h3⟩
theorem apr (w : World) {ops : Array Oper} {rest : List Oper} {o : Oper} {a : Act} {Q : Exit → Act → World → Prop} (hg : o.guard = none) (m x : Operand) (hop : o.op = Op.call { callee := Callee.builtin Builtin.delete, args := #[m, x], argTypes := #[219, 9] })
  (bl n : Nat) (C : Bs → Option Nat) (k : Bs) (hk : k.length ≤ maxLen) (hm : a.eval m = .map (some bl)) (hx : a.eval x = .string ⟨k.toArray⟩) (h : fh Tryz.prog 9 w bl n (jv C))
  (hK : ∀ w', Ax (fh Tryz.prog 9 w' bl n (jv (upd C k none)) ∧ w.grownBy w' (some bl)) → wpList Tryz.prog ops Q rest (a.put o.dst (.tuple #[])) w') : wpList Tryz.prog ops Q (o :: rest) a w := by
 refine wpList_plain hg fun K' hK' => ?_
 obtain ⟨w', hrun, r⟩ := avu h k hk o.type
 unfold Oper.wp
 simp [execOp, hop, resolve, invoke, builtin, hm, hx, hrun, Result.andThen]
 exact hK' _ _ (hK w' r)
theorem a2u {wA W W' : World} {bl nl : Nat} {out : List Bs} {C C' : Bs → Option Nat} {fr : List Bs} {vl vf : Value} (h : Os wA bl nl out C fr vl vf W) (h' : Ax (fh Tryz.prog 9 W' bl (nl + 1) (jv C') ∧ W.grownBy W' (some bl))) : Os wA bl (nl + 1) out C' fr vl vf W' := by
 obtain ⟨es, c, hm⟩ := h.mp.blk
 exact ⟨dv h.gr h'.out.2, h'.out.1, ahb hm h'.out.2 h.rl, h.rf.map h'.out.2 hm, h.ne⟩
theorem xt {wA W W' : World} {bl nl : Nat} {out : List Bs} {C : Bs → Option Nat} {fr : List Bs} {vl vf : Value} (h : Os wA bl nl out C fr vl vf W) (hB : Below W.heap.size W W') : Os wA bl nl out C fr vl vf W' :=
 ⟨dv h.gr (gn _ hB), h.mp.uj (hB.block _ h.mp.lt), ko h.rl hB, h.rf.below hB, h.ne⟩
theorem ayw {wA W W' : World} {bl nl : Nat} {out : List Bs} {C : Bs → Option Nat} {fr fr' : List Bs} {vl vf v3 : Value} (h : Os wA bl nl out C fr vl vf W) (hB : Below W.heap.size W W') (hr : W'.ownsRow W.heap.size 9 1 v3 fr'.length (fr'.map encStr)) : Os wA bl nl out C fr' vl v3 W' :=
 have h' := xt h hB
 ⟨h'.gr, h'.mp, h'.rl, ali (my hr (Nat.zero_le _)), fun g hg e => by
  have h1 := (so hr e).1
  have h2 := (so h.rl hg).2
  omega⟩
theorem a2v {wA W w1 w2 w3 : World} {bl nl : Nat} {out r : List Bs} {C : Bs → Option Nat} {k : Bs} {vl vl' vf vf' : Value} {x : Obj} (h : Os wA bl nl out C (k :: r) vl vf W) (hB1 : Below W.heap.size W w1) (hrd : RdS w1 0 vf' r) (hown : vf'.ownBlock = vf.ownBlock)
  (hrow : w2.ownsRow wA.heap.size 9 1 vl' (out ++ [k]).length ((out ++ [k]).map encStr)) (hg : (w1.alloc x).grownBy w2 vl.ownBlock) (hloc : vl'.ownBlock = vl.ownBlock ∨ vl'.ownBlock = some (w1.alloc x).heap.size)
  (h3 : Ax (fh Tryz.prog 9 w3 bl nl (jv (upd C k none)) ∧ w2.grownBy w3 (some bl))) : Os wA bl nl (out ++ [k]) (upd C k none) r vl' vf' w3 := by
 have hO1 := xt h hB1
 obtain ⟨es, c, hm⟩ := hO1.mp.blk
 have hg' : w1.grownBy w2 vl.ownBlock := dv (gn _ ((Below.refl _ w1).alloc (Nat.le_refl _) x)) hg
 have hm2 : w2.heap[bl]? = some (.map es c) := (hg'.block bl hO1.mp.lt (alj hm hO1.rl)).trans hm
 have hrd2 : RdS w2 0 vf' r := hrd.kept hg'.size fun b cs t fr hb hv => hg'.block b (dz hb) fun e => h.ne b e.symm (by rw [← hown]; exact hv)
 refine ⟨dv (aim hO1.gr hg' fun g e => .inr (so hO1.rl e).1) h3.out.2, h3.out.1, ahb hm2 h3.out.2 hrow, hrd2.map h3.out.2 hm2, fun g hgv hf => ?_⟩
 rw [hown] at hf
 rcases hloc with e | e
 ·exact h.ne g (e ▸ hgv) hf
 ·rw [e] at hgv
  cases hgv
  have := h.rf.lt hf
  have h2 := hB1.size
  simp at this
  omega
theorem asj {w : World} {B bg bm n N : Nat} {f : Gr} (h : IsG w B bg bm n f) (hok : ly f) (hF : Few f N) (hN : N ≤ 16384) (hn : n ≤ 1073741824) :
  Calls Tryz.prog 118 #[.pointer (some ⟨bg, 0, none⟩)] w fun e w' => ∃ vl vb out bound, e = .returned (.tuple #[vl, vb]) ∧ ajr f out bound ∧ w'.ownsRow w.heap.size 9 1 vl out.length (out.map encStr) ∧ w'.ownsRow w.heap.size 9 1 vb bound.length (bound.map encStr) ∧ Below w.heap.size w w' := by
 have C1 := Lib.hid (apo h hok hF hN hn)
 have hI := Lib.hid h
 have hmm := @run_makeMap Tryz.prog
 go_enter Tryz.func118, Tryz.ntmps118
 go_wp2_with fail
 refine C1.out.mono ?_
 rintro e w1 ⟨bg', bm', f', rfl, hIb, hokb, hptb, hlnb, hB1⟩
 have CP := Lib.hid fun W (hW : Below w.heap.size w W) => aay (hI.out.below hW) hn
 have hW1 : Below w.heap.size w (w1.alloc (.map #[] 0)) := dp hB1 (Nat.le_refl _) ((Below.refl _ w1).alloc (Nat.le_refl _) _)
 have hIb1 := hIb.below (w' := w1.alloc (.map #[] 0)) ((Below.refl _ w1).alloc (Nat.le_refl _) _)
 have hM1 : fh Tryz.prog 9 (w1.alloc (.map #[] 0)) w1.heap.size 0 (jv fun _ => none) := fh.made Tryz.prog 9 w1
 obtain ⟨bl, hbl⟩ : ∃ bl, w1.heap.size = bl := ⟨_, rfl⟩
 have hbl0 : w.heap.size ≤ bl := by rw [← hbl]; exact hB1.size
 replace hIb1 := Lib.hid hIb1
 replace hM1 := Lib.hid hM1
 replace hW1 := Lib.hid hW1
 have hbmlt : bm' < w1.heap.size := by obtain ⟨F, h1, _⟩ := hIb.map; exact h1.lt
 clear C1 hB1 hIb
 go_wp2_with fail
 refine (CP.out _ hW1.out).mono ?_
 rw [hbl] at *
 generalize w1.alloc (.map #[] 0) = w2 at *
 clear hbl
 rintro e wB ⟨vP, P, rfl, hP, hrowP, hBB⟩
 have hPN := hF.pts hP
 have hrdP := ali (my hrowP (Nat.zero_le _))
 have hPp : ∀ k ∈ P, f k ≠ none := fun k hk => (hP.mem k).1 hk
 have hS0 : Fs f P bl wB 0 (.slice none 0 0) wB := ⟨mz _ _, fun _ => none, [], hM1.out.uj (hBB.block _ hM1.out.lt), by simp, by simp, ⟨rfl, .inl ⟨rfl, rfl⟩⟩, rfl⟩
 have hIbB := Lib.hid (hIb1.out.below hBB)
 have hWB := dp hW1.out (Nat.le_refl _) hBB
 have hIB := Lib.hid (hI.out.below hWB)
 replace hWB := Lib.hid hWB
 obtain ⟨esB, cB, hmapB⟩ : ∃ es c, wB.heap[bl]? = some (.map es c) := (hM1.out.uj (hBB.block _ hM1.out.lt)).blk
 obtain ⟨A, cap, rfl, hA⟩ := j9 hrowP
 replace hA := Lib.hid hA
 replace hP := Lib.hid hP
 replace hS0 := Lib.hid hS0
 replace hrdP := Lib.hid hrdP
 replace hmapB := Lib.hid hmapB
 have hbmw : bm < w.heap.size := by obtain ⟨_, h1, _⟩ := hI.out.map; exact h1.lt
 obtain ⟨i0, hi, hz0, hz1, hz2⟩ := info_parts a52
 clear hBB hrowP CP hIb1 hM1 hmm
 go_wp2_with fail
 go_loopg [6, 20] P.length (fun gk v6 v20 W => ∃ i : Nat, i + gk = P.length ∧ v20 = .int .i64 i ∧ Ax (Fs f P bl wB i v6 W))
 case atStart => exact ⟨0, by omega, rfl, ⟨hS0.out⟩⟩
 case round =>
  clear hS0
  obtain ⟨i, hig, rfl, HM⟩ := hrel
  by_cases hi' : i < P.length
  ·obtain ⟨g1, rfl⟩ : ∃ j, gk = j + 1 := ⟨gk - 1, by omega⟩
   obtain ⟨k, hk⟩ : ∃ x, P[i]? = some x := ⟨P[i], List.getElem?_eq_getElem hi'⟩
   obtain ⟨g, rfl, hg, _, hcell⟩ := hA.out i k hk
   have hkp := hPp k (List.mem_of_getElem? hk)
   have hgb : g ≠ bl := afo hmapB.out hcell
   have hc : wr.cell? ⟨g, i, none⟩ = some (.string ⟨k.toArray⟩) := by rw [World.cell?_of_block (HM.out.gr.block g hg (by simpa using hgb))]; exact hcell
   have hgr := hIB.out.other HM.out.gr hmapB.out (by omega)
   have C4 := Lib.hid (ale hgr ⟨k.toArray⟩ (by rw [size_mk]; exact hF.name hkp) fun l hl => Nat.le_trans (hF.list hok hl) (by omega))
   clear hcell hgr
   go_wp2_with fail
   refine C4.out.mono ?_
   rintro e w4 ⟨v4, rfl, hrow4, hB4⟩
   try rw [rj] at hrow4
   obtain ⟨C, fr, hmp, hdom, hval, hrowf, hfr⟩ := HM.out.ex
   have hmp4 := hmp.uj (hB4.block _ hmp.lt)
   obtain ⟨c, hcl⟩ : ∃ c, ((f k).getD []).length = c := ⟨_, rfl⟩
   have hcN : c ≤ 16384 := by
    rw [← hcl]
    cases hf : f k with
    | none => simp
    | some l => exact Nat.le_trans (hF.list hok hf) hN
   obtain ⟨w5, hst, h5⟩ := ail hmp4 k (hF.name hkp) (by unfold maxLen; omega) c
   have hlk := aea h5.out.1 (hF.name hkp) (jf C k (some c))
   obtain ⟨es4, c4, hmap4⟩ := hmp4.blk
   have hrow5 := ahb hmap4 h5.out.2 (ko hrowf hB4)
   obtain ⟨es5, c5, hmap5⟩ := h5.out.1.blk
   have hpl := avv hk hdom hval hfr hcl
   obtain ⟨A4, cap4, rfl, _⟩ := j9 hrow4
   have hfrl : fr.length ≤ P.length := by rw [hfr]; exact Nat.le_trans (List.length_filter_le _ _) (by simp; omega)
   have hwB5 : wB.heap.size ≤ w5.heap.size := Nat.le_trans HM.out.gr.size (Nat.le_trans hB4.size h5.out.2.size)
   rw [hcl] at hrow4 ⊢
   replace hmap5 := Lib.hid hmap5
   replace hpl := Lib.hid hpl
   have hHM := Lib.hid HM
   replace hB4 := Lib.hid hB4
   clear C4 hmp hmp4 hrow4 hc hmap4 hrowf HM hdom hval hfr hcl
   by_cases hc0 : c = 0
   ·subst hc0
    have hst : (Instr.mapUpdate 219 (.map (some bl)) (.string ⟨k.toArray⟩) (.int .i64 0)).run Tryz.prog w4 = .ok () w5 := hst
    have hlk : (Instr.lookup 219 (.map (some bl)) (.string ⟨k.toArray⟩) false).run Tryz.prog w5 = .ok (.int .i64 0) w5 := hlk
    have b1 : fr.length + 1 ≤ maxLen := by unfold maxLen; omega
    have b2 : (fr.length + 1) * 16 ≤ 140737488355328 := by omega
    have b3 : wB.heap.size ≤ (w5.alloc (.cells #[.string ⟨k.toArray⟩] 9)).heap.size := by simp; omega
    go_wp2_with (at_builtin; refine wpList_append_own_at _ rfl _ _ 37 rfl wB.heap.size 9 i0 (.string ⟨#[]⟩) 1 16 Tryz.underlying37 hi hz0 hz1 hz2 rfl (by decide) u6 fr.length (fr.map encStr) rfl (hrow5.alloc _) ⟨w5.heap.size, 0, none⟩ 1 1 [.string ⟨k.toArray⟩] rfl rfl (cell_one_new _ _ _) (by simp [Value.oneCell']) b1 b2 b3 ?_; intro v' w6 hown' hgrow hnil hloc)
    have hg6 := dv (gn u6.ownBlock ((Below.refl _ w5).alloc (Nat.le_refl _) (.cells #[.string ⟨k.toArray⟩] 9))) hgrow
    have hrow6 : w6.ownsRow wB.heap.size 9 1 v' (fr ++ [k]).length ((fr ++ [k]).map encStr) := by
     rw [List.length_append, List.map_append]; exact hown'
    have hnx := Lib.hid (show Ax (Fs f P bl wB (i + 1) v' w6) from ⟨aog hHM.out.out hk hB4.out h5 hg6 (fun g e => ⟨(so hrow5 e).1, fun e' => alj hmap5.out hrow5 (by rw [e, e'])⟩) hpl.out.1 hpl.out.2.1 (by first | exact hpl.out.2.2.1 rfl | exact hpl.out.2.2.1 trivial) hrow6⟩)
    clear hg6 hrow6 hown' hgrow hnil hloc
    go_roundg g1
    case measure => omega
    case rel => exact ⟨i + 1, by omega, by go_num, hnx.out⟩
   ·have hc0' : ¬ (c : Int) = 0 := by omega
    have hnx := Lib.hid (show Ax (Fs f P bl wB (i + 1) u6 w5) from ⟨aog hHM.out.out hk hB4.out h5 (mz w5 none) (fun g e => by cases e) hpl.out.1 hpl.out.2.1 (hpl.out.2.2.2 hc0) hrow5⟩)
    go_wp2_with fail
    go_roundg g1
    case measure => omega
    case rel => exact ⟨i + 1, by omega, by go_num, hnx.out⟩
  ·obtain rfl : gk = 0 := by omega
   obtain rfl : i = P.length := by omega
   obtain ⟨C, fr, hmp, hdom, hval, hrowf, hfr⟩ := HM.out.ex
   rw [List.take_length] at hdom hfr
   have hInv := Inv.start hP.out hdom hval hfr
   have hgrA := HM.out.gr
   clear HM hdom hval hfr
   have hO : Os wr bl P.length [] C fr (.slice none 0 0) u6 wr := ⟨mz _ _, hmp, ⟨rfl, .inl ⟨rfl, rfl⟩⟩, ali (my hrowf (Nat.zero_le _)), fun g e => by cases e⟩
   replace hO := Lib.hid hO
   replace hInv := Lib.hid hInv
   replace hgrA := Lib.hid hgrA
   clear hmp hrowf
   generalize hwA : wr = wA at *
   obtain ⟨esA, cA, hmapA⟩ := hO.out.mp.blk
   have hIbA := hIbB.out.other hgrA.out hmapB.out (by omega)
   have hT : ∀ k : Bs, Ris ((f' k).getD []) ∧ (∀ x, x ∈ (f' k).getD [] ↔ fw f x k) ∧ ((f' k).getD []).length ≤ N := fun k => by
    refine ⟨?_, fun x => by rw [xr, hlnb], ?_⟩
    ·cases hf : f' k with
     | none => exact List.Pairwise.nil
     | some l => exact hokb.ris k l hf
    ·cases hf : f' k with
     | none => simp
     | some l => exact (hF.same hptb).list hokb hf
   have CT := fun (k : Bs) (hk : k.length ≤ maxLen) W (hW : wA.grownBy W (some bl)) => ale (hIbA.other hW hmapA (by omega)) ⟨k.toArray⟩ (by rw [size_mk]; exact hk) fun l hl => Nat.le_trans ((hF.same hptb).list hokb hl) (by omega)
   simp only [rj] at CT
   replace CT := Lib.hid CT
   replace hT := Lib.hid hT
   replace hmapA := Lib.hid hmapA
   clear hIbA
   go_wp2_with fail
   go_loopg [2, 6] P.length (fun gk v2 v6 W => ∃ (out fr : List Bs) (C : Bs → Option Nat) (nl : Nat), out.length + gk = P.length ∧ Ax (Inv f out C fr ∧ Os wA bl nl out C fr v2 v6 W ∧ nl ≤ N + N * out.length))
   case atStart => exact ⟨[], fr, C, P.length, by simp, ⟨hInv.out, hO.out, by simp; exact hPN⟩⟩
   case round =>
    clear hInv hO
    obtain ⟨out, fr2, C2, nl, hog, HQ⟩ := hrel
    cases fr2 with
    | nil =>
     obtain ⟨A6, cap6, e6, _⟩ := id HQ.out.2.1.rf
     subst e6
     obtain ⟨hv, hO, hnl⟩ := HQ.out
     obtain ⟨D, hown, hD⟩ := hO.mp
     have hlen := alb (k := 9) Tryz.underlying9 hown
     have hnd := nodup_keys (k := 9) Tryz.underlying9 hown
     have hmem := mem_keys (k := 9) Tryz.underlying9 hown
     have hsz := hown.size_le
     have houtN : out.length ≤ N := by omega
     have hNN2 : N * out.length ≤ 268435456 := by
      calc N * out.length ≤ 16384 * 16384 := Nat.mul_le_mul hN (Nat.le_trans houtN hN)
       _ = 268435456 := by decide
     have CK := Lib.hid ((callsIn_wide (n := 5)).1 (Tryz.ai9 (some bl) wr))
     have CS := Lib.hid ((callsIn_wide (n := 5)).1 (Tryz.vg bl nl D tn wr hown (by unfold maxLen; omega) (by omega)))
     have hfin : ∀ ss : List Bs, ss.Perm (strKeys D) → ajr f out (ss.mergeSort fun x y => decide (x ≤ y)) := fun ss hp => by
      have hp' := (List.mergeSort_perm ss fun x y => decide (x ≤ y)).trans hp
      refine hv.stop hok (mw (hp.nodup_iff.2 hnd)) fun k => ?_
      rw [hp'.mem_iff, hmem k, ← hD]
      unfold jv
      cases C2 k <;> simp
     have hWA := og (m := bl) hWB.out (Nat.le_refl _) hgrA.out hbl0
     have hWR := og (m := bl) hWA (Nat.le_refl _) hO.gr hbl0
     have hrl := my (B' := w.heap.size) hO.rl hWA.size
     replace hfin := Lib.hid hfin
     replace hWR := Lib.hid hWR
     replace hrl := Lib.hid hrl
     clear HQ hO hown hD hlen hnd hmem hsz hv hWA
     go_wp2_with fail
     refine CK.out.mono ?_
     rintro e w1' ⟨rfl, rfl⟩
     go_wp2_with fail
     refine CS.out.mono ?_
     rintro e w2' ⟨vb, ss, rfl, hS, hrow, hnil, hb⟩
     have hB2 : Below w.heap.size w w2' := dp hWR.out (Nat.le_refl _) (dp ((Below.refl wr.heap.size wr).alloc (Nat.le_refl _) _) (Nat.le_refl _) hb)
     have hrl2 := ko (ko hrl.out ((Below.refl wr.heap.size wr).alloc (Nat.le_refl _) _)) hb
     have hrow2 : w2'.ownsRow w.heap.size 9 1 vb (ss.mergeSort fun x y => decide (x ≤ y)).length ((ss.mergeSort fun x y => decide (x ≤ y)).map encStr) := by
      rw [List.length_mergeSort]
      refine my hrow ?_
      have := hWR.out.size
      simp; omega
     have hff := hfin.out ss hS
     replace hB2 := Lib.hid hB2
     replace hrl2 := Lib.hid hrl2
     replace hrow2 := Lib.hid hrow2
     replace hff := Lib.hid hff
     clear hb hrow hnil CS CK
     go_wp2_with fail
     go_ret2
     exact ⟨u2, vb, out, _, rfl, hff.out, hrl2.out, hrow2.out, hB2.out⟩
    | cons k r =>
     obtain ⟨hv, hO, hnl⟩ := HQ.out
     obtain ⟨hk1, hk2, hk3⟩ := hv.head
     have hout : out.length < P.length := by
      have := wo (l := out ++ [k]) (m := P) (by
       rw [List.nodup_append]
       exact ⟨hv.nd, by simp, fun a ha b hb e => by simp at hb; subst hb; subst e; exact hk2 ha⟩) fun x hx => by
        rcases List.mem_append.1 hx with hx | hx
        ·exact (hP.out.mem x).2 (hv.pt x hx)
        ·have e : x = k := by simpa using hx
         subst e; exact (hP.out.mem x).2 hk1
      simp at this; omega
     obtain ⟨g1, rfl⟩ : ∃ j, gk = j + 1 := ⟨gk - 1, by omega⟩
     have hrN : r.length ≤ N := by
      have := wo (l := k :: r) (m := P) hv.ris.nodup fun x hx => (hP.out.mem x).2 ((hv.dom x).1 (by rw [(hv.fr x).1 hx]; simp)).1
      simp at this; omega
     have hkl := hF.name hk1
     have CL := asi hO.rf (by omega)
     obtain ⟨A6, cap6, e6, _⟩ := id hO.rf
     have hrl0 := hO.rl
     subst e6
     have hNN : N * out.length + N ≤ N * N := by
      calc N * out.length + N = N * (out.length + 1) := by rw [Nat.mul_succ]
       _ ≤ N * N := Nat.mul_le_mul_left _ (by omega)
     have hNN2 : N * N ≤ 268435456 := by
      calc N * N ≤ 16384 * 16384 := Nat.mul_le_mul hN hN
       _ = 268435456 := by decide
     simp only [List.length_cons] at CL ⊢
     replace CL := Lib.hid CL
     replace hO := Lib.hid hO
     replace hv := Lib.hid hv
     clear HQ hk2 hk3
     go_wp2_with fail
     refine CL.out.mono ?_
     rintro e w1 ⟨v', rfl, hrd1, hB1, hown1⟩
     have hrl1 := ko hrl0 hB1
     have hO1 := xt hO.out hB1
     have b1 : out.length + 1 ≤ maxLen := by unfold maxLen; omega
     have b2 : (out.length + 1) * 16 ≤ 140737488355328 := by omega
     have b3 : wA.heap.size ≤ (w1.alloc (.cells #[.string ⟨k.toArray⟩] 9)).heap.size := by have := hO1.gr.size; simp; omega
     have hmpF := fun w6 (hg : (w1.alloc (.cells #[.string ⟨k.toArray⟩] 9)).grownBy w6 u2.ownBlock) => (hO1.mp.uj ((hg.block bl (Nat.lt_of_lt_of_le hO1.mp.lt (by simp)) (by obtain ⟨es, c, hm⟩ := hO1.mp.blk; exact alj hm hrl1)).trans (Below.heap_alloc _ _ _ hO1.mp.lt)) : fh Tryz.prog 9 w6 bl nl (jv C2))
     replace hmpF := Lib.hid hmpF
     replace hrd1 := Lib.hid hrd1
     replace hB1 := Lib.hid hB1
     clear hO1 CL hrl0
     go_wp2_with (first
      | (at_builtin; refine wpList_append_own_at _ rfl _ _ 37 rfl wA.heap.size 9 i0 (.string ⟨#[]⟩) 1 16 Tryz.underlying37 hi hz0 hz1 hz2 rfl (by decide) u2 out.length (out.map encStr) rfl (hrl1.alloc _) ⟨w1.heap.size, 0, none⟩ 1 1 [.string ⟨k.toArray⟩] rfl rfl (cell_one_new _ _ _) (by simp [Value.oneCell']) b1 b2 b3 ?_; intro v2' w2' hown' hgrow hnil hloc; replace hgrow := Lib.hid hgrow)
      | (at_delete; refine apr _ rfl _ _ rfl bl nl C2 k hkl rfl rfl (hmpF.out _ hgrow.out) ?_; intro w3' h3'))
     have hrow' : w2'.ownsRow wA.heap.size 9 1 v2' (out ++ [k]).length ((out ++ [k]).map encStr) := by
      rw [List.length_append, List.map_append]; exact hown'
     have hO3 := a2v hO.out hB1.out hrd1.out hown1 hrow' hgrow.out hloc h3'
     have CT3 := CT.out k hkl w3' hO3.gr
     obtain ⟨hTr, hTm, hTN⟩ := hT.out k
     generalize (f' k).getD [] = T at *
     replace CT3 := Lib.hid CT3
     replace hO3 := Lib.hid hO3
     clear hown' hgrow hloc h3' hrow' hmpF hrd1 hB1 hown1 hrl1 b1 b2 b3
     refine CT3.out.mono ?_
     rintro e w4' ⟨v4, rfl, hrowT, hB4⟩
     obtain ⟨A4, cap4, rfl, hA4⟩ := j9 hrowT
     have hO4 := xt hO3.out hB4
     obtain ⟨es4, c4, hmap4⟩ := hO4.mp.blk
     have hM0 := vi.start T hv.out
     obtain ⟨_, hk2, hk3⟩ := hv.out.head
     have hcls := hv.out.closed
     replace hA4 := Lib.hid hA4
     replace hO4 := Lib.hid hO4
     replace hM0 := Lib.hid hM0
     replace hmap4 := Lib.hid hmap4
     replace hk3 := Lib.hid hk3
     replace hcls := Lib.hid hcls
     replace hTm := Lib.hid hTm
     replace hTr := Lib.hid hTr
     clear hrowT hB4 CT3 hO3
     go_wp2_with fail
     go_loopg [6, 57] T.length (fun gk v6 v57 W => ∃ (j : Nat) (fr : List Bs) (C : Bs → Option Nat) (nl' : Nat), j + gk = T.length ∧ v57 = .int .i64 j ∧ Ax (vi f out k T j C fr ∧ Os wA bl nl' (out ++ [k]) C fr v2' v6 W ∧ nl' ≤ nl + j ∧ w4'.grownBy W (some bl)))
     case atStart => exact ⟨0, r, _, nl, by omega, rfl, ⟨hM0.out, hO4.out, Nat.le_refl _, mz _ _⟩⟩
     case round =>
      clear hM0 hO4
      obtain ⟨j, fr, C, nl', hjg, rfl, HJ⟩ := hrel
      by_cases hj : j < T.length
      ·obtain ⟨g2, rfl⟩ : ∃ j, gk = j + 1 := ⟨gk - 1, by omega⟩
       obtain ⟨x, hx⟩ : ∃ x, T[j]? = some x := ⟨T[j], List.getElem?_eq_getElem hj⟩
       obtain ⟨hm, hOj, hnj, hgj⟩ := HJ.out
       obtain ⟨q, rfl, hq, _, hcell⟩ := hA4.out j x hx
       have hqb : q ≠ bl := afo hmap4.out hcell
       have hc : wr.cell? ⟨q, j, none⟩ = some (.string ⟨x.toArray⟩) := by rw [World.cell?_of_block (hgj.block q hq (by simpa using hqb))]; exact hcell
       obtain ⟨c, hC, hcl, hfx, hne, heq⟩ := hm.step hok hTr.out hTm.out hk2 hk3.out hcls.out hx
       have hxl := hF.name hfx
       have hcN : c ≤ 16384 := by
        cases hf : f x with
        | none => exact absurd hf hfx
        | some l =>
         rw [hf] at hcl
         have := hF.list hok hf
         simp at hcl; omega
       have hlk : (Instr.lookup 219 (.map (some bl)) (.string ⟨x.toArray⟩) false).run Tryz.prog wr = .ok (.int .i64 ((c : Int) + 1)) wr := aea hOj.mp hxl hC
       obtain ⟨w5, hst, h5⟩ := ail hOj.mp x hxl (by unfold maxLen; omega) c
       have hlk2 := aea h5.out.1 hxl (jf C x (some c))
       have hO5 := a2u hOj h5
       have hg5 := dv hgj h5.out.2
       have hfrN : fr.length ≤ N := by
        have := wo (l := fr) (m := P) hm.ris.nodup fun y hy => (hP.out.mem y).2 ((hm.dom y).1 (by rw [(hm.fr y).1 hy]; simp)).1
        omega
       have hfrr := hm.ris
       replace hne := Lib.hid hne
       replace heq := Lib.hid heq
       replace hO5 := Lib.hid hO5
       replace hg5 := Lib.hid hg5
       replace hfrr := Lib.hid hfrr
       clear HJ hm hOj hgj hcell hcl hC h5
       by_cases hc0 : c = 0
       ·subst hc0
        have hst : (Instr.mapUpdate 219 (.map (some bl)) (.string ⟨x.toArray⟩) (.int .i64 0)).run Tryz.prog wr = .ok () w5 := hst
        have hlk2 : (Instr.lookup 219 (.map (some bl)) (.string ⟨x.toArray⟩) false).run Tryz.prog w5 = .ok (.int .i64 0) w5 := hlk2
        have hlk : (Instr.lookup 219 (.map (some bl)) (.string ⟨x.toArray⟩) false).run Tryz.prog wr = .ok (.int .i64 1) wr := hlk
        have CS := Lib.hid (ash hO5.out.rf hfrr.out (by omega) x)
        go_wp2_with fail
        refine CS.out.mono ?_
        rintro e w6 ⟨rfl, hB6⟩
        have hO6 := Lib.hid (xt hO5.out hB6)
        have CC := Lib.hid (avr hO6.out.rf (by omega))
        have hg6 := Lib.hid (dv hg5.out (gn (some bl) hB6))
        clear CS hB6
        go_wp2_with fail
        refine CC.out.mono ?_
        rintro e w7 ⟨v7, rfl, h7⟩
        have CI := Lib.hid (ayv (a8l (t := 9) (x := x) w7 v7 h7) (by omega))
        clear CC
        go_wp2_with fail
        refine CI.out.mono ?_
        rintro e w8 ⟨v8, rfl, h8⟩
        have hh := heq.out (by first | rfl | trivial)
        have hnx := Lib.hid (show Ax (vi f out k T (j + 1) (upd C x (some 0)) (xq fr x) ∧ Os wA bl (nl' + 1) (out ++ [k]) (upd C x (some 0)) (xq fr x) v2' v8 w8 ∧ nl' + 1 ≤ nl + (j + 1) ∧ w4'.grownBy w8 (some bl)) from
         ⟨hh.2, ayw hO6.out h8.out.2 h8.out.1, by omega, dv hg6.out (gn _ h8.out.2)⟩)
        clear CI hh h7 h8
        go_wp2_with fail
        go_roundg g2
        case measure => omega
        case rel => exact ⟨j + 1, _, _, _, by omega, by go_num, hnx.out⟩
       ·have hc0' : ¬ (c : Int) = 0 := by omega
        have hh := hne.out hc0
        have hnx := Lib.hid (show Ax (vi f out k T (j + 1) (upd C x (some c)) fr ∧ Os wA bl (nl' + 1) (out ++ [k]) (upd C x (some c)) fr v2' u6 w5 ∧ nl' + 1 ≤ nl + (j + 1) ∧ w4'.grownBy w5 (some bl)) from
         ⟨hh, hO5.out, by omega, hg5.out⟩)
        clear hh
        go_wp2_with fail
        go_roundg g2
        case measure => omega
        case rel => exact ⟨j + 1, _, _, _, by omega, by go_num, hnx.out⟩
      ·obtain rfl : gk = 0 := by omega
       obtain rfl : j = T.length := by omega
       obtain ⟨hm, hOj, hnj, hgj⟩ := HJ.out
       have hnx := Lib.hid (show Ax (Inv f (out ++ [k]) C fr ∧ Os wA bl nl' (out ++ [k]) C fr v2' u6 wr ∧ nl' ≤ N + N * (out ++ [k]).length) from
        ⟨hm.stop hok hTm.out hv.out, hOj, by rw [List.length_append, List.length_singleton, Nat.mul_succ]; omega⟩)
       clear hm hOj hgj HJ
       go_wp2_with fail
       go_roundg g1
       case measure => omega
       case rel => exact ⟨out ++ [k], fr, C, nl', by rw [List.length_append, List.length_singleton]; omega, hnx.out⟩
end Go.Proofs.YtmdimhcjogjcgaaGreatDoor.Gr
