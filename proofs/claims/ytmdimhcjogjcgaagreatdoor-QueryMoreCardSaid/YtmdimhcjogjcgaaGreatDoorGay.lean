/- slices.Clone at the values' types. -/
import Derived.Test.YtmdimhcjogjcgaaGreatDoorGax
import Derived.Test.YtmdimhcjogjcgaaGreatDoorGah
import Derived.WalkKit
import Derived.Deep.LoopGhost
import Derived.Lib.Walk
import Derived.Lib.SliceRun
import Derived.Lib.Hide
import Derived.Shelf.RegionOpenPlain
import Derived.Laws.Rows
set_option linter.all false
set_option maxRecDepth 100000
set_option maxHeartbeats 4000000
noncomputable section
namespace Go.Proofs.YtmdimhcjogjcgaaGreatDoor.Abs
open Go.RowKit Go.Lib
theorem ahf (t : Nat) (ti : TI) (h : τ.T t = some ti) : ao5 Tryz.prog t ti := al3 rfl a2x t ti h
theorem al4 (u : Value) (L : List (List AV)) (w : World) (c : Cls) (h : Rep w c u (.sl 8 L)) (hbig : L.length ≤ 1073741824) :
  Calls Tryz.prog 135 #[u] w fun e w' => ∃ v' us, e = .returned v' ∧ CLL w c 8 us L ∧ w.grownBy w' none ∧ w'.ownsRow w.heap.size 68 8 v' L.length us := by
 obtain ⟨bo, cap, us, rfl, hcap, hnone, hC, hcell, hspot⟩ := oc h
 have hlen := hC.1
 have hone : ∀ y ∈ us, y.oneCell' = true := hC.one
 obtain ⟨i0, z, hi, hz1, hz2, hz0, hzs, _⟩ := (ahf 68 _ rfl).info
 have hC := Lib.hid hC
 have t22 : Tryz.prog.underlying 43 = some (.slice 68) := by kernel_rfl
 have q22 : ∀ (w : World) (a : Option Addr) (n c n' c' : Nat), (binOp .eql 43 (.slice a n c) (.slice none n' c')).run Tryz.prog w = .ok (.bool a.isNone) w := fun w a n c n' c' => Lib.run_eql_slice_nil w _ _ a n c n' c' t22
 have u22 : ∀ w, Sem.run Tryz.prog (underlying 43) w = .ok (TypeDesc.slice 68) w := run_underlying t22
 cases bo with
 | none =>
  obtain rfl := hnone rfl
  have hl0 : L.length = 0 := by omega
  have hus : us = [] := List.eq_nil_of_length_eq_zero (by omega)
  go_enter Tryz.func135, Tryz.ntmps135
  go_wp2
  go_ret
  exact ⟨_, rfl, us, hC.out, ⟨rfl, rfl, rfl, Nat.le_refl _, fun _ _ _ => rfl⟩, ⟨by rw [hus]; rfl, .inl ⟨rfl, rfl⟩⟩⟩
 | some p =>
  have hcell : Aside (∀ j u, us[j]? = some u → w.cell? (p.add j) = some u) := hcell p rfl
  clear hspot hnone h
  generalize hLn : L.length = n at *
  go_enter Tryz.func135, Tryz.ntmps135
  go_wp2_with (at_builtin; refine wpList_append_own _ rfl _ _ 43 rfl w.heap.size 68 i0 z 8 72 t22 hi hz0 hz1 hz2 hzs (by decide) _ _ _ rfl (World.ownsRow_made w #[] 0 (Nat.le_refl _) (Nat.zero_le _) (by simp)) p n cap us rfl ?qc1 ?qc2 ?qc3 ?qc4 ?qc5 ?qc6 ?_)
  ·intro j u hj
   exact Lib.cell?_alloc_some _ (hcell.out j u hj)
  ·exact hone
  ·exact Nat.le_trans hbig (by decide)
  ·omega
  ·intro v' w1 hown hgrow hnil
   go_wp2
   go_ret
   refine ⟨v', us, rfl, hC.out, ⟨hgrow.os, hgrow.tape, hgrow.output, Nat.le_trans (by simp) hgrow.size, fun k hk _ => ?_⟩, by simpa using hown⟩
   rw [hgrow.block k (by simp; omega) (by simp [Value.ownBlock]; omega)]
   exact Below.heap_alloc w _ k hk
theorem awb (u : Value) (L : List (List AV)) (w : World) (c : Cls) (h : Rep w c u (.sl 2 L)) (hbig : L.length ≤ 1073741824) :
  Calls Tryz.prog 136 #[u] w fun e w' => ∃ v' us, e = .returned v' ∧ CLL w c 2 us L ∧ w.grownBy w' none ∧ w'.ownsRow w.heap.size 110 2 v' L.length us := by
 obtain ⟨bo, cap, us, rfl, hcap, hnone, hC, hcell, hspot⟩ := oc h
 have hlen := hC.1
 have hone : ∀ y ∈ us, y.oneCell' = true := hC.one
 obtain ⟨i0, z, hi, hz1, hz2, hz0, hzs, _⟩ := (ahf 110 _ rfl).info
 have hC := Lib.hid hC
 have t22 : Tryz.prog.underlying 66 = some (.slice 110) := by kernel_rfl
 have q22 : ∀ (w : World) (a : Option Addr) (n c n' c' : Nat), (binOp .eql 66 (.slice a n c) (.slice none n' c')).run Tryz.prog w = .ok (.bool a.isNone) w := fun w a n c n' c' => Lib.run_eql_slice_nil w _ _ a n c n' c' t22
 have u22 : ∀ w, Sem.run Tryz.prog (underlying 66) w = .ok (TypeDesc.slice 110) w := run_underlying t22
 cases bo with
 | none =>
  obtain rfl := hnone rfl
  have hl0 : L.length = 0 := by omega
  have hus : us = [] := List.eq_nil_of_length_eq_zero (by omega)
  go_enter Tryz.func136, Tryz.ntmps136
  go_wp2
  go_ret
  exact ⟨_, rfl, us, hC.out, ⟨rfl, rfl, rfl, Nat.le_refl _, fun _ _ _ => rfl⟩, ⟨by rw [hus]; rfl, .inl ⟨rfl, rfl⟩⟩⟩
 | some p =>
  have hcell : Aside (∀ j u, us[j]? = some u → w.cell? (p.add j) = some u) := hcell p rfl
  clear hspot hnone h
  generalize hLn : L.length = n at *
  go_enter Tryz.func136, Tryz.ntmps136
  go_wp2_with (at_builtin; refine wpList_append_own _ rfl _ _ 66 rfl w.heap.size 110 i0 z 2 40 t22 hi hz0 hz1 hz2 hzs (by decide) _ _ _ rfl (World.ownsRow_made w #[] 0 (Nat.le_refl _) (Nat.zero_le _) (by simp)) p n cap us rfl ?qc1 ?qc2 ?qc3 ?qc4 ?qc5 ?qc6 ?_)
  ·intro j u hj
   exact Lib.cell?_alloc_some _ (hcell.out j u hj)
  ·exact hone
  ·exact Nat.le_trans hbig (by decide)
  ·omega
  ·intro v' w1 hown hgrow hnil
   go_wp2
   go_ret
   refine ⟨v', us, rfl, hC.out, ⟨hgrow.os, hgrow.tape, hgrow.output, Nat.le_trans (by simp) hgrow.size, fun k hk _ => ?_⟩, by simpa using hown⟩
   rw [hgrow.block k (by simp; omega) (by simp [Value.ownBlock]; omega)]
   exact Below.heap_alloc w _ k hk
end Go.Proofs.YtmdimhcjogjcgaaGreatDoor.Abs
namespace Go.Proofs.YtmdimhcjogjcgaaGreatDoor.Lat.Cp
open Go.RowKit Go.Lib Go.Proofs.YtmdimhcjogjcgaaGreatDoor.Abs Go.Proofs.YtmdimhcjogjcgaaGreatDoor.Lat
def aeg (w : World) (ts : List Tm) (e : Ending) (w' : World) : Prop := ∃ v' fp, e = .returned (.agg #[v']) ∧ Below w.heap.size w w' ∧ OV w' w.heap.size v' ts fp ∧ fp.Nodup
theorem ig {w W : World} (c : Cls) (h : Below w.heap.size w W) : Ext w.heap.size w c W (fun b => if b < w.heap.size then c b else .frz) :=
 ⟨h.os, h.tape, h.output, h.size, fun b hb _ => ⟨h.block b hb, by simp [hb]⟩, fun b i v hv hs => by
  have hb := re hv
  exact ⟨by rw [o1 (w := w) (h.block b hb)]; exact hv, by unfold dw at *; simpa [hb] using hs⟩⟩
structure Ax (p : Prop) : Prop where
 out : p
theorem qe {w : World} {c : Cls} {sz : Nat} {us : List Value} {L : List (List AV)} (h : CLL w c sz us L) {i j : Nat} {cs : List AV} {x : AV} (hi : L[i]? = some cs) (hj : cs[j]? = some x) : ∃ u, us[i * sz + j]? = some u ∧ Rep w c u x := by
 have h1 := (List.getElem?_eq_some_iff.1 hi).1
 have h2 : j < sz := by rw [← h.2.1 i cs hi]; exact (List.getElem?_eq_some_iff.1 hj).1
 have h3 : i * sz + j < us.length := by rw [h.1]; exact sd h1 h2
 exact ⟨us[i * sz + j], List.getElem?_eq_getElem h3, h.2.2 i j cs x _ hi hj (List.getElem?_eq_getElem h3)⟩
theorem afx {w : World} {c : Cls} {us : List Value} {ts : List Tm} (h : CLL w c 8 us (ak ts)) {i : Nat} {k lo hi : Int} {s : Bs} {a m o : Bool} {fs : List Fd} (ht : ts[i]? = some (.mk k lo hi s a m o fs)) :
  ∃ (sb : ByteArray) (u : Value), sb.data.toList = s ∧ us[i * 8]? = some (.int .i64 k) ∧ us[i * 8 + 1]? = some (.int .i64 lo) ∧ us[i * 8 + 2]? = some (.int .i64 hi) ∧ us[i * 8 + 3]? = some (.string sb) ∧ us[i * 8 + 4]? = some (.bool a) ∧ us[i * 8 + 5]? = some (.bool m) ∧ us[i * 8 + 6]? = some (.bool o) ∧ us[i * 8 + 7]? = some u ∧ Rep w c u (.sl 2 (cb fs)) := by
 have hi : (ak ts)[i]? = some (ah (.mk k lo hi s a m o fs)) := by rw [je, List.getElem?_map, ht]; rfl
 rw [ah] at hi
 obtain ⟨u0, e0, r0⟩ := qe h hi (j := 0) rfl
 obtain ⟨u1, e1, r1⟩ := qe h hi (j := 1) rfl
 obtain ⟨u2, e2, r2⟩ := qe h hi (j := 2) rfl
 obtain ⟨u3, e3, r3⟩ := qe h hi (j := 3) rfl
 obtain ⟨u4, e4, r4⟩ := qe h hi (j := 4) rfl
 obtain ⟨u5, e5, r5⟩ := qe h hi (j := 5) rfl
 obtain ⟨u6, e6, r6⟩ := qe h hi (j := 6) rfl
 obtain ⟨u7, e7, r7⟩ := qe h hi (j := 7) rfl
 obtain rfl := fb r0
 obtain rfl := fb r1
 obtain rfl := fb r2
 obtain ⟨sb, rfl, hsb⟩ := gu r3
 obtain rfl := eo r4
 obtain rfl := eo r5
 obtain rfl := eo r6
 exact ⟨sb, u7, hsb, e0, e1, e2, e3, e4, e5, e6, e7, r7⟩
theorem anf {w : World} {c : Cls} {us : List Value} {fs : List Fd} (h : CLL w c 2 us (cb fs)) {i : Nat} {n : Bs} {v : List Tm} (ht : fs[i]? = some (.mk n v)) :
  ∃ (nb : ByteArray) (u : Value), nb.data.toList = n ∧ us[i * 2]? = some (.string nb) ∧ us[i * 2 + 1]? = some u ∧ Rep w c u (.sl 8 (ak v)) := by
 have hi : (cb fs)[i]? = some (jg (.mk n v)) := by rw [jq, List.getElem?_map, ht]; rfl
 rw [jg] at hi
 obtain ⟨u0, e0, r0⟩ := qe h hi (j := 0) rfl
 obtain ⟨u1, e1, r1⟩ := qe h hi (j := 1) rfl
 obtain ⟨nb, rfl, hnb⟩ := gu r0
 exact ⟨nb, u1, hnb, e0, e1, r1⟩
structure Mid (wA : World) (ts : List Tm) (us : List Value) (b cap : Nat) (i : Nat) (W : World) : Prop where
 below : Below wA.heap.size wA W
 row : ∃ vs ty fp, W.heap[b]? = some (.cells vs ty (0, 0)) ∧ vs.size = cap * 8 ∧ OTs W wA.heap.size vs 0 (ts.take i) fp ∧ (b :: fp).Nodup ∧ ∀ j, i * 8 ≤ j → j < ts.length * 8 → vs[j]? = us[j]?
structure al5 (wA : World) (fs : List Fd) (us : List Value) (b cap : Nat) (i : Nat) (W : World) : Prop where
 below : Below wA.heap.size wA W
 row : ∃ vs ty fp, W.heap[b]? = some (.cells vs ty (0, 0)) ∧ vs.size = cap * 2 ∧ OFs W wA.heap.size vs 0 (fs.take i) fp ∧ (b :: fp).Nodup ∧ ∀ j, i * 2 ≤ j → j < fs.length * 2 → vs[j]? = us[j]?
theorem nu {W : World} {b : Nat} {o : Obj} (h : W.heap[b]? = some o) : b < W.heap.size := (Array.getElem?_eq_some_iff.1 h).1
theorem gb {wA W W' : World} (h : Below wA.heap.size wA W) (k : Below W.heap.size W W') : Below wA.heap.size wA W' :=
 ⟨k.os.trans h.os, k.tape.trans h.tape, k.output.trans h.output, Nat.le_trans h.size k.size, fun i hi => (k.block i (Nat.lt_of_lt_of_le hi h.size)).trans (h.block i hi)⟩
theorem rq {wA W : World} {b i : Nat} (h : Below wA.heap.size wA W) (hb : wA.heap.size ≤ b) (u : Value) : Below wA.heap.size wA (W.setCell ⟨b, i, none⟩ u) :=
 ⟨h.os, h.tape, h.output, by simpa [World.setCell] using h.size, fun k hk => (Below.heap_setCell W _ u k (by simp; omega)).trans (h.block k hk)⟩
theorem u9 {vs : Array Value} {i j : Nat} {u : Value} (h : i < vs.size) : (vs.set! i u)[j]? = if i = j then some u else vs[j]? := by
 rw [Array.set!_eq_setIfInBounds, Array.getElem?_setIfInBounds]
 simp [h]
theorem al6 {wA wB W : World} {ts : List Tm} {us : List Value} {b cap i : Nat} {k lo hi : Int} {sb : ByteArray} {a m o : Bool} {fs : List Fd} {v2 : Value} {fp2 : List Nat}
  (hM : Mid wA ts us b cap i wB) (hB : Below wB.heap.size wB W) (hbA : wA.heap.size ≤ b) (hc : ts.length ≤ cap) (ht : ts[i]? = some (.mk k lo hi sb.data.toList a m o fs))
  (e0 : us[i * 8]? = some (.int .i64 k)) (e1 : us[i * 8 + 1]? = some (.int .i64 lo)) (e2 : us[i * 8 + 2]? = some (.int .i64 hi)) (e3 : us[i * 8 + 3]? = some (.string sb))
  (e4 : us[i * 8 + 4]? = some (.bool a)) (e5 : us[i * 8 + 5]? = some (.bool m)) (e6 : us[i * 8 + 6]? = some (.bool o))
  (hf : OF W wB.heap.size v2 fs fp2) (hnd : fp2.Nodup) : Mid wA ts us b cap (i + 1) (W.setCell ⟨b, i * 8 + 7, none⟩ v2) := by
 obtain ⟨h1, vs, ty, fp, h2, h3, h4, h5, h6⟩ := hM
 have hi := (List.getElem?_eq_some_iff.1 ht).1
 have hbB := nu h2
 have h2' : W.heap[b]? = some (.cells vs ty (0, 0)) := (hB.block b hbB).trans h2
 have hx : ∀ q, q ≠ b → (W.setCell ⟨b, i * 8 + 7, none⟩ v2).heap[q]? = W.heap[q]? := fun q hq => Below.heap_setCell W _ v2 q hq
 have hd2 : ∀ q ∈ fp2, q ≠ b := fun q hq => by have := hf.bd q hq; omega
 have hd1 : ∀ q ∈ fp, q ≠ b := fun q hq e => by subst e; exact (List.nodup_cons.1 h5).1 hq
 refine ⟨rq (gb h1 hB) hbA v2, vs.set! (i * 8 + 7) v2, ty, fp ++ fp2, heap_setCell_same W b _ vs ty v2 h2', by simp [h3], ?_, ?_, ?_⟩
 ·rw [List.take_add_one, ht]
  have hlen : (ts.take i).length = i := by rw [List.length_take]; omega
  refine OTs.snoc ((h4.frame fun q hq => ?_).arr fun q _ hq => ?_) ?_
  ·rw [hx q (hd1 q hq)]; exact hB.block q (h4.bd q hq).2
  ·rw [u9 (by omega), if_neg (by rw [hlen] at hq; omega)]
  ·rw [hlen, show 0 + 8 * i = i * 8 by omega]
   have g : ∀ j x, j < 7 → us[i * 8 + j]? = some x → (vs.set! (i * 8 + 7) v2)[i * 8 + j]? = some x := fun j x hj hx => by
    rw [u9 (by omega), if_neg (by omega), h6 _ (by omega) (by omega)]; exact hx
   exact .mk (g 0 _ (by decide) e0) (g 1 _ (by decide) e1) (g 2 _ (by decide) e2) (g 3 _ (by decide) e3) (g 4 _ (by decide) e4) (g 5 _ (by decide) e5) (g 6 _ (by decide) e6)
    (by rw [u9 (by omega), if_pos rfl]) ((hf.frame fun q hq => hx q (hd2 q hq)).base h1.size)
 ·refine List.nodup_cons.2 ⟨fun hm => ?_, ?_⟩
  ·rcases List.mem_append.1 hm with hm | hm
   ·exact hd1 b hm rfl
   ·exact hd2 b hm rfl
  ·refine List.nodup_append.2 ⟨(List.nodup_cons.1 h5).2, hnd, fun x hx y hy => ?_⟩
   have := (h4.bd x hx).2
   have := (hf.bd y hy).1
   omega
 ·intro j hj1 hj2
  rw [u9 (by omega), if_neg (by omega)]
  exact h6 j (by omega) hj2
theorem asx {wA wB W : World} {fs : List Fd} {us : List Value} {b cap i : Nat} {nb : ByteArray} {v : List Tm} {v2 : Value} {fp2 : List Nat}
  (hM : al5 wA fs us b cap i wB) (hB : Below wB.heap.size wB W) (hbA : wA.heap.size ≤ b) (hc : fs.length ≤ cap) (ht : fs[i]? = some (.mk nb.data.toList v))
  (e0 : us[i * 2]? = some (.string nb)) (hf : OV W wB.heap.size v2 v fp2) (hnd : fp2.Nodup) : al5 wA fs us b cap (i + 1) (W.setCell ⟨b, i * 2 + 1, none⟩ v2) := by
 obtain ⟨h1, vs, ty, fp, h2, h3, h4, h5, h6⟩ := hM
 have hi := (List.getElem?_eq_some_iff.1 ht).1
 have hbB := nu h2
 have h2' : W.heap[b]? = some (.cells vs ty (0, 0)) := (hB.block b hbB).trans h2
 have hx : ∀ q, q ≠ b → (W.setCell ⟨b, i * 2 + 1, none⟩ v2).heap[q]? = W.heap[q]? := fun q hq => Below.heap_setCell W _ v2 q hq
 have hd2 : ∀ q ∈ fp2, q ≠ b := fun q hq => by have := hf.bd q hq; omega
 have hd1 : ∀ q ∈ fp, q ≠ b := fun q hq e => by subst e; exact (List.nodup_cons.1 h5).1 hq
 refine ⟨rq (gb h1 hB) hbA v2, vs.set! (i * 2 + 1) v2, ty, fp ++ fp2, heap_setCell_same W b _ vs ty v2 h2', by simp [h3], ?_, ?_, ?_⟩
 ·rw [List.take_add_one, ht]
  have hlen : (fs.take i).length = i := by rw [List.length_take]; omega
  refine OFs.snoc ((h4.frame fun q hq => ?_).arr fun q _ hq => ?_) ?_ ?_ ((hf.frame fun q hq => hx q (hd2 q hq)).base h1.size)
  ·rw [hx q (hd1 q hq)]; exact hB.block q (h4.bd q hq).2
  ·rw [u9 (by omega), if_neg (by rw [hlen] at hq; omega)]
  ·rw [hlen, u9 (by omega), if_neg (by omega), h6 _ (by omega) (by omega), show 0 + 2 * i = i * 2 by omega]; exact e0
  ·rw [hlen, u9 (by omega), if_pos (by omega)]
 ·refine List.nodup_cons.2 ⟨fun hm => ?_, ?_⟩
  ·rcases List.mem_append.1 hm with hm | hm
   ·exact hd1 b hm rfl
   ·exact hd2 b hm rfl
  ·refine List.nodup_append.2 ⟨(List.nodup_cons.1 h5).2, hnd, fun x hx y hy => ?_⟩
   have := (h4.bd x hx).2
   have := (hf.bd y hy).1
   omega
 ·intro j hj1 hj2
  rw [u9 (by omega), if_neg (by omega)]
  exact h6 j (by omega) hj2
theorem afy : ∀ {ts : List Tm} {i : Nat} {t : Tm}, ts[i]? = some t → szT t ≤ szV ts
 | [], i, t, h => by simp at h
 | x :: r, 0, t, h => by simp at h; subst h; rw [szV]; omega
 | x :: r, i + 1, t, h => by have := afy (ts := r) (i := i) (by simpa using h); rw [szV]; omega
theorem aol : ∀ {fs : List Fd} {i : Nat} {n : Bs} {v : List Tm}, fs[i]? = some (.mk n v) → 1 + szV v ≤ szF fs
 | [], i, n, v, h => by simp at h
 | .mk n' v' :: r, 0, n, v, h => by simp at h; obtain ⟨rfl, rfl⟩ := h; rw [szF]; omega
 | .mk n' v' :: r, i + 1, n, v, h => by have := aol (fs := r) (i := i) (n := n) (v := v) (by simpa using h); rw [szF]; omega
theorem aeh {w : World} {B : Nat} {v : Value} {ts : List Tm} {fp : List Nat} (h : OV w B v ts fp) : ∃ bo n cap, v = .slice bo n cap := by
 cases h <;> exact ⟨_, _, _, rfl⟩
theorem awc {wA W : World} {fs : List Fd} {us : List Value} {b cap : Nat} (h : al5 wA fs us b cap fs.length W) (hb : wA.heap.size ≤ b) (hc : fs.length ≤ cap) : ∃ fp, OF W wA.heap.size (.slice (some ⟨b, 0, none⟩) fs.length cap) fs fp ∧ fp.Nodup := by
 obtain ⟨h1, vs, ty, fp, h2, h3, h4, h5, h6⟩ := h
 rw [List.take_length] at h4
 by_cases h0 : 0 < fs.length
 ·exact ⟨b :: fp, .row hb h2 rfl hc h3 h0 h4, h5⟩
 ·obtain rfl : fs = [] := List.eq_nil_of_length_eq_zero (by omega)
  exact ⟨[], .emp, List.nodup_nil⟩
theorem mid_end {wA W : World} {ts : List Tm} {us : List Value} {b cap : Nat} (h : Mid wA ts us b cap ts.length W) (hb : wA.heap.size ≤ b) (hc : ts.length ≤ cap) : ∃ fp, OV W wA.heap.size (.slice (some ⟨b, 0, none⟩) ts.length cap) ts fp ∧ fp.Nodup := by
 obtain ⟨h1, vs, ty, fp, h2, h3, h4, h5, h6⟩ := h
 rw [List.take_length] at h4
 by_cases h0 : 0 < ts.length
 ·exact ⟨b :: fp, .row hb h2 rfl hc h3 h0 h4, h5⟩
 ·obtain rfl : ts = [] := List.eq_nil_of_length_eq_zero (by omega)
  exact ⟨[], .emp, List.nodup_nil⟩
theorem asy {wA w1 : World} {ts : List Tm} {us : List Value} {b cap : Nat} {cur : Array Value} {ty : TypeId} (hg : wA.grownBy w1 none) (hb : w1.heap[b]? = some (.cells cur ty (0, 0))) (hs : cur.size = cap * 8) (ht : cur.toList.take (ts.length * 8) = us) : Mid wA ts us b cap 0 w1 :=
 ⟨⟨hg.os, hg.tape, hg.output, hg.size, fun k hk => hg.block k hk (by simp)⟩, cur, ty, [], hb, hs, by rw [List.take_zero]; exact .nil, by simp, fun j _ hj => by
  rw [← ht, List.getElem?_take, if_pos hj, Array.getElem?_toList]⟩
theorem ap4 {wA w1 : World} {fs : List Fd} {us : List Value} {b cap : Nat} {cur : Array Value} {ty : TypeId} (hg : wA.grownBy w1 none) (hb : w1.heap[b]? = some (.cells cur ty (0, 0))) (hs : cur.size = cap * 2) (ht : cur.toList.take (fs.length * 2) = us) : al5 wA fs us b cap 0 w1 :=
 ⟨⟨hg.os, hg.tape, hg.output, hg.size, fun k hk => hg.block k hk (by simp)⟩, cur, ty, [], hb, hs, by rw [List.take_zero]; exact .nil, by simp, fun j _ hj => by
  rw [← ht, List.getElem?_take, if_pos hj, Array.getElem?_toList]⟩
theorem aiu (n : Nat) (hn : n ≤ 1073741824) (ih : ∀ (ts : List Tm) (v : Value) (w : World) (c : Cls), szV ts < n → Rep w c v (.sl 8 (ak ts)) → Calls Tryz.prog 102 #[.agg #[v]] w (aeg w ts))
  (ts : List Tm) (v : Value) (w : World) (c : Cls) (hs : szV ts ≤ n) (hR : Rep w c v (.sl 8 (ak ts))) : Calls Tryz.prog 102 #[.agg #[v]] w (aeg w ts) := by
 have hl := fx ts
 have hL : (ak ts).length = ts.length := by rw [je, List.length_map]
 have C1 := Lib.hid fun W (hB : Below w.heap.size w W) => al4 v (ak ts) W _ (hR.ext (ig c hB)) (by omega)
 clear hR
 go_enter Tryz.func102, Tryz.ntmps102
 go_wp2_with fail
 have hA : Below w.heap.size w ((w.alloc (Obj.cells #[v] 45)).alloc (Obj.cells #[Value.slice none 0 0] 45)) := ((Below.refl _ w).alloc (Nat.le_refl _) _).alloc (by simp) _
 have hAs : ((w.alloc (Obj.cells #[v] 45)).alloc (Obj.cells #[Value.slice none 0 0] 45)).heap.size = w.heap.size + 2 := by simp
 have hAr : ((w.alloc (Obj.cells #[v] 45)).alloc (Obj.cells #[Value.slice none 0 0] 45)).heap[w.heap.size + 1]? = some (Obj.cells #[Value.slice none 0 0] 45) := by
  have := heap_alloc_new (w.alloc (Obj.cells #[v] 45)) (Obj.cells #[Value.slice none 0 0] 45)
  simpa using this
 refine (C1.out _ hA).mono ?_
 generalize ((w.alloc (Obj.cells #[v] 45)).alloc (Obj.cells #[Value.slice none 0 0] 45)) = wA at *
 rintro e w1 ⟨v1, us, rfl, hC, hg, hlen, hown⟩
 rw [hL] at hown hlen
 have hA := Lib.hid hA
 have hAs := Lib.hid hAs
 have hAr := Lib.hid hAr
 rcases hown with ⟨rfl, h0⟩ | ⟨b, cap, cur, rfl, h1, h2, h3, h4, h5, h6⟩
 ·obtain rfl : ts = [] := List.eq_nil_of_length_eq_zero h0
  have hBA : Below wA.heap.size wA w1 := ⟨hg.os, hg.tape, hg.output, hg.size, fun k hk => hg.block k hk (by simp)⟩
  have m1 := (hBA.block (w.heap.size + 1) (by rw [hAs.out]; omega)).trans hAr.out
  have q2 : w1.cell? ⟨w.heap.size + 1, 0, none⟩ = some (.slice none 0 0) := by rw [cell_of m1]; rfl
  have q3 := frozen_of_row w1 (w.heap.size + 1) 0 _ _ m1
  have m2 := Lib.hid (heap_setCell_same w1 (w.heap.size + 1) 0 _ _ (.slice none 0 0) m1)
  clear m1
  go_wp2_with fail
  go_loopg [14] 0 (fun gk v14 W => v14 = .int .i64 0 ∧ W = w1)
  case atStart => exact ⟨rfl, rfl⟩
  case round =>
   obtain ⟨rfl, rfl⟩ := hrel
   go_wp2_with fail
   refine bodyPost_ret (results_cell_row (g := w.heap.size + 1) (cs := #[.slice none 0 0]) (fr := (0, 0)) rfl _ _ _ _ rfl m2.out Tryz.underlying45 rfl (by kernel_rfl)) rfl ?_
   exact ⟨.slice none 0 0, [], rfl, rq (gb hA.out hBA) (by simp) _, .nil, List.nodup_nil⟩
 ·have h2 := Lib.hid h2
  have hM := Lib.hid (asy hg h2.out h5 h6)
  clear h2
  go_wp2_with fail
  go_loopg [14] ts.length (fun gk v14 W => ∃ i : Nat, i + gk = ts.length ∧ v14 = .int .i64 i ∧ Ax (Mid wA ts us b cap i W))
  case atStart => exact ⟨0, by omega, rfl, ⟨hM.out⟩⟩
  case round =>
   clear hM
   obtain ⟨i, hig, rfl, HM⟩ := hrel
   by_cases hi : i < ts.length
   ·obtain ⟨g1, rfl⟩ : ∃ j, gk = j + 1 := ⟨gk - 1, by omega⟩
    obtain ⟨t, ht⟩ : ∃ t, ts[i]? = some t := ⟨ts[i], List.getElem?_eq_getElem hi⟩
    obtain ⟨k, lo, hh, s, a, m, o, fs⟩ := t
    obtain ⟨sb, u7, hsb, e0, e1, e2, e3, e4, e5, e6, e7, r7⟩ := afx hC ht
    obtain ⟨hMb, vs, ty, fp, m1, m2, m3, m4, m5⟩ := HM.out
    have cc : ∀ j x, j < 8 → us[i * 8 + j]? = some x → wr.cell? ⟨b, i * 8 + j, none⟩ = some x := fun j x hj hx => by
     rw [cell_of m1, m5 _ (by omega) (by omega)]; exact hx
    have q0 : wr.cell? ⟨b, i * 8, none⟩ = some (.int .i64 k) := cc 0 _ (by decide) e0
    have q1 := cc 1 _ (by decide) e1
    have q2 := cc 2 _ (by decide) e2
    have q3 := cc 3 _ (by decide) e3
    have q4 := cc 4 _ (by decide) e4
    have q5 := cc 5 _ (by decide) e5
    have q6 := cc 6 _ (by decide) e6
    have q7 := cc 7 _ (by decide) e7
    obtain ⟨bo7, cap7, hu7, _⟩ := gz r7
    rw [jq, List.length_map] at hu7
    subst hu7
    have hfl : fs.length ≤ 1073741824 := by
     have z1 := afy ht
     rw [szT] at z1
     have z2 := ie fs
     omega
    have C2 := Lib.hid fun W (hB : Below wA.heap.size wA W) (hb : (cb fs).length ≤ 1073741824) => awb _ (cb fs) W _ (r7.ext (ig _ hB)) hb
    clear cc m1 m2 m3 m4 m5 e7 r7
    go_wp2_with fail
    have hW : Below wr.heap.size wr (wr.alloc (Obj.cells #[.int .i64 k, .int .i64 lo, .int .i64 hh, .string sb, .bool a, .bool m, .bool o, .slice bo7 fs.length cap7] 68)) := (Below.refl _ wr).alloc (Nat.le_refl _) _
    have hWt : (wr.alloc (Obj.cells #[.int .i64 k, .int .i64 lo, .int .i64 hh, .string sb, .bool a, .bool m, .bool o, .slice bo7 fs.length cap7] 68)).heap.size = wr.heap.size + 1 := by simp
    refine (C2.out _ (gb hMb hW) ?_).mono ?_
    ·rw [jq, List.length_map]
     have z1 := afy ht
     rw [szT] at z1
     have z2 := ie fs
     omega
    generalize (wr.alloc (Obj.cells #[.int .i64 k, .int .i64 lo, .int .i64 hh, .string sb, .bool a, .bool m, .bool o, .slice bo7 fs.length cap7] 68)) = wB at *
    rintro e w2 ⟨v2, us2, rfl, hC2, hg2, hlen2, hown2⟩
    have hLf : (cb fs).length = fs.length := by rw [jq, List.length_map]
    rw [hLf] at hown2 hlen2
    rcases hown2 with ⟨rfl, h0⟩ | ⟨b2, cap2, cur2, rfl, h12, h22, h32, h42, h52, h62⟩
    ·have hBB : Below wr.heap.size wr w2 := gb hW ⟨hg2.os, hg2.tape, hg2.output, hg2.size, fun k hk => hg2.block k hk (by simp)⟩
     obtain rfl : fs = [] := List.eq_nil_of_length_eq_zero h0
     obtain ⟨_, vs, ty, fp, m1, m2, m3, m4, m5⟩ := HM.out
     have m6 := (hBB.block b (nu m1)).trans m1
     have q2 : w2.cell? ⟨b, i * 8 + 7, none⟩ = some (vs.getD (i * 8 + 7) undef) := by
      rw [cell_of m6]
      have : i * 8 + 7 < vs.size := by omega
      simp [Array.getD_eq_getD_getElem?, this]
     have q3 := frozen_of_row w2 b (i * 8 + 7) _ _ m6
     have hMN := Lib.hid (al6 (fp2 := []) HM.out hBB (by omega) h3 (by rw [hsb]; exact ht) e0 e1 e2 e3 e4 e5 e6 .nil List.nodup_nil)
     clear m1 m3 m4 m5 m6
     go_wp2_with fail
     go_loopg [24] 0 (fun gk v24 W => v24 = .int .i64 0 ∧ W = w2)
     case atStart => exact ⟨rfl, rfl⟩
     case round =>
      obtain ⟨rfl, rfl⟩ := hrel
      go_wp2_with fail
      go_roundg g1
      case measure => omega
      case rel => exact ⟨i + 1, by omega, by go_num, ⟨hMN.out⟩⟩
    ·have hM2 := Lib.hid (ap4 hg2 h22 h52 h62)
     clear h22
     go_wp2_with fail
     go_loopg [24] fs.length (fun gk v24 W => ∃ i : Nat, i + gk = fs.length ∧ v24 = .int .i64 i ∧ Ax (al5 wB fs us2 b2 cap2 i W))
     case atStart => exact ⟨0, by omega, rfl, ⟨hM2.out⟩⟩
     case round =>
      clear hM2
      obtain ⟨x, hxg, rfl, HF⟩ := hrel
      by_cases hx : x < fs.length
      ·obtain ⟨g2, rfl⟩ : ∃ j, gk = j + 1 := ⟨gk - 1, by omega⟩
       obtain ⟨⟨nm, fv⟩, hf⟩ : ∃ t, fs[x]? = some t := ⟨fs[x], List.getElem?_eq_getElem hx⟩
       obtain ⟨nb, u, hnb, e0, e1, r⟩ := anf hC2 hf
       obtain ⟨bo8, cap8, hu8, _⟩ := gz r
       rw [je, List.length_map] at hu8
       subst hu8
       obtain ⟨hFb, vs, ty, fp, m1, m2, m3, m4, m5⟩ := HF.out
       have q0 : wr.cell? ⟨b2, x * 2, none⟩ = some (.string nb) := by rw [cell_of m1, m5 _ (by omega) (by omega)]; exact e0
       have q1 : wr.cell? ⟨b2, x * 2 + 1, none⟩ = some (.slice bo8 fv.length cap8) := by rw [cell_of m1, m5 _ (by omega) (by omega)]; exact e1
       have hsz : szV fv < n := by
        have z1 := afy ht
        rw [szT] at z1
        have z2 := aol hf
        omega
       have C3 := Lib.hid fun W (hB : Below wB.heap.size wB W) => ih fv _ W _ hsz (r.ext (ig _ hB))
       have hm1 := Lib.hid m1
       clear m1 m3 m4 m5 e1 r
       go_wp2_with fail
       have hW2 : Below wr.heap.size wr (wr.alloc (Obj.cells #[.string nb, .slice bo8 fv.length cap8] 110)) := (Below.refl _ wr).alloc (Nat.le_refl _) _
       refine (C3.out _ (gb hFb hW2)).mono ?_
       generalize (wr.alloc (Obj.cells #[.string nb, .slice bo8 fv.length cap8] 110)) = wD at *
       rintro e w3 ⟨v3, fp3, rfl, hB3, hO3, hnd3⟩
       obtain ⟨bo9, n9, cap9, rfl⟩ := aeh hO3
       have hB4 := gb hW2 hB3
       have m4 := (hB4.block b2 (nu hm1.out)).trans hm1.out
       have q2 : w3.cell? ⟨b2, x * 2 + 1, none⟩ = some (vs.getD (x * 2 + 1) undef) := by
        rw [cell_of m4]
        have : x * 2 + 1 < vs.size := by omega
        simp [Array.getD_eq_getD_getElem?, this]
       have q3 := frozen_of_row w3 b2 (x * 2 + 1) _ _ m4
       have HF2 := Lib.hid (asx HF.out hB4 h12 h32 (by rw [hnb]; exact hf) e0 (hO3.base (Nat.le_trans hW2.size (Nat.le_refl _))) hnd3)
       clear hB3 hO3 hnd3 m4 hB4
       go_wp2_with fail
       go_roundg g2
       case measure => omega
       case rel => exact ⟨x + 1, by omega, by go_num, ⟨HF2.out⟩⟩
      ·obtain rfl : gk = 0 := by omega
       obtain rfl : x = fs.length := by omega
       have hd0 : ¬ (fs.length : Int) < (fs.length : Int) := by omega
       obtain ⟨fp2, hO2, hnd2⟩ := awc HF.out h12 h32
       have hBB := gb hW HF.out.below
       obtain ⟨_, vs, ty, fp, m1, m2, m3, m4, m5⟩ := HM.out
       have m6 := (hBB.block b (nu m1)).trans m1
       have q2 : wr.cell? ⟨b, i * 8 + 7, none⟩ = some (vs.getD (i * 8 + 7) undef) := by
        rw [cell_of m6]
        have : i * 8 + 7 < vs.size := by omega
        simp [Array.getD_eq_getD_getElem?, this]
       have q3 := frozen_of_row wr b (i * 8 + 7) _ _ m6
       clear m1 m3 m4 m5 m6
       have hMN := Lib.hid (al6 HM.out hBB (by omega) h3 (by rw [hsb]; exact ht) e0 e1 e2 e3 e4 e5 e6 (hO2.base hW.size) hnd2)
       go_wp2_with fail
       go_roundg g1
       case measure => omega
       case rel => exact ⟨i + 1, by omega, by go_num, ⟨hMN.out⟩⟩
   ·obtain rfl : gk = 0 := by omega
    obtain rfl : i = ts.length := by omega
    have hd0 : ¬ (ts.length : Int) < (ts.length : Int) := by omega
    obtain ⟨fp, hO, hnd⟩ := mid_end HM.out h1 h3
    have hBA := HM.out.below
    have m1 := (hBA.block (w.heap.size + 1) (by rw [hAs.out]; omega)).trans hAr.out
    have q2 : wr.cell? ⟨w.heap.size + 1, 0, none⟩ = some (.slice none 0 0) := by rw [cell_of m1]; rfl
    have q3 := frozen_of_row wr (w.heap.size + 1) 0 _ _ m1
    have m2 := Lib.hid (heap_setCell_same wr (w.heap.size + 1) 0 _ _ (.slice (some ⟨b, 0, none⟩) ts.length cap) m1)
    clear m1
    go_wp2_with fail
    refine bodyPost_ret (results_cell_row (g := w.heap.size + 1) (cs := #[.slice (some ⟨b, 0, none⟩) ts.length cap]) (fr := (0, 0)) rfl _ _ _ _ rfl m2.out Tryz.underlying45 rfl (by kernel_rfl)) rfl ?_
    refine ⟨.slice (some ⟨b, 0, none⟩) ts.length cap, fp, rfl, rq (gb hA.out hBA) (by simp) _, (hO.frame fun q hq => ?_).base (by rw [hAs.out]; omega), hnd⟩
    have := (hO.bd q hq).1
    exact Below.heap_setCell wr _ _ q (by rw [hAs.out] at this; simp; omega)
theorem aei : ∀ (n : Nat), n ≤ 1073741824 → ∀ (ts : List Tm) (v : Value) (w : World) (c : Cls), szV ts ≤ n → Rep w c v (.sl 8 (ak ts)) → Calls Tryz.prog 102 #[.agg #[v]] w (aeg w ts)
 | 0, hn, ts, v, w, c, hs, hR => aiu 0 hn (fun ts' v' w' c' hs' hR' => by omega) ts v w c hs hR
 | n + 1, hn, ts, v, w, c, hs, hR => aiu (n + 1) hn (fun ts' v' w' c' hs' hR' => aei n (by omega) ts' v' w' c' (by omega) hR') ts v w c hs hR
end Go.Proofs.YtmdimhcjogjcgaaGreatDoor.Lat.Cp
