/- slices.Insert of one text. -/
import Derived.Test.YtmdimhcjogjcgaaGreatDoorGap
set_option linter.all false
set_option maxRecDepth 100000
set_option maxHeartbeats 8000000
noncomputable section
namespace Go.Proofs.YtmdimhcjogjcgaaGreatDoor.Gr
open Go.RowKit Go.Lib Go.Proofs.YtmdimhcjogjcgaaGreatDoor.Lat Go.Proofs.YtmdimhcjogjcgaaGreatDoor.Mp Go.Maps
theorem asa {w : World} {B g cap : Nat} {cur : Array Value} {xs : List Value} (hb : w.heap[g]? = some (.cells cur 9 (0, 0))) (hB : B ≤ g) (hs : cur.size = cap) (hn : xs.length ≤ cap) (hm : cap ≤ maxLen) (hx : ∀ (j : Nat) (x : Value), xs[j]? = some x → cur[j]? = some x) :
  w.ownsRow B 9 1 (.slice (some ⟨g, 0, none⟩) xs.length cap) xs.length xs := by
 refine ⟨by simp, .inr ⟨g, cap, cur, rfl, hB, hb, hn, hm, by simpa using hs, ?_⟩⟩
 apply List.ext_getElem?
 intro j
 rw [List.getElem?_take]
 split
 ·rename_i hj
  have hj : j < xs.length := by simpa using hj
  have := hx j _ (List.getElem?_eq_getElem hj)
  rw [List.getElem?_eq_getElem hj, ← this]
  simp
 ·rename_i hj
  rw [List.getElem?_eq_none (by simpa using hj)]
theorem ma {b : Nat} {ty : TypeId} : ∀ (vs : List Value) (o : Nat) (W : World) (cur : Array Value), W.heap[b]? = some (.cells cur ty (0, 0)) → o + vs.length ≤ cur.size →
  ∃ cur', (W.setCells b o vs).heap[b]? = some (.cells cur' ty (0, 0)) ∧ cur'.size = cur.size ∧ ∀ j, cur'[j]? = if o ≤ j ∧ j < o + vs.length then vs[j - o]? else cur[j]?
 | [], o, W, cur, h, hl => ⟨cur, h, rfl, fun j => by rw [if_neg (by simp only [List.length_nil]; omega)]⟩
 | v :: r, o, W, cur, h, hl => by
  simp only [List.length_cons] at hl
  have h1 := heap_setCell_same W b o cur ty v h
  obtain ⟨cur', h2, h3, h4⟩ := ma r (o + 1) (W.setCell ⟨b, o, none⟩ v) _ h1 (by simp; omega)
  refine ⟨cur', h2, by rw [h3]; simp, fun j => ?_⟩
  rw [h4 j]
  by_cases hj : j = o
  ·subst hj
   rw [if_neg (by omega), if_pos ⟨Nat.le_refl _, by simp⟩]
   have : j < cur.size := by omega
   simp [this]
  ·by_cases hj2 : o + 1 ≤ j ∧ j < o + 1 + r.length
   ·rw [if_pos hj2, if_pos ⟨by omega, by simp; omega⟩, show j - o = (j - (o + 1)) + 1 by omega]
    simp
   ·rw [if_neg hj2, if_neg (by simp; omega)]
    simp [Array.getElem?_setIfInBounds]
    omega
theorem np {b : Nat} : ∀ (vs : List Value) (o : Nat) (W : World) (k : Nat), k ≠ b → (W.setCells b o vs).heap[k]? = W.heap[k]?
 | [], _, _, _, _ => rfl
 | v :: r, o, W, k, h => by
  show ((W.setCell ⟨b, o, none⟩ v).setCells b (o + 1) r).heap[k]? = _
  rw [np r (o + 1) _ k h, Below.heap_setCell _ _ _ _ h]
theorem nr {b : Nat} : ∀ (vs : List Value) (o : Nat) (W : World), (W.setCells b o vs).os = W.os ∧ (W.setCells b o vs).tape = W.tape ∧ (W.setCells b o vs).output = W.output ∧ (W.setCells b o vs).heap.size = W.heap.size
 | [], _, _ => ⟨rfl, rfl, rfl, rfl⟩
 | v :: r, o, W => by
  have := nr (b := b) r (o + 1) (W.setCell ⟨b, o, none⟩ v)
  show ((W.setCell ⟨b, o, none⟩ v).setCells b (o + 1) r).os = _ ∧ _
  exact ⟨this.1, this.2.1, this.2.2.1, by rw [show (W.setCells b o (v :: r)) = ((W.setCell ⟨b, o, none⟩ v).setCells b (o + 1) r) from rfl, this.2.2.2]; simp [World.setCell]⟩
theorem avp {W : World} {b : Nat} {o : Option Obj} (h : W.heap[b]? = o) : W.drew.heap[b]? = o := h
theorem ayt (l : List Bs) (i : Nat) (x : Bs) (hi : i ≤ l.length) (j : Nat) : (l.take i ++ x :: l.drop i)[j]? = if j < i then l[j]? else if j = i then some x else l[j - 1]? := by
 rw [List.getElem?_append]
 simp only [List.length_take, Nat.min_eq_left hi]
 split
 ·rename_i h; rw [List.getElem?_take, if_pos h]
 ·split
  ·rename_i h1 h2; subst h2; simp
  ·rename_i h1 h2
   rw [show j - i = (j - i - 1) + 1 by omega]
   simp
   congr 1; omega
theorem afn {w : World} {B : Nat} {v : Value} {l : List Bs} (hv : w.ownsRow B 9 1 v l.length (l.map encStr)) (hB : B ≤ w.heap.size) (hl : l.length ≤ 1073741824) (i : Nat) (hi : i ≤ l.length) (x : Bs) (vb : Nat) (tb : TypeId)
  (hvb : w.heap[vb]? = some (.cells #[encStr x] tb (0, 0))) (hne : ∀ g, v.ownBlock = some g → g ≠ vb) :
  Calls Tryz.prog 159 #[v, .int .i64 i, .slice (some ⟨vb, 0, none⟩) 1 1] w fun e w' => ∃ v', e = .returned v' ∧ w'.ownsRow B 9 1 v' (l.take i ++ x :: l.drop i).length ((l.take i ++ x :: l.drop i).map encStr) ∧ w.grownBy w' v.ownBlock := by
 have hlen : (l.take i ++ x :: l.drop i).length = l.length + 1 := by simp; omega
 have hget := ayt l i x hi
 have hvs : ∀ j u, [encStr x][j]? = some u → w.cell? ⟨vb, 0 + j, none⟩ = some u := fun j u hu => by
  rw [Abs.cell_of hvb, Nat.zero_add]; simpa using hu
 have hone : ∀ u ∈ [encStr x], u.oneCell' = true := by simp [Value.oneCell']
 have honel : ∀ u ∈ l.map encStr, u.oneCell' = true := fun u hu => by
  obtain ⟨y, _, rfl⟩ := List.mem_map.1 hu; rfl
 generalize hL : l.take i ++ x :: l.drop i = L at *
 obtain ⟨h1, ⟨rfl, h2⟩ | ⟨g, cap, cur, rfl, h3, h4, h5, h6, h7, h8⟩⟩ := hv
 ·obtain rfl := List.eq_nil_of_length_eq_zero h2
  obtain rfl : i = 0 := by simpa using hi
  refine (Any2.slices_Insert_string_end_grow Tryz.ab3 none 0 0 vb 0 1 1 [] [encStr x] w (by omega) (by omega) (by omega) (by omega) rfl rfl (fun _ => rfl) (fun a h => by cases h) hvs hone).mono fun e w' ⟨he, hw⟩ => ⟨_, he, ?_, ?_⟩
  ·subst hw
   have hG := grownCap_ge w (0 + 1) 0 (Tryz.im.t 9)
   have hM := grownCap_le_maxLen w (0 + 1) 0 (Tryz.im.t 9) (by unfold maxLen; omega)
   generalize grownCap w (0 + 1) 0 (Tryz.im.t 9) = G at *
   subst hL
   have e1 : (Value.string ⟨#[]⟩).cells.size = 1 := rfl
   refine asa (xs := [encStr x]) (heap_alloc_new w.drew _) hB (by simp [Builtin.zeroCells, e1]; omega) hG hM fun j u hu => ?_
   cases j with
   | zero =>
    rw [Array.getElem?_append_left (by simp)]
    simpa using hu
   | succ j => simp at hu
  ·subst hw
   exact gn _ (((Below.refl _ w).drew).alloc (Nat.le_refl _) _)
 ·rw [Nat.mul_one] at h7 h8
  have hcell : ∀ j u, (l.map encStr)[j]? = some u → cur[j]? = some u := fun j u hu => by
   rw [← h8, List.getElem?_take] at hu
   split at hu
   ·simpa using hu
   ·cases hu
  have hcs : ∀ j u, (l.map encStr)[j]? = some u → w.cell? ⟨g, 0 + j, none⟩ = some u := fun j u hu => by
   rw [Abs.cell_of h4, Nat.zero_add]; exact hcell j u hu
  have hgvb : vb ≠ g := fun e => hne g rfl e.symm
  have hfz : ∀ j, w.frozen? ⟨g, j, none⟩ = false := fun j => frozen_of_row w g j _ _ h4
  have hmem : ∀ j u, (L.map encStr)[j]? = some u → (j < i → cur[j]? = some u) ∧ (j = i → u = encStr x) ∧ (i < j → cur[j - 1]? = some u) := fun j u hu => by
   rw [List.getElem?_map, hget j] at hu
   refine ⟨fun hj => ?_, fun hj => ?_, fun hj => ?_⟩
   ·rw [if_pos hj] at hu; exact hcell j u (by rw [List.getElem?_map]; exact hu)
   ·rw [if_neg (by omega), if_pos hj] at hu; simpa using hu.symm
   ·rw [if_neg (by omega), if_neg (by omega)] at hu; exact hcell (j - 1) u (by rw [List.getElem?_map]; exact hu)
  have hLl : (L.map encStr).length = l.length + 1 := by rw [List.length_map, hlen]
  have hend : ∀ {W : World} {b c : Nat} {cu : Array Value}, W.heap[b]? = some (.cells cu 9 (0, 0)) → B ≤ b → cu.size = c → l.length + 1 ≤ c → c ≤ maxLen → (∀ (j : Nat) (u : Value), (L.map encStr)[j]? = some u → cu[j]? = some u) → W.ownsRow B 9 1 (.slice (some ⟨b, 0, none⟩) (l.length + 1) c) L.length (L.map encStr) := by
   intro W b c cu a1 a2 a3 a4 a5 a6
   have := asa a1 a2 a3 (by rw [hLl]; exact a4) a5 a6
   rw [hLl] at this
   rw [hlen]
   exact this
  by_cases hroom : l.length + 1 ≤ cap
  ·by_cases hlast : i = l.length
   ·subst hlast
    refine (Any2.slices_Insert_string_end_room Tryz.ab3 g 0 l.length cap vb 0 1 1 [encStr x] w (by omega) hroom (by unfold maxLen at h6; omega) rfl (fun j hj => ?_) (fun j hj => hfz _) hvs hone).mono fun e w' ⟨he, hw⟩ => ⟨_, he, ?_, ?_⟩
    ·rw [Abs.cell_of h4]
     rw [Array.getElem?_eq_getElem (show 0 + l.length + j < cur.size by omega)]
     rfl
    ·subst hw
     obtain ⟨cur', c1, c2, c3⟩ := ma [encStr x] (0 + l.length) w cur h4 (by simp; omega)
     refine hend c1 h3 (c2.trans h7) hroom h6 fun j u hu => ?_
     have hj : j < l.length + 1 := by have := (List.getElem?_eq_some_iff.1 hu).1; omega
     rw [c3 j]
     split
     ·rename_i h
      simp only [List.length_cons, List.length_nil] at h
      rw [(hmem j u hu).2.1 (by omega), show j - (0 + l.length) = 0 by omega]; rfl
     ·rename_i h
      simp only [List.length_cons, List.length_nil] at h
      exact (hmem j u hu).1 (by omega)
    ·subst hw
     obtain ⟨s1, s2, s3, s4⟩ := nr (b := g) [encStr x] (0 + l.length) w
     exact ⟨s1, s2, s3, by rw [s4]; exact Nat.le_refl _, fun k hk hr => np _ _ _ k fun e => hr (by subst e; rfl)⟩
   ·refine (Any2.slices_Insert_string_shift Tryz.ab3 g 0 l.length cap i vb 0 1 1 (l.map encStr) [encStr x] w (by omega) (by omega) hroom (by unfold maxLen at h6; omega) hgvb (by simp) rfl hcs (fun j hj => ?_) (fun j hj => hfz _) hvs honel hone tb 9 1 cur.size (by simp [World.shape?, hvb]) (by simp [World.shape?, h4]) (by omega) (frozen_of_row w vb 0 _ _ hvb) (frozen_of_row w vb 1 _ _ hvb)).mono fun e w' ⟨he, hw⟩ => ⟨_, he, ?_, ?_⟩
    ·rw [Abs.cell_of h4]
     rw [Array.getElem?_eq_getElem (show 0 + j < cur.size by omega)]
     rfl
    ·subst hw
     obtain ⟨cur', c1, c2, c3⟩ := ma ((l.map encStr).drop i) (0 + (i + 1)) w.drew cur h4 (by simp; omega)
     obtain ⟨cur2, d1, d2, d3⟩ := ma [encStr x] (0 + i) _ cur' c1 (by simp; omega)
     refine hend d1 h3 (d2.trans (c2.trans h7)) hroom h6 fun j u hu => ?_
     have hj : j < l.length + 1 := by have := (List.getElem?_eq_some_iff.1 hu).1; omega
     rw [d3 j]
     split
     ·rename_i h
      simp only [List.length_cons, List.length_nil] at h
      rw [(hmem j u hu).2.1 (by omega), show j - (0 + i) = 0 by omega]; rfl
     ·rename_i h
      simp only [List.length_cons, List.length_nil] at h
      rw [c3 j]
      split
      ·rename_i h'
       simp only [List.length_drop, List.length_map] at h'
       rw [List.getElem?_drop, show i + (j - (0 + (i + 1))) = j - 1 by omega]
       rw [List.getElem?_map, hget j, if_neg (by omega), if_neg (by omega)] at hu
       rw [List.getElem?_map]; exact hu
      ·rename_i h'
       simp only [List.length_drop, List.length_map] at h'
       exact (hmem j u hu).1 (by omega)
    ·subst hw
     obtain ⟨s1, s2, s3, s4⟩ := nr (b := g) ((l.map encStr).drop i) (0 + (i + 1)) w.drew
     obtain ⟨t1, t2, t3, t4⟩ := nr (b := g) [encStr x] (0 + i) (w.drew.setCells g (0 + (i + 1)) ((l.map encStr).drop i))
     refine ⟨t1.trans s1, t2.trans s2, t3.trans s3, by rw [t4, s4]; exact Nat.le_refl _, fun k hk hr => ?_⟩
     have hkg : k ≠ g := fun e => hr (by subst e; rfl)
     rw [np _ _ _ k hkg, np _ _ _ k hkg]; rfl
  ·have hcap : cap = l.length := by omega
   by_cases hlast : i = l.length
   ·subst hlast
    refine (Any2.slices_Insert_string_end_grow Tryz.ab3 (some ⟨g, 0, none⟩) l.length cap vb 0 1 1 (l.map encStr) [encStr x] w (by omega) (by omega) (by omega) (by omega) (by simp) rfl (fun h => by cases h) (fun a h j u hu => by cases h; rw [Addr.add_lit]; exact hcs j u hu) hvs hone).mono fun e w' ⟨he, hw⟩ => ⟨_, he, ?_, ?_⟩
    ·subst hw
     have hG := grownCap_ge w (l.length + 1) cap (Tryz.im.t 9)
     have hM := grownCap_le_maxLen w (l.length + 1) cap (Tryz.im.t 9) (by unfold maxLen; omega)
     generalize grownCap w (l.length + 1) cap (Tryz.im.t 9) = G at *
     refine hend (heap_alloc_new w.drew _) hB (by have e1 : (Value.string ⟨#[]⟩).cells.size = 1 := rfl; simp [Builtin.zeroCells, e1]; omega) hG hM fun j u hu => ?_
     have hj : j < l.length + 1 := by have := (List.getElem?_eq_some_iff.1 hu).1; omega
     rw [List.getElem?_map, hget j] at hu
     rw [Array.getElem?_append_left (by simp; omega)]
     simp only [List.getElem?_toArray]
     rw [List.getElem?_append]
     split
     ·rename_i h
      simp only [List.length_map] at h
      rw [if_pos h] at hu
      rw [List.getElem?_map]; exact hu
     ·rename_i h
      simp only [List.length_map] at h
      rw [if_neg h, if_pos (by omega)] at hu
      rw [show j - (l.map encStr).length = 0 by simp; omega]
      exact hu
    ·subst hw
     exact gn _ (((Below.refl _ w).drew).alloc (Nat.le_refl _) _)
   ·refine (Any2.slices_Insert_string_grow Tryz.ab3 g 0 l.length cap i vb 0 1 1 (l.map encStr) [encStr x] w (by omega) (by omega) (by omega) (by omega) (by omega) (by simp) rfl hcs hvs honel hone).mono fun e w' ⟨he, hw⟩ => ⟨_, he, ?_, ?_⟩
    ·subst hw
     have hG := grownCap_ge w (l.length + 1) cap (Tryz.im.t 9)
     have hM := grownCap_le_maxLen w (l.length + 1) cap (Tryz.im.t 9) (by unfold maxLen; omega)
     generalize grownCap w (l.length + 1) cap (Tryz.im.t 9) = G at *
     have hsz : (((l.map encStr).take i).toArray ++ Builtin.zeroCells (Value.string ⟨#[]⟩).cells (l.length + 1 - i) ++ Builtin.zeroCells (Value.string ⟨#[]⟩).cells (G - (l.length + 1))).size = G := by
      have e1 : (Value.string ⟨#[]⟩).cells.size = 1 := rfl
      simp [Builtin.zeroCells, e1]; omega
     obtain ⟨cur', c1, c2, c3⟩ := ma [encStr x] i (w.alloc (.cells (((l.map encStr).take i).toArray ++ Builtin.zeroCells (Value.string ⟨#[]⟩).cells (l.length + 1 - i) ++ Builtin.zeroCells (Value.string ⟨#[]⟩).cells (G - (l.length + 1))) 9)).drew _ (heap_alloc_new w _) (by rw [hsz]; simp; omega)
     obtain ⟨cur2, d1, d2, d3⟩ := ma ((l.map encStr).drop i) (i + 1) (World.drew _) cur' (avp c1) (by rw [c2, hsz]; simp; omega)
     refine hend d1 hB (d2.trans (c2.trans hsz)) hG hM fun j u hu => ?_
     have hj : j < l.length + 1 := by have := (List.getElem?_eq_some_iff.1 hu).1; omega
     rw [List.getElem?_map, hget j] at hu
     rw [d3 j]
     split
     ·rename_i h
      simp only [List.length_drop, List.length_map] at h
      rw [if_neg (by omega), if_neg (by omega)] at hu
      rw [List.getElem?_drop, show i + (j - (i + 1)) = j - 1 by omega, List.getElem?_map]; exact hu
     ·rename_i h
      simp only [List.length_drop, List.length_map] at h
      rw [c3 j]
      split
      ·rename_i h'
       simp only [List.length_cons, List.length_nil] at h'
       rw [if_neg (by omega), if_pos (by omega)] at hu
       rw [show j - i = 0 by omega]; exact hu
      ·rename_i h'
       simp only [List.length_cons, List.length_nil] at h'
       rw [if_pos (by omega)] at hu
       rw [Array.append_assoc, Array.getElem?_append_left (by simp; omega)]
       simp only [List.getElem?_toArray]
       rw [List.getElem?_take, if_pos (by omega), List.getElem?_map]; exact hu
    ·subst hw
     refine gn _ ?_
     have a1 : Below w.heap.size w (w.alloc (.cells (((l.map encStr).take i).toArray ++ Builtin.zeroCells (Value.string ⟨#[]⟩).cells (l.length + 1 - i) ++ Builtin.zeroCells (Value.string ⟨#[]⟩).cells (grownCap w (l.length + 1) cap (Tryz.im.t 9) - (l.length + 1))) (Tryz.im.t 9))).drew := ((Below.refl _ w).alloc (Nat.le_refl _) _).drew
     have put : ∀ {W : World} (o : Nat) (vs : List Value), Below w.heap.size w W → Below w.heap.size w (W.setCells w.heap.size o vs) := fun {W} o vs h => by
      obtain ⟨s1, s2, s3, s4⟩ := nr (b := w.heap.size) vs o W
      exact ⟨s1.trans h.os, s2.trans h.tape, s3.trans h.output, by rw [s4]; exact h.size, fun k hk => (np _ _ _ k (by omega)).trans (h.block k hk)⟩
     exact put _ _ (put _ _ a1).drew
end Go.Proofs.YtmdimhcjogjcgaaGreatDoor.Gr
namespace Go.Proofs.YtmdimhcjogjcgaaGreatDoor.Gr
open Go.RowKit Go.Lib Go.Proofs.YtmdimhcjogjcgaaGreatDoor.Lat Go.Proofs.YtmdimhcjogjcgaaGreatDoor.Mp Go.Maps
open Go.Proofs.YtmdimhcjogjcgaaGreatDoor.Abs (ai km)
theorem below_drewN (w : World) (q : Nat) : Below w.heap.size w (w.drewN q) := ⟨rfl, rfl, rfl, Nat.le_refl _, fun _ _ => rfl⟩
theorem toList_mk (x : Bs) : (⟨x.toArray⟩ : ByteArray).toList = x := by rw [Lib.toList_data]
theorem mk_inj {x y : Bs} : ((⟨x.toArray⟩ : ByteArray) = ⟨y.toArray⟩) ↔ x = y := ⟨fun h => by have := congrArg (fun b => b.data.toList) h; simpa using this, fun h => by rw [h]⟩
theorem apn {w : World} {B : Nat} {v : Value} {l : List Bs} (hv : w.ownsRow B 9 1 v l.length (l.map encStr)) (hr : Ris l) (hl : l.length ≤ 1073741824) (x : Bs) :
  Calls Tryz.prog 158 #[v, .string ⟨x.toArray⟩] w fun e w' => e = .returned (.tuple #[.int .i64 (pos l x : Nat), .bool (decide (x ∈ l))]) ∧ Below w.heap.size w w' := by
 obtain ⟨A, cap, rfl, hA⟩ := j9 hv
 cases l with
 | nil =>
  refine (Any2.slices_BinarySearch_string_empty Tryz.afm A cap ⟨x.toArray⟩ w).mono fun e w' ⟨he, hw⟩ => ⟨?_, by subst hw; exact Below.refl _ _⟩
  rw [he]; simp [pos]
 | cons y l =>
  obtain ⟨g, rfl, _, _, _⟩ := hA 0 y rfl
  have hS : ∀ t z, (y :: l)[t]? = some z → ((fun t => (⟨((y :: l).getD t x).toArray⟩ : ByteArray)) t) = ⟨z.toArray⟩ := fun t z hz => by
   simp only [List.getD_eq_getElem?_getD, hz, Option.getD_some]
  have hbs : Lib.bsGo (fun t => Op.bytesLess ((fun t => (⟨((y :: l).getD t x).toArray⟩ : ByteArray)) t).toList (⟨x.toArray⟩ : ByteArray).toList) (y :: l).length 0 (y :: l).length = pos (y :: l) x := by
   refine axa hr _ (fun t z hz => ?_) fun t ht => ?_
   ·show Op.bytesLess ((fun t => (⟨((y :: l).getD t x).toArray⟩ : ByteArray)) t).toList _ = _
    rw [hS t z hz, toList_mk, toList_mk, km]
   ·show Op.bytesLess (⟨((y :: l).getD t x).toArray⟩ : ByteArray).toList _ = _
    rw [List.getD_eq_getElem?_getD, List.getElem?_eq_none ht, toList_mk, toList_mk]
    show Op.bytesLess x x = false
    rw [km, ic]
  refine (Any2.slices_BinarySearch_string Tryz.afm g 0 (y :: l).length cap (fun t => ⟨((y :: l).getD t x).toArray⟩) ⟨x.toArray⟩ w (by omega) fun j hj => ?_).mono fun e w' ⟨he, q, hw⟩ => ⟨?_, by subst hw; exact below_drewN w q⟩
  ·obtain ⟨g', e, _, _, hc⟩ := hA j _ (List.getElem?_eq_getElem hj)
   cases e
   rw [Nat.zero_add, hc]
   show _ = some (Value.string ((fun t => (⟨((y :: l).getD t x).toArray⟩ : ByteArray)) j))
   rw [hS j _ (List.getElem?_eq_getElem hj)]
  ·rw [he, hbs]
   have hd : (pos (y :: l) x < (y :: l).length ∧ (⟨((y :: l).getD (pos (y :: l) x) x).toArray⟩ : ByteArray) = ⟨x.toArray⟩) ↔ x ∈ y :: l := ?_
   ·rw [show decide (pos (y :: l) x < (y :: l).length ∧ (fun t => (⟨((y :: l).getD t x).toArray⟩ : ByteArray)) (pos (y :: l) x) = ⟨x.toArray⟩) = decide (x ∈ y :: l) from decide_eq_decide.2 hd]
   rw [← aii hr]
   constructor
   ·rintro ⟨h1, h2⟩
    rw [mk_inj] at h2
    rw [List.getD_eq_getElem?_getD, List.getElem?_eq_getElem h1] at h2
    rw [List.getElem?_eq_getElem h1]
    exact congrArg some h2
   ·intro h
    have h1 := (List.getElem?_eq_some_iff.1 h).1
    refine ⟨h1, ?_⟩
    rw [List.getD_eq_getElem?_getD, h]; rfl
structure zs (w W : World) (v : Value) (vb : Nat) (l : List Bs) (x : Bs) : Prop where
 bel : Below w.heap.size w W
 row : W.ownsRow w.heap.size 9 1 v l.length (l.map encStr)
 blk : ∃ t, W.heap[vb]? = some (.cells #[encStr x] t (0, 0))
 ne : ∀ g, v.ownBlock = some g → g ≠ vb
theorem so {w : World} {B : Nat} {v : Value} {n : Nat} {xs : List Value} (h : w.ownsRow B 9 1 v n xs) {g : Nat} (hg : v.ownBlock = some g) : B ≤ g ∧ g < w.heap.size := by
 obtain ⟨h1, ⟨rfl, h2⟩ | ⟨g', cap, cur, rfl, h3, h4, _⟩⟩ := h
 ·cases hg
 ·cases hg; exact ⟨h3, dz h4⟩
theorem a8j {w : World} {l : List Bs} {x : Bs} {t : TypeId} : ∀ (w1 : World) (v : Value), Ax (w1.ownsRow w.drew.heap.size 9 1 v l.length (l.map encStr) ∧ Below w.drew.heap.size w.drew w1) → zs w (w1.alloc (.cells #[encStr x] t)) v w1.heap.size l x := fun w1 v h =>
 ⟨dp (dp ((Below.refl _ w).drew) (Nat.le_refl _) h.out.2) (Nat.le_refl _) ((Below.refl _ w1).alloc (Nat.le_refl _) _), ko h.out.1 ((Below.refl _ w1).alloc (Nat.le_refl _) _), ⟨t, heap_alloc_new w1 _⟩, fun g hg => by have := (so h.out.1 hg).2; omega⟩
theorem a8k {w : World} {l : List Bs} {x : Bs} {t : TypeId} : ∀ (w1 : World) (v : Value), Ax (w1.ownsRow (w.alloc (.cells #[encStr x] t)).drew.heap.size 9 1 v l.length (l.map encStr) ∧ Below (w.alloc (.cells #[encStr x] t)).drew.heap.size (w.alloc (.cells #[encStr x] t)).drew w1) → zs w w1 v w.heap.size l x := fun w1 v h => by
 have hs : (w.alloc (.cells #[encStr x] t)).drew.heap.size = w.heap.size + 1 := by show (w.alloc _).heap.size = _; simp
 refine ⟨dp (((Below.refl _ w).alloc (Nat.le_refl _) _).drew) (Nat.le_refl _) h.out.2, my h.out.1 (by rw [hs]; omega), ⟨t, ?_⟩, fun g hg => by have := (so h.out.1 hg).1; omega⟩
 rw [h.out.2.block _ (by rw [hs]; omega)]
 exact heap_alloc_new w _
theorem IsG.val {w : World} {B bg bm n : Nat} {f : Gr} (h : IsG w B bg bm n f) (k : ByteArray) (hk : k.size ≤ maxLen) :
  ∃ u, (Instr.lookup 211 (.map (some bm)) (.string k) false).run Tryz.prog w = .ok u w ∧ w.ownsRow B 9 1 u ((f k.data.toList).getD []).length (((f k.data.toList).getD []).map encStr) := by
 obtain ⟨F, h1, h2⟩ := h.map
 refine ⟨_, h1.apk Tryz.underlying9 Tryz.underlying211 (Tryz.zeroValue37 w) k hk, ?_⟩
 have h3 := h2 k.data.toList
 cases hF : F k.data.toList with
 | none => rw [h3.1.1 hF]; exact ⟨rfl, .inl ⟨rfl, rfl⟩⟩
 | some v =>
  cases hf : f k.data.toList with
  | none => rw [h3.1.2 hf] at hF; cases hF
  | some l => exact h3.2 v l hF hf
theorem asb {w : World} {B : Nat} {u : Value} {l : List Bs} (hrow : w.ownsRow B 9 1 u l.length (l.map encStr)) (hl : l.length ≤ 1073741824) :
  Calls Tryz.prog 160 #[u] w fun e w' => ∃ v', e = .returned v' ∧ Ax (w'.ownsRow w.heap.size 9 1 v' l.length (l.map encStr) ∧ Below w.heap.size w w') := by
 obtain ⟨A, cap, rfl, hA⟩ := j9 hrow
 cases l with
 | nil =>
  cases A with
  | none => exact (Any.slices_Clone_string_nil Tryz.sn 0 cap w).mono fun e w' ⟨he, hw⟩ => ⟨_, he, ⟨⟨rfl, .inl ⟨rfl, rfl⟩⟩, by subst hw; exact Below.refl _ _⟩⟩
  | some a => exact (Any.slices_Clone_string_zero Tryz.sn a cap w).mono fun e w' ⟨v', he, h1, _, h2⟩ => ⟨v', he, ⟨h1, h2⟩⟩
 | cons x l =>
  obtain ⟨g, rfl, _, _, _⟩ := hA 0 x rfl
  refine (Any.slices_Clone_string Tryz.sn g 0 (x :: l).length cap ((x :: l).map fun y => ⟨y.toArray⟩) w (by simp) (by omega) fun j hj => ?_).mono fun e w' ⟨v', he, h1, _, h2⟩ => ⟨v', he, ⟨?_, h2⟩⟩
  ·rw [List.length_map] at hj
   obtain ⟨g', e, _, _, hc⟩ := hA j _ (List.getElem?_eq_getElem hj)
   cases e
   rw [Nat.zero_add, hc]
   have : ((x :: l).map fun y => (⟨y.toArray⟩ : ByteArray)).getD j ByteArray.empty = ⟨((x :: l)[j]).toArray⟩ := by
    rw [List.getD_eq_getElem?_getD, List.getElem?_map, List.getElem?_eq_getElem hj]; rfl
   rw [this]
  ·have e : ((List.map (fun y => (⟨y.toArray⟩ : ByteArray)) (x :: l)).take (x :: l).length).map Value.string = (x :: l).map encStr := by
    rw [List.take_of_length_le (by simp), List.map_map]; rfl
   rw [e] at h1
   exact h1
theorem ayu {w : World} {B bg bm n : Nat} {f : Gr} (h : IsG w B bg bm n f) (hB : B ≤ w.heap.size) (a : ByteArray) (ha : a.size ≤ maxLen) (hn : n < maxLen) (l : List Bs) (x : Bs) (hl : l.length ≤ 1073741824) (i : Nat) (hi : i ≤ l.length) {W : World} {v : Value} {vb : Nat} (hH : zs w W v vb l x) :
  Calls Tryz.prog 159 #[v, .int .i64 i, .slice (some ⟨vb, 0, none⟩) 1 1] W fun e w' => ∃ v3 w4, e = .returned v3 ∧ (Instr.mapUpdate 211 (.map (some bm)) (.string a) v3).run Tryz.prog w' = .ok () w4 ∧ w'.cell? ⟨bg, 0, none⟩ = some (.map (some bm)) ∧ w4.cell? ⟨bg, 0, none⟩ = some (.map (some bm)) ∧
   Ax (IsG w4 B bg bm (n + 1) (upd f a.data.toList (some (l.take i ++ x :: l.drop i))) ∧ w.grownBy w4 (some bm)) := by
 obtain ⟨t, hblk⟩ := hH.blk
 refine (afn hH.row hH.bel.size hl i hi x vb t hblk hH.ne).mono fun e w' ⟨v3, he, hrow, hg⟩ => ?_
 have hBw : Below w.heap.size w w' := by
  refine ⟨hg.os.trans hH.bel.os, hg.tape.trans hH.bel.tape, hg.output.trans hH.bel.output, Nat.le_trans hH.bel.size hg.size, fun k hk => (hg.block k (Nat.lt_of_lt_of_le hk hH.bel.size) fun e => ?_).trans (hH.bel.block k hk)⟩
  have := (so hH.row e.symm).1
  omega
 have hI := h.below hBw
 obtain ⟨F, h1, h2⟩ := hI.map
 obtain ⟨w4, hrun, hF, hturn⟩ := h1.store Tryz.underlying9 Tryz.underlying211 hn a ha v3
 obtain ⟨es, c, hm⟩ := h1.blk
 have hrow4 : w4.ownsRow B 9 1 v3 (l.take i ++ x :: l.drop i).length ((l.take i ++ x :: l.drop i).map encStr) := by
  refine my (tp hrow fun b cs t fr hb _ _ => hturn.grown.block b (dz hb) fun e => ?_) hB
  cases e; rw [hb] at hm; cases hm
 have hI4 := hI.put hF hturn.grown h2 hrow4
 exact ⟨v3, w4, he, hrun, hI.cell, hI4.cell, ⟨hI4, dv (gn _ hBw) hturn.grown⟩⟩
end Go.Proofs.YtmdimhcjogjcgaaGreatDoor.Gr
namespace Go.Proofs.YtmdimhcjogjcgaaGreatDoor.Gr
open Go.RowKit Go.Lib Go.Proofs.YtmdimhcjogjcgaaGreatDoor.Lat Go.Proofs.YtmdimhcjogjcgaaGreatDoor.Mp Go.Maps
theorem rj (x : Bs) : (⟨x.toArray⟩ : ByteArray).data.toList = x := by simp
theorem aha {w : World} {B bg bm n : Nat} {f : Gr} (h : IsG w B bg bm n f) (k : Bs) (hk : k.length ≤ maxLen) (hn : n < maxLen) :
  Calls Tryz.prog 116 #[.pointer (some ⟨bg, 0, none⟩), .string ⟨k.toArray⟩] w fun e w' => e = .returned (.tuple #[]) ∧ Ax (IsG w' B bg bm (n + 1) (dt f k) ∧ w.grownBy w' (some bm)) := by
 have := aoe h ⟨k.toArray⟩ (by rw [size_mk]; exact hk) hn
 rw [rj] at this
 exact this.mono fun e w' ⟨h1, h2, h3⟩ => ⟨h1, ⟨h2, h3⟩⟩
theorem asc {f : Gr} {a b : Bs} {l : List Bs} (hl : (dt (dt f a) b a).getD [] = l) (hb : b ∈ l) : qm f a b = dt (dt f a) b := by
 unfold qm
 try simp only
 rw [hl, if_pos hb]
theorem asd {f : Gr} {a b : Bs} {l : List Bs} (hl : (dt (dt f a) b a).getD [] = l) (hb : b ∉ l) : qm f a b = upd (dt (dt f a) b) a (some (l.take (pos l b) ++ b :: l.drop (pos l b))) := by
 unfold qm
 try simp only
 rw [hl, if_neg hb]; rfl
theorem alf {w : World} {B bg bm n : Nat} {f : Gr} (h : IsG w B bg bm n f) (hok : ly f) (hB : B ≤ w.heap.size) (a b : Bs) (ha : a.length ≤ maxLen) (hb : b.length ≤ maxLen) (hn : n ≤ 1073741824) (hl : ∀ k l, f k = some l → l.length ≤ 1073741824) :
  Calls Tryz.prog 117 #[.pointer (some ⟨bg, 0, none⟩), .string ⟨a.toArray⟩, .string ⟨b.toArray⟩] w fun e w' => e = .returned (.tuple #[]) ∧ IsG w' B bg bm (n + 3) (qm f a b) ∧ w.grownBy w' (some bm) := by
 have C1 := Lib.hid (aha h a ha (by unfold maxLen; omega))
 have hok2 := ab1 (ab1 hok a) b
 have hl2 : ((dt (dt f a) b a).getD []).length ≤ 1073741824 := by
  have e : ∀ x, (dt f x a).getD [] = (f a).getD [] := fun x => by
   unfold dt upd
   split
   ·rename_i e; subst e; rfl
   ·rfl
  have e2 : (dt (dt f a) b a).getD [] = (f a).getD [] := by
   unfold dt upd
   split
   ·rename_i e; subst e; simp
   ·simp
  rw [e2]
  cases hf : f a with
  | none => simp
  | some l => exact hl a l hf
 have hr2 : Ris ((dt (dt f a) b a).getD []) := by
  cases hf : dt (dt f a) b a with
  | none => exact List.Pairwise.nil
  | some l => exact hok2.ris a l hf
 obtain ⟨l, hll⟩ : ∃ l, (dt (dt f a) b a).getD [] = l := ⟨_, rfl⟩
 rw [hll] at hl2 hr2
 clear hok hok2 h hl
 go_enter Tryz.func117, Tryz.ntmps117
 go_wp2_with fail
 refine C1.out.mono ?_
 rintro e w1 ⟨rfl, h1⟩
 have C2 := Lib.hid (aha h1.out.1 b hb (by unfold maxLen; omega))
 clear C1
 go_wp2_with fail
 refine C2.out.mono ?_
 rintro e w2 ⟨rfl, h2⟩
 have hI2 : IsG w2 B bg bm (n + 2) (dt (dt f a) b) := h2.out.1
 have hg2 := Lib.hid (dv h1.out.2 h2.out.2)
 obtain ⟨u, hlook, hrow⟩ := hI2.val ⟨a.toArray⟩ (by rw [size_mk]; exact ha)
 rw [rj, hll] at hrow
 have hc2 := hI2.cell
 have C3 := Lib.hid (apn hrow hr2 hl2 b)
 have hI2 := Lib.hid hI2
 have hrow := Lib.hid hrow
 clear C2 h1 h2
 go_wp2_with fail
 refine C3.out.mono ?_
 rintro e w3 ⟨rfl, hB3⟩
 have hI3 := hI2.out.below hB3
 have hrow3 := ko hrow.out hB3
 have hg3 := Lib.hid (dv hg2.out (gn (some bm) hB3))
 have hc3 := hI3.cell
 have hBw : B ≤ w3.heap.size := Nat.le_trans hB hg3.out.size
 clear C3 hlook hc2 hB3 hrow hI2 hg2
 by_cases hbl : b ∈ l
 ·rw [decide_eq_true hbl]
  have hfin := Lib.hid (show IsG w3 B bg bm (n + 3) (qm f a b) from by rw [asc hll hbl]; exact hI3.mono (by omega))
  clear hI3 hrow3 hbl
  go_wp2_with fail
  go_end0
  exact ⟨rfl, hfin.out, hg3.out⟩
 ·rw [decide_eq_false hbl]
  have CC := Lib.hid fun W (hW : Below w3.heap.size w3 W) => asb (ko hrow3 hW) hl2
  have CI := Lib.hid fun W v vb (hH : zs w3 W v vb l b) => ayu hI3 hBw ⟨a.toArray⟩ (by rw [size_mk]; exact ha) (by unfold maxLen; omega) l b hl2 (pos l b) (afl l b) hH
  have hlink := Lib.hid (asd hll hbl)
  generalize hi : pos l b = i at *
  clear hI3 hrow3 hbl hll hr2 hi
  go_wp2_with fail
  have kp : ∀ W : World, Below w3.heap.size w3 W → ∀ (w4 : World) (v : Value), Ax (w4.ownsRow W.heap.size 9 1 v l.length (l.map encStr) ∧ Below W.heap.size W w4) → w4.cell? ⟨bg, 0, none⟩ = some (.map (some bm)) := fun W hW w4 v hx => by
   have hlt := World.block_lt_of_cell? w3 _ hc3
   rw [World.cell?_of_block ((hx.out.2.block bg (Nat.lt_of_lt_of_le hlt hW.size)).trans (hW.block bg hlt))]
   exact hc3
  have bd := Lib.hid (show Below w3.heap.size w3 w3.drew from (Below.refl _ w3).drew)
  have ba := Lib.hid (show Below w3.heap.size w3 (w3.alloc (.cells #[.string ⟨b.toArray⟩] 9)).drew from ((Below.refl _ w3).alloc (Nat.le_refl _) _).drew)
  have kp1 := Lib.hid (kp _ bd.out)
  have kp2 := Lib.hid (kp _ ba.out)
  clear kp
  go_region_held3 (fun w' => w'.cell? ⟨bg, 0, none⟩ = some (.map (some bm))) (go_keep)
   (first
    | (go_at_call 160; refine (CC.out _ (by first | exact bd.out | exact ba.out)).mono ?_; rintro e w4 ⟨v4, rfl, hx⟩; have hq4 : w4.cell? ⟨bg, 0, none⟩ = some (.map (some bm)) := by first | exact kp1.out _ _ hx | exact kp2.out _ _ hx)
    | (go_at_call 159; refine (CI.out _ _ _ (by first | exact a8j _ _ hx | exact a8k _ _ hx)).mono ?_; rintro e w5 ⟨v5, w6, rfl, hrun, hq5, hq6, hz⟩))
  all_goals
   go_wp2_with fail
   go_end0
   exact ⟨rfl, by rw [hlink.out]; exact hz.out.1, dv hg3.out hz.out.2⟩
end Go.Proofs.YtmdimhcjogjcgaaGreatDoor.Gr
