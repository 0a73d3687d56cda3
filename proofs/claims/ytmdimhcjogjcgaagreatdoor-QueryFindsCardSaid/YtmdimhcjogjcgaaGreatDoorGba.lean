/- state.rings. -/
import Derived.Test.YtmdimhcjogjcgaaGreatDoorGaz
import Derived.Test.YtmdimhcjogjcgaaGreatDoorGay
import Derived.Test.YtmdimhcjogjcgaaGreatDoorGav
set_option linter.all false
set_option maxRecDepth 100000
set_option maxHeartbeats 16000000
noncomputable section
namespace Go.Proofs.YtmdimhcjogjcgaaGreatDoor.Gr
open Go.RowKit Go.Lib Go.Proofs.YtmdimhcjogjcgaaGreatDoor.Lat Go.Proofs.YtmdimhcjogjcgaaGreatDoor.Mp Go.Maps
abbrev Td := Bs × List Bs
def RT (w : World) (v : Value) (ts : List Td) : Prop := ∃ A cap, v = .slice A ts.length cap ∧ ∀ (i : Nat) (n : Bs) (ds : List Bs), ts[i]? = some (n, ds) → ∃ g o A1 n1 cap1 A2 cap2, A = some ⟨g, o, none⟩ ∧
 w.cell? ⟨g, o + i * 3, none⟩ = some (.string ⟨n.toArray⟩) ∧ w.cell? ⟨g, o + i * 3 + 1, none⟩ = some (.slice A1 n1 cap1) ∧ w.cell? ⟨g, o + i * 3 + 2, none⟩ = some (.slice A2 ds.length cap2) ∧
 ∀ (j : Nat) (s : Bs), ds[j]? = some s → ∃ g2 o2, A2 = some ⟨g2, o2, none⟩ ∧ w.cell? ⟨g2, o2 + j, none⟩ = some (.string ⟨s.toArray⟩)
theorem cg {w W : World} (h : Below w.heap.size w W) {a : Addr} {x : Value} (hc : w.cell? a = some x) : W.cell? a = some x := by
 rw [World.cell?_of_block (h.block a.block (World.block_lt_of_cell? w _ hc))]; exact hc
def nms (ts : List Td) : List Bs := ts.map (·.1)
def Ring (ts : List Td) : Prop := ∃ S : Bs → Prop, (∃ k, S k) ∧ ∀ k, S k → k ∈ nms ts ∧ ∃ ds, (k, ds) ∈ ts ∧ ∃ d ∈ ds, d ∈ nms ts ∧ S d
structure Rn (ts : List Td) (B bg bm n : Nat) (i : Nat) (k : Bs) (L : List Bs) (W : World) : Prop where
 ex : ∃ f, IsG W B bg bm n f ∧ sg f ∧ (∀ x, f x ≠ none ↔ x ∈ nms ts) ∧ ∀ a b, ju f a b ↔ b ∈ nms ts ∧ ((∃ ds, (a, ds) ∈ ts.take i ∧ b ∈ ds) ∨ (a = k ∧ b ∈ L))
theorem Rn.below {ts : List Td} {B bg bm n i : Nat} {k : Bs} {L : List Bs} {W W' : World} (h : Rn ts B bg bm n i k L W) (hB : Below W.heap.size W W') : Rn ts B bg bm n i k L W' := by
 obtain ⟨f, h1, h2⟩ := h.ex
 exact ⟨f, h1.below hB, h2⟩
theorem Rn.mono {ts : List Td} {B bg bm n m i : Nat} {k : Bs} {L : List Bs} {W : World} (h : Rn ts B bg bm n i k L W) (hm : n ≤ m) : Rn ts B bg bm m i k L W := by
 obtain ⟨f, h1, h2⟩ := h.ex
 exact ⟨f, h1.mono hm, h2⟩
theorem Rn.enter {ts : List Td} {B bg bm n i : Nat} {k k' : Bs} {W : World} (h : Rn ts B bg bm n i k [] W) : Rn ts B bg bm n i k' [] W := by
 obtain ⟨f, h1, h2, h3, h4⟩ := h.ex
 exact ⟨f, h1, h2, h3, fun a b => by rw [h4]; simp⟩
theorem ahy {ts : List Td} {i : Nat} {x y : Td} (h : ts[i]? = some x) : y ∈ ts.take (i + 1) ↔ y ∈ ts.take i ∨ y = x := by
 have e : ts.take (i + 1) = ts.take i ++ [x] := by rw [List.take_add_one, h]; rfl
 rw [e, List.mem_append, List.mem_singleton]
theorem Rn.leave {ts : List Td} {B bg bm n i : Nat} {k : Bs} {ds : List Bs} {W : World} (hk : ts[i]? = some (k, ds)) (h : Rn ts B bg bm n i k ds W) : Rn ts B bg bm n (i + 1) k [] W := by
 obtain ⟨f, h1, h2, h3, h4⟩ := h.ex
 refine ⟨f, h1, h2, h3, fun a b => ?_⟩
 rw [h4]
 refine and_congr_right fun _ => ?_
 constructor
 ·rintro (⟨d, h1, h2⟩ | ⟨rfl, h2⟩)
  ·exact .inl ⟨d, (ahy hk).2 (.inl h1), h2⟩
  ·exact .inl ⟨ds, (ahy hk).2 (.inr rfl), h2⟩
 ·rintro (⟨d, h1, h2⟩ | ⟨_, h2⟩)
  ·rcases (ahy hk).1 h1 with h1 | h1
   ·exact .inl ⟨d, h1, h2⟩
   ·cases h1; exact .inr ⟨rfl, h2⟩
  ·cases h2
theorem Rn.skip {ts : List Td} {B bg bm n i j : Nat} {k s : Bs} {ds : List Bs} {W : World} (hs : ds[j]? = some s) (hn : s ∉ nms ts) (h : Rn ts B bg bm n i k (ds.take j) W) : Rn ts B bg bm n i k (ds.take (j + 1)) W := by
 obtain ⟨f, h1, h2, h3, h4⟩ := h.ex
 refine ⟨f, h1, h2, h3, fun a b => ?_⟩
 rw [h4, xx hs]
 refine and_congr_right fun hb => ?_
 have : b ≠ s := fun e => hn (e ▸ hb)
 simp [this]
theorem Rn.link {ts : List Td} {B bg bm n i j N : Nat} {k s : Bs} {ds : List Bs} {w : World} (hs : ds[j]? = some s) (hsn : s ∈ nms ts) (hkn : k ∈ nms ts) (hsm : ∀ x ∈ nms ts, x.length ≤ maxLen) (hN : ts.length ≤ N) (hN2 : N ≤ 16384) (hB : B ≤ w.heap.size) (hn : n ≤ 1073741824)
  (h : Rn ts B bg bm n i k (ds.take j) w) : Calls Tryz.prog 117 #[.pointer (some ⟨bg, 0, none⟩), .string ⟨k.toArray⟩, .string ⟨s.toArray⟩] w fun e w' => e = .returned (.tuple #[]) ∧ Ax (Rn ts B bg bm (n + 3) i k (ds.take (j + 1)) w' ∧ w.grownBy w' (some bm)) := by
 obtain ⟨f, h1, h2, h3, h4⟩ := h.ex
 have hF : Few f N := ⟨nms ts, fun x hx => (h3 x).1 hx, by simpa [nms] using hN, hsm⟩
 refine (aui h1 h2 hB k s (hsm k hkn) (hsm s hsn) hn fun a l hl => Nat.le_trans (hF.list h2 hl) (by omega)).mono fun e w' ⟨he, hI, hg⟩ => ⟨he, ⟨⟨_, hI, axz h2 k s, fun y => ?_, fun a b => ?_⟩, hg⟩⟩
 ·rw [aoh, h3]
  constructor
  ·rintro (rfl | rfl | h)
   ·exact hkn
   ·exact hsn
   ·exact h
  ·exact fun h => .inr (.inr h)
 ·rw [ahv, h4, xx hs]
  constructor
  ·rintro (⟨rfl, rfl⟩ | ⟨hb, h | ⟨h, h'⟩⟩)
   ·exact ⟨hsn, .inr ⟨rfl, .inr rfl⟩⟩
   ·exact ⟨hb, .inl h⟩
   ·exact ⟨hb, .inr ⟨h, .inl h'⟩⟩
  ·rintro ⟨hb, h | ⟨rfl, h' | rfl⟩⟩
   ·exact .inr ⟨hb, .inl h⟩
   ·exact .inr ⟨hb, .inr ⟨rfl, h'⟩⟩
   ·exact .inl ⟨rfl, rfl⟩
theorem bcb {ts : List Td} {f : Gr} {out bound : List Bs} (hp : ∀ x, f x ≠ none ↔ x ∈ nms ts) (hl : ∀ a b, ju f a b ↔ b ∈ nms ts ∧ ∃ ds, (a, ds) ∈ ts ∧ b ∈ ds) (h : aru f out bound) : Ring ts ↔ 0 < bound.length := by
 constructor
 ·rintro ⟨S, ⟨k, hk⟩, hS⟩
  apply Classical.byContradiction
  intro hb
  have hb0 : bound = [] := List.eq_nil_of_length_eq_zero (by omega)
  subst hb0
  have key : ∀ (i : Nat) (k : Bs), out[i]? = some k → ¬ S k := by
   intro i
   induction i using Nat.strongRecOn with
   | ind i ih =>
    intro k hi hs
    obtain ⟨_, ds, h1, d, h2, h3, h4⟩ := hS k hs
    have := (h.pre i k hi).1 d ((hl k d).2 ⟨h3, ds, h1, h2⟩)
    obtain ⟨j, hj, he⟩ := List.getElem_of_mem this
    have hji : j < i := by have := hj; simp at this; omega
    have hjo : out[j]? = some d := by
     have := List.getElem?_eq_getElem hj
     rw [he, List.getElem?_take, if_pos hji] at this
     exact this
    exact ih j hji d hjo h4
  have hko : k ∈ out := by
   rcases (h.all k).1 ((hp k).2 (hS k hk).1) with h | h
   ·exact h
   ·cases h
  obtain ⟨i, hi, he⟩ := List.getElem_of_mem hko
  exact key i k (by rw [List.getElem?_eq_getElem hi, he]) hk
 ·intro hb
  refine ⟨fun x => x ∈ bound, ⟨bound[0], List.getElem_mem _⟩, fun k hk => ⟨(hp k).1 ((h.all k).2 (.inr hk)), ?_⟩⟩
  obtain ⟨y, hy, hly⟩ := h.back k hk
  obtain ⟨h1, ds, h2, h3⟩ := (hl k y).1 hly
  exact ⟨ds, h2, y, h3, h1, hy⟩
open Classical in
def og (ts : List Td) : Bool := decide (Ring ts)
theorem akt {ts : List Td} {i : Nat} {k : Bs} {ds : List Bs} (h : ts[i]? = some (k, ds)) : (nms ts)[i]? = some k := by
 unfold nms; rw [List.getElem?_map, h]; rfl
theorem a3r {w : World} {v : Value} {ts : List Td} (hv : RT w v ts) (hN : ts.length ≤ 16384) (hD : ∀ t ∈ ts, t.2.length ≤ 16384) (hsm : ∀ x ∈ nms ts, x.length ≤ maxLen)
  (hFind : ∀ W, Below w.heap.size w W → ∀ s : Bs, Calls Tryz.prog 34 #[v, .string ⟨s.toArray⟩] W fun e w' => ∃ i : Int, e = .returned (.int .i64 i) ∧ (0 ≤ i ↔ s ∈ nms ts) ∧ Below W.heap.size W w') :
  Calls Tryz.prog 78 #[v] w fun e w' => e = .returned (.bool (og ts)) ∧ Below w.heap.size w w' := by
 have C1 := Lib.hid (ax4 (w := w) (B := 0) (v := .slice none 0 0) (l := []) ⟨rfl, .inl ⟨rfl, rfl⟩⟩ (fun x hx => by cases hx) (by simp))
 replace hFind := Lib.hid hFind
 obtain ⟨A, cap, rfl, hA⟩ := id hv
 replace hv := Lib.hid hv
 replace hA := Lib.hid hA
 replace hsm := Lib.hid hsm
 replace hD := Lib.hid hD
 go_enter Tryz.func78, Tryz.ntmps78
 go_wp2_with fail
 refine C1.out.mono ?_
 rintro e w1 ⟨bg, bm, rfl, hI1, hB1⟩
 replace hI1 := Lib.hid hI1
 replace hB1 := Lib.hid hB1
 clear C1
 go_wp2_with fail
 go_loopg [15] ts.length (fun gk v15 W => ∃ i : Nat, i + gk = ts.length ∧ v15 = .int .i64 i ∧ Ax (IsG W w.heap.size bg bm i (xw ((nms ts).take i)) ∧ Below w.heap.size w W))
 case atStart => exact ⟨0, by omega, rfl, ⟨hI1.out, hB1.out⟩⟩
 case round =>
  clear hI1 hB1
  obtain ⟨i, hig, rfl, HM⟩ := hrel
  by_cases hi : i < ts.length
  ·obtain ⟨g1, rfl⟩ : ∃ j, gk = j + 1 := ⟨gk - 1, by omega⟩
   obtain ⟨⟨k, ds⟩, hk⟩ : ∃ x, ts[i]? = some x := ⟨ts[i], List.getElem?_eq_getElem hi⟩
   obtain ⟨g, o, A1, n1, cap1, A2, cap2, rfl, h1, h2, h3, _⟩ := hA.out i k ds hk
   have q1 := cg HM.out.2 h1
   have q2 := cg HM.out.2 h2
   have q3 := cg HM.out.2 h3
   clear h1 h2 h3
   have hBa : Below wr.heap.size wr (wr.alloc (Obj.cells #[.string ⟨k.toArray⟩, .slice A1 n1 cap1, .slice A2 ds.length cap2] 70)) := (Below.refl _ wr).alloc (Nat.le_refl _) _
   have C2 := Lib.hid (aoi (HM.out.1.below hBa) k (hsm.out k (List.mem_of_getElem? (akt hk))) (by unfold maxLen; omega))
   have hBw := Lib.hid (gl HM.out.2 (Nat.le_refl _) hBa)
   replace hBa := Lib.hid hBa
   go_wp2_with fail
   refine C2.out.mono ?_
   rintro e w2 ⟨rfl, h2⟩
   have hnx := Lib.hid (show Ax (IsG w2 w.heap.size bg bm (i + 1) (xw ((nms ts).take (i + 1))) ∧ Below w.heap.size w w2) from
    ⟨by rw [ap8 (akt hk)]; exact h2.out.1, ui hBw.out (Nat.le_refl _) h2.out.2 h2.out.1.hBm⟩)
   clear C2 h2 q1 q2 q3 HM
   go_wp2_with fail
   go_roundg g1
   case measure => omega
   case rel => exact ⟨i + 1, by omega, by go_num, hnx.out⟩
  ·obtain rfl : gk = 0 := by omega
   obtain rfl : i = ts.length := by omega
   have hR0 : Rn ts w.heap.size bg bm ts.length 0 [] [] wr := ⟨_, HM.out.1, a3m _, fun x => by rw [a3l, List.take_of_length_le (by simp [nms])], fun a b => by simp [auj]⟩
   have hBr := HM.out.2
   replace hR0 := Lib.hid hR0
   replace hBr := Lib.hid hBr
   clear HM
   generalize wr = wA at *
   go_wp2_with fail
   go_loopg [26] ts.length (fun gk v26 W => ∃ i : Nat, i + gk = ts.length ∧ v26 = .int .i64 i ∧ Ax (Rn ts w.heap.size bg bm (ts.length + 3 * (16384 * i)) i [] [] W ∧ Below w.heap.size w W))
   case atStart => exact ⟨0, by omega, rfl, ⟨hR0.out, hBr.out⟩⟩
   case round =>
    clear hR0 hBr
    obtain ⟨i, hig, rfl, HM⟩ := hrel
    by_cases hi : i < ts.length
    ·obtain ⟨g1, rfl⟩ : ∃ j, gk = j + 1 := ⟨gk - 1, by omega⟩
     obtain ⟨⟨k, ds⟩, hk⟩ : ∃ x, ts[i]? = some x := ⟨ts[i], List.getElem?_eq_getElem hi⟩
     obtain ⟨g, o, A1, n1, cap1, A2, cap2, rfl, h1, h2, h3, h4⟩ := hA.out i k ds hk
     have q1 := cg HM.out.2 h1
     have q2 := cg HM.out.2 h2
     have q3 := cg HM.out.2 h3
     have hds : ds.length ≤ 16384 := hD.out (k, ds) (List.mem_of_getElem? hk)
     have hkn := List.mem_of_getElem? (akt hk)
     have hBa : Below wr.heap.size wr (wr.alloc (Obj.cells #[.string ⟨k.toArray⟩, .slice A1 n1 cap1, .slice A2 ds.length cap2] 70)) := (Below.refl _ wr).alloc (Nat.le_refl _) _
     have hR1 := (HM.out.1.below hBa).enter (k' := k)
     have hB1 := gl HM.out.2 (Nat.le_refl _) hBa
     have hblk : (wr.alloc (Obj.cells #[.string ⟨k.toArray⟩, .slice A1 n1 cap1, .slice A2 ds.length cap2] 70)).heap[wr.heap.size]? = some (Obj.cells #[.string ⟨k.toArray⟩, .slice A1 n1 cap1, .slice A2 ds.length cap2] 70 (0, 0)) := heap_alloc_new wr _
     have hbx : w.heap.size ≤ wr.heap.size := HM.out.2.size
     replace h4 := Lib.hid h4
     clear hBa
     replace hR1 := Lib.hid hR1
     replace hB1 := Lib.hid hB1
     replace hblk := Lib.hid hblk
     clear h1 h2 h3 HM
     go_wp2_with fail
     clear q1 q2 q3
     generalize (wr.alloc (Obj.cells #[.string ⟨k.toArray⟩, .slice A1 n1 cap1, .slice A2 ds.length cap2] 70)) = wb at *
     obtain ⟨bx, hbxe⟩ : ∃ bx, wr.heap.size = bx := ⟨_, rfl⟩
     rw [hbxe] at hblk hbx ⊢
     clear hbxe
     go_loopg [33] ds.length (fun gk v33 W => ∃ j : Nat, j + gk = ds.length ∧ v33 = .int .i64 j ∧ Ax (Rn ts w.heap.size bg bm (ts.length + 3 * (16384 * i) + 3 * j) i k (ds.take j) W ∧ Below w.heap.size w W ∧ W.heap[bx]? = some (Obj.cells #[.string ⟨k.toArray⟩, .slice A1 n1 cap1, .slice A2 ds.length cap2] 70 (0, 0))))
     case atStart => exact ⟨0, by omega, rfl, ⟨by simpa using hR1.out, hB1.out, hblk.out⟩⟩
     case round =>
      clear hR1 hB1 hblk
      obtain ⟨j, hjg, rfl, HJ⟩ := hrel
      by_cases hj : j < ds.length
      ·obtain ⟨g2, rfl⟩ : ∃ j, gk = j + 1 := ⟨gk - 1, by omega⟩
       obtain ⟨s, hs⟩ : ∃ x, ds[j]? = some x := ⟨ds[j], List.getElem?_eq_getElem hj⟩
       obtain ⟨g3, o3, rfl, h5⟩ := h4.out j s hs
       obtain ⟨hR, hB, hbk⟩ := HJ.out
       have q1 := cg hB h5
       have CF := Lib.hid (hFind.out _ hB s)
       replace hR := Lib.hid hR
       replace hB := Lib.hid hB
       replace hbk := Lib.hid hbk
       clear h5 HJ
       go_wp2_with fail
       refine CF.out.mono ?_
       rintro e w4 ⟨idx, rfl, hidx, hB4⟩
       have hR4 := hR.out.below hB4
       have hBw4 := gl hB.out (Nat.le_refl _) hB4
       have hbk4 := (hB4.block _ (fj hbk.out)).trans hbk.out
       have q2 : w4.cell? ⟨bx, 0, none⟩ = some (.string ⟨k.toArray⟩) := by rw [Abs.cell_of hbk4]; rfl
       by_cases h0 : 0 ≤ idx
       ·have hsn := hidx.1 h0
        have CL := Lib.hid (hR4.link (N := 16384) hs hsn hkn hsm.out hN (Nat.le_refl _) (Nat.le_trans hbx (Nat.le_of_lt (fj hbk4))) (by omega))
        replace hBw4 := Lib.hid hBw4
        replace hbk4 := Lib.hid hbk4
        have CLB := Lib.hid hB4
        clear CF hidx hB4 hR4
        go_wp2_with fail
        refine CL.out.mono ?_
        rintro e w5 ⟨rfl, h5⟩
        obtain ⟨es, c, hm⟩ : ∃ es c, w4.heap[bm]? = some (.map es c) := by obtain ⟨f, h1, _⟩ := hR.out.ex; obtain ⟨F, h2, _⟩ := h1.map; exact (h2.aao ((CLB.out.block _ h2.lt))).blk
        have hnx := Lib.hid (show Ax (Rn ts w.heap.size bg bm (ts.length + 3 * (16384 * i) + 3 * (j + 1)) i k (ds.take (j + 1)) w5 ∧ Below w.heap.size w w5 ∧ w5.heap[bx]? = some (Obj.cells #[.string ⟨k.toArray⟩, .slice A1 n1 cap1, .slice (some ⟨g3, o3, none⟩) ds.length cap2] 70 (0, 0))) from
         ⟨h5.out.1.mono (by omega), ui hBw4.out (Nat.le_refl _) h5.out.2 (by obtain ⟨f, h1, _⟩ := hR.out.ex; exact h1.hBm), (h5.out.2.block bx (fj hbk4.out) (fun e => by cases e; have := hbk4.out; rw [hm] at this; cases this)).trans hbk4.out⟩)
        clear CL h5 hm hBw4 hbk4 CLB
        go_wp2_with fail
        go_roundg g2
        case measure => omega
        case rel => exact ⟨j + 1, by omega, by go_num, hnx.out⟩
       ·have hsn := fun h => h0 (hidx.2 h)
        have h0' : idx < 0 := by omega
        have hnx := Lib.hid (show Ax (Rn ts w.heap.size bg bm (ts.length + 3 * (16384 * i) + 3 * (j + 1)) i k (ds.take (j + 1)) w4 ∧ Below w.heap.size w w4 ∧ w4.heap[bx]? = some (Obj.cells #[.string ⟨k.toArray⟩, .slice A1 n1 cap1, .slice (some ⟨g3, o3, none⟩) ds.length cap2] 70 (0, 0))) from
         ⟨(hR4.skip hs hsn).mono (by omega), hBw4, hbk4⟩)
        clear CF hidx hB4 hR4 hBw4 hbk4
        go_wp2_with fail
        go_roundg g2
        case measure => omega
        case rel => exact ⟨j + 1, by omega, by go_num, hnx.out⟩
      ·obtain rfl : gk = 0 := by omega
       obtain rfl : j = ds.length := by omega
       have hnx := Lib.hid (show Ax (Rn ts w.heap.size bg bm (ts.length + 3 * (16384 * (i + 1))) (i + 1) [] [] wr ∧ Below w.heap.size w wr) from
        ⟨((Rn.leave hk (by have := HJ.out.1; rw [List.take_length] at this; exact this)).mono (by omega)).enter, HJ.out.2.1⟩)
       clear HJ
       go_wp2_with fail
       go_roundg g1
       case measure => omega
       case rel => exact ⟨i + 1, by omega, by go_num, hnx.out⟩
    ·obtain rfl : gk = 0 := by omega
     obtain rfl : i = ts.length := by omega
     obtain ⟨f, h1, h2, h3, h4⟩ := HM.out.1.ex
     have hB := HM.out.2
     have hF : Few f 16384 := ⟨nms ts, fun x hx => (h3 x).1 hx, by simpa [nms] using hN, hsm.out⟩
     have CO := Lib.hid (a3q h1 h2 hF (Nat.le_refl _) (by omega))
     have hl : ∀ a b, ju f a b ↔ b ∈ nms ts ∧ ∃ ds, (a, ds) ∈ ts ∧ b ∈ ds := fun a b => by rw [h4]; simp
     replace h3 := Lib.hid h3
     replace hl := Lib.hid hl
     replace hB := Lib.hid hB
     clear HM h1 h2 h4 hF
     go_wp2_with fail
     refine CO.out.mono ?_
     rintro e w5 ⟨vl, vb, out, bound, rfl, hO, hr1, hr2, hB5⟩
     have hrb := bcb h3.out hl.out hO
     have hbb := gl hB.out (Nat.le_refl _) hB5
     obtain ⟨Ab, capb, rfl, _⟩ := pz hr2
     have hrB : og ts = decide (0 < bound.length) := by
      unfold og
      exact decide_eq_decide.2 hrb
     replace hrB := Lib.hid hrB
     replace hbb := Lib.hid hbb
     clear hO hr1 hr2 hB5 hrb CO
     go_wp2_with fail
     go_ret
     exact ⟨by rw [hrB.out]; simp, hbb.out⟩
end Go.Proofs.YtmdimhcjogjcgaaGreatDoor.Gr
namespace Go.Proofs.YtmdimhcjogjcgaaGreatDoor.Lat
open Go.Proofs.YtmdimhcjogjcgaaGreatDoor.Abs Go.Proofs.YtmdimhcjogjcgaaGreatDoor.Gr
structure adh (t : Th) : Prop where
 v : szV t.v ≤ 1073741824
 d : t.d.length ≤ 1000
 n : t.n.length ≤ 1000
theorem aqe (ts : List Th) (i : Nat) (t : Th) (ht : ts[i]? = some t) (hd : t.d.length ≤ 20) (r : Option AV) (hr : fm.l0 (.sl 3 (cy ts)) (.int .i64 ((i + 1 : Nat) : Int)) = r) (hi : i ≤ 1000) : ∀ (d j : Nat), j + d = t.d.length → fm.l1 (.sl 3 (cy ts)) (.int .i64 (i : Int)) (.int .i64 (j : Int)) = some (.bool false) ∨ fm.l1 (.sl 3 (cy ts)) (.int .i64 (i : Int)) (.int .i64 (j : Int)) = r
 | 0, j, h => by
  right
  rw [fm.en, an (fy ht), th2, qn, br, decide_eq_false (by omega), ifF, aj (by omega), hr]
 | d + 1, j, h => by
  have h1 : j < t.d.length := by omega
  have ih := aqe ts i t ht hd r hr hi d (j + 1) (by omega)
  rw [fm.en, an (fy ht), th2, qn, br, decide_eq_true (by omega), ifT, an (fy ht), th2, qn, an (gn (List.getElem?_eq_getElem h1)), pw]
  simp only [cf]
  by_cases hc : (100 : Int) < (t.d[j].length : Int)
  ·rw [decide_eq_true hc, ifT]; exact .inl rfl
  ·rw [decide_eq_false hc, ifF, aj (by omega)]; exact ih
theorem aqf (ts : List Th) (hl : ts.length ≤ 12) : ∀ (d i : Nat), i + d = ts.length → ∃ b : Bool, fm.l0 (.sl 3 (cy ts)) (.int .i64 (i : Int)) = some (.bool b) ∧ (b = true → ∀ t ∈ ts.drop i, szV t.v ≤ 1073741824 ∧ t.d.length ≤ 20 ∧ t.n.length ≤ 100)
 | 0, i, h => ⟨true, by rw [fm.ai, jm, decide_eq_false (by omega), ifF], fun _ => by rw [bc (by omega)]; simp⟩
 | d + 1, i, h => by
  have h1 : i < ts.length := by omega
  have e1 : ts[i]? = some ts[i] := List.getElem?_eq_getElem h1
  obtain ⟨b, hb, hq⟩ := aqf ts hl d (i + 1) (by omega)
  obtain ⟨b2, hb2, hz⟩ := bfx ts[i].v
  rw [fm.ai, jm, decide_eq_true (by omega), ifT, an (fy e1), th0]
  simp only [cf, an (fy e1), th1, th2, qn, br, hb2, ab, bq, orK]
  by_cases hn : (100 : Int) < (ts[i].n.length : Int)
  ·rw [decide_eq_true hn]
   exact ⟨false, by simp [ifT, ab], fun c => by cases c⟩
  ·rw [decide_eq_false hn, Bool.false_or]
   by_cases hd : (20 : Int) < (ts[i].d.length : Int)
   ·rw [decide_eq_true hd]
    exact ⟨false, by simp [ifT, ab], fun c => by cases c⟩
   ·rw [decide_eq_false hd, Bool.false_or]
    cases b2 with
    | false => exact ⟨false, rfl, fun c => by cases c⟩
    | true =>
     rw [Bool.not_true, ifF]
     have := aqe ts i ts[i] e1 (by omega) _ hb (by omega) ts[i].d.length 0 (by omega)
     rw [e00] at this
     rcases this with h0 | h0
     ·exact ⟨false, h0, fun c => by cases c⟩
     ·refine ⟨b, h0, fun hbt t ht => ?_⟩
      rw [au h1] at ht
      rcases List.mem_cons.1 ht with rfl | ht
      ·exact ⟨hz rfl, by omega, by omega⟩
      ·exact hq hbt t ht
theorem bcc (ts : List Th) : ∃ b : Bool, fm (.sl 3 (cy ts)) = some (.bool b) ∧ (b = true → ts.length ≤ 12 ∧ ∀ t ∈ ts, adh t) := by
 rw [fm.ae, jm]
 by_cases h : (12 : Int) < (ts.length : Int)
 ·rw [decide_eq_true h, ifT]; exact ⟨false, rfl, fun c => by cases c⟩
 ·rw [decide_eq_false h, ifF]
  obtain ⟨b, hb, hq⟩ := aqf ts (by omega) ts.length 0 (by omega)
  rw [e00] at hb
  exact ⟨b, hb, fun hbt => ⟨by omega, fun t ht => by
   have := hq hbt t (by rw [List.drop_zero]; exact ht)
   exact ⟨this.1, by omega, by omega⟩⟩⟩
def gg (ts : List Th) : List Bs := ts.map (·.n)
def tds (ts : List Th) : List Td := ts.map fun t => (t.n, t.d)
theorem aca (ts : List Th) : nms (tds ts) = gg ts := by simp [nms, tds, gg]
theorem a8h (ts : List Th) (hl : ts.length ≤ 1073741824) (s : Bs) : kh (.sl 3 (cy ts)) (.str s) = some (.int .i64 (ixB (gg ts) s 0)) := azc ts hl s
theorem ahz (ts : List Th) (hl : ts.length ≤ 1000) : ∀ (d i : Nat), i + d = ts.length → jh.l0 (.sl 3 (cy ts)) (.own 1 (ar (gg (ts.take i)))) (.int .i64 (i : Int)) = some (.own 1 (ar (gg ts)))
 | 0, i, h => by rw [jh.ai, jm, decide_eq_false (by omega), ifF, List.take_of_length_le (by omega)]
 | d + 1, i, h => by
  have h1 : i < ts.length := by omega
  have e1 : ts[i]? = some ts[i] := List.getElem?_eq_getElem h1
  have ih := ahz ts hl d (i + 1) (by omega)
  have et : gg (ts.take (i + 1)) = gg (ts.take i) ++ [ts[i].n] := by rw [List.take_add_one, e1, gg, List.map_append]; rfl
  rw [jh.ai, jm, decide_eq_true (by omega), ifT, an (fy e1), th0]
  simp only [cf]
  rw [gOK (by rw [br]; simp [gg]; omega), guT, oa, aj (by omega), ← et, ih]
theorem azu (ts : List Th) (hl : ts.length ≤ 1000) : jh (.sl 3 (cy ts)) = some (.own 1 (ar (gg ts))) := by
 rw [jh.ae]
 exact ahz ts hl ts.length 0 (by omega)
def ku (N : List Bs) (ts : List Th) : List (Bs × Bs) := ts.flatMap fun t => (t.d.filter fun s => decide (s ∈ N)).map fun s => (t.n, s)
theorem a8i (E : List (Bs × Bs)) (a b : Bs) : bh E ++ [[AV.str a, .str b]] = bh (E ++ [(a, b)]) := by simp [bh]
theorem ae0 (ts : List Th) (hl : ts.length ≤ 1000) (i : Nat) (t : Th) (ht : ts[i]? = some t) (hd : t.d.length ≤ 1000) : ∀ (d j : Nat) (E : List (Bs × Bs)), j + d = t.d.length → E.length ≤ 1000 * i + j →
  ee.l1 (.sl 3 (cy ts)) (.own 2 (bh E)) (.int .i64 (i : Int)) (.int .i64 (j : Int)) = ee.l0 (.sl 3 (cy ts)) (.own 2 (bh (E ++ ((t.d.drop j).filter fun s => decide (s ∈ gg ts)).map fun s => (t.n, s)))) (.int .i64 ((i + 1 : Nat) : Int))
 | 0, j, E, h, hE => by
  have hi := (List.getElem?_eq_some_iff.1 ht).1
  rw [ee.en, an (fy ht), th2, qn, br, decide_eq_false (by omega), ifF, bc (by omega), aj (by omega)]
  simp
 | d + 1, j, E, h, hE => by
  have hi := (List.getElem?_eq_some_iff.1 ht).1
  have h1 : j < t.d.length := by omega
  have e1 : t.d[j]? = some t.d[j] := List.getElem?_eq_getElem h1
  rw [ee.en, an (fy ht), th2, qn, br, decide_eq_true (by omega), ifT, an (fy ht), th2, qn, an (gn e1), pw]
  simp only [cf, a8h ts (by omega), ab, bf]
  rw [au h1]
  by_cases hm : t.d[j] ∈ gg ts
  ·have := ae0 ts hl i t ht hd d (j + 1) (E ++ [(t.n, t.d[j])]) (by omega) (by simp; omega)
   rw [decide_eq_true ((afg _ _ _).2 hm), ifT, an (fy ht), th0]
   simp only [cf]
   rw [an (fy ht), th2, qn, an (gn e1), pw]
   simp only [cf]
   rw [gOK (by rw [ac8]; simp only [List.length_cons, List.length_nil]; omega), guT, a8i, aj (by omega), this, List.filter_cons_of_pos (by simpa using hm)]
   simp
  ·have := ae0 ts hl i t ht hd d (j + 1) E (by omega) (by omega)
   rw [decide_eq_false (fun c => hm ((afg _ _ _).1 c)), ifF, aj (by omega), this, List.filter_cons_of_neg (by simpa using hm)]
theorem ae1 (N : List Bs) : ∀ ts : List Th, (∀ t ∈ ts, t.d.length ≤ 1000) → (ku N ts).length ≤ 1000 * ts.length
 | [], _ => by simp [ku]
 | t :: ts, h => by
  have ih := ae1 N ts fun u hu => h u (List.mem_cons_of_mem _ hu)
  have ht := h t (List.mem_cons_self ..)
  have hf : (t.d.filter fun s => decide (s ∈ N)).length ≤ t.d.length := List.length_filter_le _ _
  have e : ku N (t :: ts) = ((t.d.filter fun s => decide (s ∈ N)).map fun s => (t.n, s)) ++ ku N ts := by simp [ku]
  rw [e, List.length_append, List.length_map, List.length_cons]
  omega
theorem ajz (ts : List Th) (hl : ts.length ≤ 1000) (hd : ∀ t ∈ ts, t.d.length ≤ 1000) : ∀ (d i : Nat), i + d = ts.length → ee.l0 (.sl 3 (cy ts)) (.own 2 (bh (ku (gg ts) (ts.take i)))) (.int .i64 (i : Int)) = some (.own 2 (bh (ku (gg ts) ts)))
 | 0, i, h => by rw [ee.ai, jm, decide_eq_false (by omega), ifF, List.take_of_length_le (by omega)]
 | d + 1, i, h => by
  have h1 : i < ts.length := by omega
  have e1 : ts[i]? = some ts[i] := List.getElem?_eq_getElem h1
  have ih := ajz ts hl hd d (i + 1) (by omega)
  have hE := ae1 (gg ts) (ts.take i) fun t ht => hd t (List.mem_of_mem_take ht)
  have et : ku (gg ts) (ts.take (i + 1)) = ku (gg ts) (ts.take i) ++ ((ts[i].d.drop 0).filter fun s => decide (s ∈ gg ts)).map fun s => (ts[i].n, s) := by
   rw [List.take_add_one, e1, ku, List.flatMap_append]; simp [ku]
  have := ae0 ts hl i ts[i] e1 (hd _ (List.getElem_mem h1)) ts[i].d.length 0 (ku (gg ts) (ts.take i)) (by omega) (by simp at hE; omega)
  rw [e00] at this
  rw [ee.ai, jm, decide_eq_true (by omega), ifT, this, ← et, ih]
theorem azv (ts : List Th) (hl : ts.length ≤ 1000) (hd : ∀ t ∈ ts, t.d.length ≤ 1000) : ee (.sl 3 (cy ts)) = some (.own 2 (bh (ku (gg ts) ts))) := by
 rw [ee.ae]
 exact ajz ts hl hd ts.length 0 (by omega)
theorem aqg {N : List Bs} {ts : List Th} {a b : Bs} : (a, b) ∈ ku N ts ↔ b ∈ N ∧ ∃ ds, (a, ds) ∈ tds ts ∧ b ∈ ds := by
 unfold ku tds
 simp only [List.mem_flatMap, List.mem_map, List.mem_filter, decide_eq_true_eq, Prod.mk.injEq]
 constructor
 ·rintro ⟨t, ht, s, ⟨hs, hN⟩, rfl, rfl⟩
  exact ⟨hN, t.d, ⟨t, ht, rfl, rfl⟩, hs⟩
 ·rintro ⟨hN, ds, ⟨t, ht, rfl, rfl⟩, hb⟩
  exact ⟨t, ht, b, ⟨hb, hN⟩, rfl, rfl⟩
theorem a8j {ts : List Th} {O : List Bs} (h : aja (gg ts) (ku (gg ts) ts) O) (hs : amo (gg ts) (ku (gg ts) ts) O) : Ring (tds ts) ↔ ((gg ts).filter fun x => decide (x ∉ O)).length ≠ 0 := by
 constructor
 ·rintro ⟨S, ⟨k, hk⟩, hS⟩ h0
  have hall : ∀ x ∈ gg ts, x ∈ O := fun x hx => Classical.byContradiction fun hxo => by
   have : x ∈ (gg ts).filter fun x => decide (x ∉ O) := List.mem_filter.2 ⟨hx, by simpa using hxo⟩
   rw [List.eq_nil_of_length_eq_zero h0] at this
   cases this
  have key : ∀ (i : Nat) (k : Bs), O[i]? = some k → ¬ S k := by
   intro i
   induction i using Nat.strongRecOn with
   | ind i ih =>
    intro k hi hs'
    obtain ⟨_, ds, h1, d, h2, h3, h4⟩ := hS k hs'
    rw [aca] at h3
    have := h.pre i k hi d (aqg.2 ⟨h3, ds, h1, h2⟩)
    obtain ⟨j, hj, he⟩ := List.getElem_of_mem this
    have hji : j < i := by have := hj; simp at this; omega
    have hjo : O[j]? = some d := by
     have := List.getElem?_eq_getElem hj
     rw [he, List.getElem?_take, if_pos hji] at this
     exact this
    exact ih j hji d hjo h4
  have hkn := (hS k hk).1
  rw [aca] at hkn
  obtain ⟨i, hi, he⟩ := List.getElem_of_mem (hall k hkn)
  exact key i k (by rw [List.getElem?_eq_getElem hi, he]) hk
 ·intro h0
  have : ∃ x, x ∈ (gg ts).filter fun x => decide (x ∉ O) := by
   cases hf : (gg ts).filter fun x => decide (x ∉ O) with
   | nil => rw [hf] at h0; exact absurd rfl h0
   | cons x r => exact ⟨x, List.mem_cons_self ..⟩
  obtain ⟨x, hx⟩ := this
  have hx' := List.mem_filter.1 hx
  refine ⟨fun p => p ∈ gg ts ∧ p ∉ O, ⟨x, hx'.1, by simpa using hx'.2⟩, fun k hk => ⟨by rw [aca]; exact hk.1, ?_⟩⟩
  obtain ⟨y, hy, hyo⟩ := hs k hk.1 hk.2
  obtain ⟨h1, ds, h2, h3⟩ := aqg.1 hy
  exact ⟨ds, h2, y, h3, by rw [aca]; exact h1, h1, hyo⟩
open Classical in
theorem amq {ts : List Td} : og ts = true ↔ Ring ts := by unfold og; exact decide_eq_true_iff
def aku (v : List Tm) : Bool := okV Rn v && (match v with | [t] => decide (t.k = 4) | _ => false)
theorem a8k (v : List Tm) (hv : szV v ≤ 1073741824) : ∃ (k e : Int) (c : List AV), aax (.agg 1 [.sl 8 (al v)]) = some (.tup [.agg 8 (.int .i64 k :: c), .int .i64 e]) ∧ (!(!decide (e = 0) || !decide (k = 4))) = aku v := by
 rw [aax.ae, aed v hv]
 simp only [ab, bq]
 unfold aku
 cases hok : okV Rn v with
 | false => exact ⟨0, 1, _, rfl, rfl⟩
 | true =>
  rw [Bool.not_true, ifF, Bool.true_and]
  simp only [v0, ic, ct]
  match v with
  | [] => exact ⟨0, 31, _, rfl, rfl⟩
  | t :: u :: r =>
   rw [decide_eq_false (by simp <;> omega), ifF, decide_eq_true (by simp <;> omega)]
   exact ⟨0, 28, _, rfl, rfl⟩
  | [t] =>
   have e1 : decide ((([t] : List Tm).length : Int) = 0) = false := by simp
   have e2 : decide ((1 : Int) < (([t] : List Tm).length : Int)) = false := by simp
   rw [e1, ifF, e2, ifF]
   simp only [ai5, g0, bf, ab]
   by_cases h5 : t.k = 5
   ·rw [decide_eq_true h5, ifT]
    refine ⟨0, 28, _, rfl, ?_⟩
    simp [h5]
   ·rw [decide_eq_false h5, ifF]
    obtain ⟨k, lo, hi, s, a, m, o, fs⟩ := t
    refine ⟨k, 0, _, rfl, ?_⟩
    show (!(!true || !decide (k = 4))) = decide (k = 4)
    cases decide (k = 4) <;> rfl
def gR (t : Th) : Bool := aku t.v && (okV Rn t.v && seL false t.v) && ri t.d && !decide (t.n ∈ t.d)
theorem ah0 (ts : List Th) (hl : ts.length ≤ 256) (hs : ∀ t ∈ ts, adh t) : ∀ (d i : Nat), i + d = ts.length → jg.l0 (.sl 3 (cy ts)) (.int .i64 (i : Int)) = some (.bool ((ts.drop i).all gR && ri (gg ts) && !og (tds ts)))
 | 0, i, h => by
  have hr := an8 (gg ts) (by simp [gg]; omega)
  rw [jg.ai, jm, decide_eq_false (by omega), ifF, decide_eq_false (by omega), ifF, azu ts (by omega)]
  simp only [ab, azp, hr, bq]
  rw [bc (by omega), List.all_nil, Bool.true_and]
  cases ri (gg ts) with
  | false => rfl
  | true =>
   rw [Bool.not_true, ifF, azv ts (by omega) (fun t ht => (hs t ht).d)]
   have hE := ae1 (gg ts) ts (fun t ht => (hs t ht).d)
   obtain ⟨O, h1, h2, h3⟩ := azq (gg ts) (ku (gg ts) ts) (by simp [gg]; omega) (by omega)
   simp only [ab]
   rw [show ∀ (k : List (List AV) → Option AV), asL 2 (.own 2 (bh (ku (gg ts) ts))) k = k (bh (ku (gg ts) ts)) from fun k => rfl, h3]
   simp only [ab, agd, azp, br, Bool.true_and]
   congr 2
   have hro := a8j h1 h2
   rw [← amq] at hro
   cases hR : og (tds ts) with
   | true =>
    have := hro.1 hR
    rw [Bool.not_true]
    exact decide_eq_false (by omega)
   | false =>
    rw [Bool.not_false]
    refine decide_eq_true ?_
    exact Classical.byContradiction fun hc => Bool.false_ne_true (hR.symm.trans (hro.2 fun h0 => hc (by omega)))
 | d + 1, i, h => by
  have h1 : i < ts.length := by omega
  have e1 : ts[i]? = some ts[i] := List.getElem?_eq_getElem h1
  have hS := hs _ (List.getElem_mem h1)
  have ih := ah0 ts hl hs d (i + 1) (by omega)
  obtain ⟨k, e, c, hO, hk⟩ := a8k ts[i].v hS.v
  have hset := atq ts[i].v hS.v
  have hris := an8 ts[i].d (by have := hS.d; omega)
  have hhas := afh ts[i].d (by have := hS.d; omega) ts[i].n
  rw [jg.ai, jm, decide_eq_true (by omega), ifT, an (fy e1), th1]
  simp only [frz, hO, ab, agd]
  rw [show ∀ (q : List AV → Option AV), asC 8 (.agg 8 (.int .i64 k :: c)) q = q (.int .i64 k :: c) from fun q => rfl]
  simp only [bf, mg, th0, th1, th2, frz, hset, ab, bq, qn, hris, cf, hhas, orK]
  rw [au h1, List.all_cons]
  have hg : gR ts[i] = (aku ts[i].v && (okV Rn ts[i].v && seL false ts[i].v) && ri ts[i].d && !decide (ts[i].n ∈ ts[i].d)) := rfl
  rw [hg, ← hk]
  cases (!decide (e = 0) || !decide (k = 4)) with
  | true => simp [ifT, ab]
  | false =>
   cases hq : (okV Rn ts[i].v && seL false ts[i].v) with
   | false => simp [ifT, ifF, orK, ab]
   | true =>
    cases ri ts[i].d with
    | false => simp [ifT, ifF, orK, ab]
    | true =>
     cases decide (ts[i].n ∈ ts[i].d) with
     | true => simp [ifT, ifF, orK, ab]
     | false =>
      have : (ifB false (some (AV.bool false)) (jg.l0 (.sl 3 (cy ts)) (.int .i64 (w64 ((i : Int) + 1))))) = some (.bool ((ts.drop (i + 1)).all gR && ri (gg ts) && !og (tds ts))) := by
       rw [ifF, aj (by omega), ih]
      simpa [ifT, ifF, orK, ab] using this
theorem azw (ts : List Th) (hl : ts.length ≤ 256) (hs : ∀ t ∈ ts, adh t) : jg (.sl 3 (cy ts)) = some (.bool (ts.all gR && ri (gg ts) && !og (tds ts))) := by
 have := ah0 ts hl hs ts.length 0 (by omega)
 rw [e00, List.drop_zero] at this
 rw [jg.ae, this]
end Go.Proofs.YtmdimhcjogjcgaaGreatDoor.Lat
namespace Go.Proofs.YtmdimhcjogjcgaaGreatDoor.Lat
structure Ac where
 k : Int
 t : Th
end Go.Proofs.YtmdimhcjogjcgaaGreatDoor.Lat
namespace Go.Proofs.YtmdimhcjogjcgaaGreatDoor.Xp
open Go.Proofs.YtmdimhcjogjcgaaGreatDoor.Abs Go.Proofs.YtmdimhcjogjcgaaGreatDoor.Lat Go.Proofs.YtmdimhcjogjcgaaGreatDoor.Gr
mutual
theorem bga : ∀ t : Tm, okT Rn t = true → szT t + 1 ≤ 2 * wtT t
 | .mk k lo hi s a m o fs, h => by
  have hf : fs = [] ∨ okF Rn fs = true := by
   rw [vn] at h
   split at h
   ·left
    have : yl (.mk k lo hi s a m o fs) = true := h
    unfold yl at this
    simp only [Bool.and_eq_true, List.isEmpty_iff] at this
    exact this.2
   ·split at h
    ·right; rw [Bool.and_eq_true] at h; exact h.2
    ·left
     have : kv (.mk k lo hi s a m o fs) = true := h
     have hn : ¬ (o || !fs.isEmpty || (m && single (.mk k lo hi s a m o fs))) = true := fun c => by
      unfold kv at this; dsimp only at this; rw [if_pos c] at this; cases this
     cases fs with
     | nil => rfl
     | cons x r => exact absurd (by simp) hn
  rw [wtT, show szT (.mk k lo hi s a m o fs) = 1 + szF fs from fw _]
  rcases hf with rfl | hf
  ·rw [szF]; omega
  ·have := a3s fs hf; omega
theorem a3s : ∀ fs : List Lat.Fd, okF Rn fs = true → szF fs ≤ 2 * wtF fs
 | [], _ => by rw [szF]; omega
 | .mk n v :: r, h => by
  rw [age] at h
  simp only [Bool.and_eq_true] at h
  have h1 := a3s r h.2
  have hv := h.1.2
  unfold okV at hv
  simp only [Bool.and_eq_true] at hv
  have hL : okL Rn v = true := hv.1.1.2
  have hne : v ≠ [] := fun e => by have := h.1.1; rw [show (Lat.Fd.mk n v).v = v from rfl, e] at this; cases this
  have h2 := aun v hL
  have hlen : 0 < v.length := List.length_pos_iff.2 hne
  rw [szF, wtF]; omega
theorem aun : ∀ v : List Tm, okL Rn v = true → szV v + v.length ≤ 2 * wtV v
 | [], _ => by rw [szV, wtV]; simp
 | t :: r, h => by
  rw [okL, Bool.and_eq_true] at h
  have h1 := bga t h.1
  have h2 := aun r h.2
  rw [szV, wtV, List.length_cons]; omega
end
theorem arv {v : List Tm} (h : okV Rn v = true) : szV v ≤ 1024 := by
 have hL := aal h
 have := aun v hL
 unfold okV acq at h
 simp only [Bool.and_eq_true, decide_eq_true_eq] at h
 omega
theorem a3t (v : List Tm) (hz : szV v ≤ 1073741824) : yu (.agg 1 [.sl 8 (al v)]) = some (.tup [.agg 7 (bh (exX v).1), .int .i64 (exX v).2]) := by
 have hR : ca (.agg 1 [.sl 8 (al v)]) = some (.bool (okV Rn v)) := aed v hz
 rw [yu.ae, hR, ab, bq]
 unfold exX
 cases hok : okV Rn v with
 | false => rfl
 | true =>
  have hL := aal hok
  have hs := arv hok
  obtain ⟨x, hx, hxx⟩ := axy v (by omega) (at2 v hL)
  rw [Bool.not_true, ifF, if_pos rfl, hx, ab, o6, qp, bq]
  cases hq : j9 v with
  | none => rfl
  | some y =>
   obtain rfl := hxx y hq
   have hg := ai6 v hL x hq
   have hsx := amg v x hq
   rw [Option.isSome_some, Bool.not_true, ifF, azg x (by omega) hg, ab, bf]
   show _ = some (AV.tup [AV.agg 7 (bh (if 16 < dpE x then (lf 0 0, (22 : Int)) else (x, 0)).1), AV.int .i64 (if 16 < dpE x then (lf 0 0, (22 : Int)) else (x, 0)).2])
   by_cases h : 16 < dpE x
   ·rw [if_pos h, if_pos h]; rfl
   ·rw [if_neg h, if_neg h]; rfl
theorem a3u (v : List Tm) (hz : szV v ≤ 1073741824) : s0 (.agg 1 [.sl 8 (al v)]) = some (.tup [.agg 7 (bh (exX v).1), .int .i64 (exX v).2]) := by
 cases hok : okV Rn v with
 | true => exact at3 v (by have := arv hok; omega)
 | false =>
  have hR : qj (.agg 1 [.sl 8 (al v)]) = some (.bool (okV Rn v)) := aa1 v hz
  rw [s0.ae, hR, ab, bq]
  unfold exX
  rw [hok]; rfl
theorem auo {v : List Tm} (h : (exX v).2 = 0) : GX (exX v).1 ∧ szE (exX v).1 ≤ 5000 ∧ dpE (exX v).1 ≤ 16 := by
 unfold exX at h ⊢
 by_cases hok : okV Rn v = true
 ·rw [if_pos hok] at h ⊢
  have hL := aal hok
  cases hq : j9 v with
  | none => rw [hq] at h; cases h
  | some x =>
   rw [hq] at h
   dsimp only at h ⊢
   by_cases hd : 16 < dpE x
   ·rw [if_pos hd] at h; cases h
   ·rw [if_neg hd]
    have := amg v x hq
    have := arv hok
    exact ⟨ai6 v hL x hq, by show szE x ≤ _; omega, by show dpE x ≤ _; omega⟩
 ·rw [if_neg hok] at h; cases h
def vaX (v : List Tm) : Bs × Int := if (exX v).2 = 0 then (txE (exX v).1, 0) else ([], (exX v).2)
theorem aok (v : List Tm) : (vaX v).1.length ≤ 10240000 := by
 unfold vaX
 split
 ·rename_i h
  obtain ⟨h1, h2, _⟩ := auo h
  have := aa5 _ h1
  show (txE (exX v).1).length ≤ _
  omega
 ·simp
theorem azx (v : List Tm) (hz : szV v ≤ 1073741824) : wu (.agg 1 [.sl 8 (al v)]) = some (.tup [.str (vaX v).1, .int .i64 (vaX v).2]) := by
 rw [wu.ae, a3t v hz, ab, o6, qp, bf]
 unfold vaX
 by_cases h : (exX v).2 = 0
 ·obtain ⟨h1, h2, _⟩ := auo h
  rw [if_pos h, decide_eq_true h, Bool.not_true, ifF, aof _ h1 (by omega)]; rfl
 ·rw [if_neg h, decide_eq_false h]; rfl
structure aza (t : Th) : Prop where
 n : t.n.length ≤ 16
 d : ∀ s ∈ t.d, s.length ≤ 16
 l : t.d.length ≤ 1000
 v : szV t.v ≤ 1073741824
theorem ajb : ∀ {d : List Bs}, (∀ s ∈ d, s.length ≤ 16) → Lib.lens d ≤ 16 * d.length
 | [], _ => by simp [Lib.lens]
 | x :: r, h => by
  have := ajb (d := r) fun s hs => h s (List.mem_cons_of_mem _ hs)
  have := h x (List.mem_cons_self ..)
  rw [vr, List.length_cons]; omega
def lnX {α : Type} (f : α → Bs × Int) : List α → Bs × Int
 | [] => ([], 0)
 | t :: r => if (f t).2 = 0 then (if (lnX f r).2 = 0 then ((f t).1 ++ (lnX f r).1, 0) else ([], (lnX f r).2)) else ([], (f t).2)
def xy (acc : Bs) (x : Bs × Int) : Bs × Int := if x.2 = 0 then (acc ++ x.1, 0) else ([], x.2)
theorem aqh {α : Type} (f : α → Bs × Int) (acc : Bs) (t : α) (r : List α) (h : (f t).2 = 0) : xy acc (lnX f (t :: r)) = xy (acc ++ (f t).1) (lnX f r) := by
 unfold xy
 rw [lnX, if_pos h]
 by_cases h2 : (lnX f r).2 = 0
 ·rw [if_pos h2, if_pos rfl, if_pos h2, List.append_assoc]
 ·rw [if_neg h2, if_neg h2, if_neg h2]
theorem aup {α : Type} (f : α → Bs × Int) (acc : Bs) (t : α) (r : List α) (h : ¬ (f t).2 = 0) : xy acc (lnX f (t :: r)) = ([], (f t).2) := by
 unfold xy
 rw [lnX, if_neg h, if_neg h]
theorem auq (x : Bs × Int) (h : ¬ x.2 = 0 → x.1 = []) : xy [] x = x := by
 obtain ⟨a, b⟩ := x
 unfold xy
 by_cases h2 : b = 0
 ·subst h2; rfl
 ·rw [if_neg h2]; have := h h2; dsimp only at this ⊢; rw [this]
theorem ax7 {α : Type} (f : α → Bs × Int) : ∀ l : List α, ¬ (lnX f l).2 = 0 → (lnX f l).1 = []
 | [], h => absurd rfl h
 | t :: r, h => by
  rw [lnX] at h ⊢
  split
  ·split
   ·rename_i h1 h2
    rw [if_pos h1, if_pos h2] at h; exact absurd rfl h
   ·rfl
  ·rfl
section
variable {α : Type} (a : Ac) (k : AV → Option α)
end
end Go.Proofs.YtmdimhcjogjcgaaGreatDoor.Xp
