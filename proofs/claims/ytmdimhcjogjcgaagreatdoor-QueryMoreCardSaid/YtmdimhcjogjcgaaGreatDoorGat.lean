/- state.rings. -/
import Derived.Test.YtmdimhcjogjcgaaGreatDoorGas
import Derived.Test.YtmdimhcjogjcgaaGreatDoorGar
import Derived.Test.YtmdimhcjogjcgaaGreatDoorGah
set_option linter.all false
set_option maxRecDepth 100000
set_option maxHeartbeats 16000000
noncomputable section
namespace Go.Proofs.YtmdimhcjogjcgaaGreatDoor.Gr
open Go.RowKit Go.Lib Go.Proofs.YtmdimhcjogjcgaaGreatDoor.Lat Go.Proofs.YtmdimhcjogjcgaaGreatDoor.Mp Go.Maps
abbrev Td := Bs × List Bs
def RT (w : World) (v : Value) (ts : List Td) : Prop := ∃ A cap, v = .slice A ts.length cap ∧ ∀ (i : Nat) (n : Bs) (ds : List Bs), ts[i]? = some (n, ds) → ∃ g o A1 n1 cap1 A2 cap2, A = some ⟨g, o, none⟩ ∧
 w.cell? ⟨g, o + i * 3, none⟩ = some (.string ⟨n.toArray⟩) ∧ w.cell? ⟨g, o + i * 3 + 1, none⟩ = some (.slice A1 n1 cap1) ∧ w.cell? ⟨g, o + i * 3 + 2, none⟩ = some (.slice A2 ds.length cap2) ∧
 ∀ (j : Nat) (s : Bs), ds[j]? = some s → ∃ g2 o2, A2 = some ⟨g2, o2, none⟩ ∧ w.cell? ⟨g2, o2 + j, none⟩ = some (.string ⟨s.toArray⟩)
theorem bu {w W : World} (h : Below w.heap.size w W) {a : Addr} {x : Value} (hc : w.cell? a = some x) : W.cell? a = some x := by
 rw [World.cell?_of_block (h.block a.block (World.block_lt_of_cell? w _ hc))]; exact hc
def nms (ts : List Td) : List Bs := ts.map (·.1)
def Ring (ts : List Td) : Prop := ∃ S : Bs → Prop, (∃ k, S k) ∧ ∀ k, S k → k ∈ nms ts ∧ ∃ ds, (k, ds) ∈ ts ∧ ∃ d ∈ ds, d ∈ nms ts ∧ S d
structure Rn (ts : List Td) (B bg bm n : Nat) (i : Nat) (k : Bs) (L : List Bs) (W : World) : Prop where
 ex : ∃ f, IsG W B bg bm n f ∧ ly f ∧ (∀ x, f x ≠ none ↔ x ∈ nms ts) ∧ ∀ a b, fw f a b ↔ b ∈ nms ts ∧ ((∃ ds, (a, ds) ∈ ts.take i ∧ b ∈ ds) ∨ (a = k ∧ b ∈ L))
theorem Rn.below {ts : List Td} {B bg bm n i : Nat} {k : Bs} {L : List Bs} {W W' : World} (h : Rn ts B bg bm n i k L W) (hB : Below W.heap.size W W') : Rn ts B bg bm n i k L W' := by
 obtain ⟨f, h1, h2⟩ := h.ex
 exact ⟨f, h1.below hB, h2⟩
theorem Rn.mono {ts : List Td} {B bg bm n m i : Nat} {k : Bs} {L : List Bs} {W : World} (h : Rn ts B bg bm n i k L W) (hm : n ≤ m) : Rn ts B bg bm m i k L W := by
 obtain ⟨f, h1, h2⟩ := h.ex
 exact ⟨f, h1.mono hm, h2⟩
theorem Rn.enter {ts : List Td} {B bg bm n i : Nat} {k k' : Bs} {W : World} (h : Rn ts B bg bm n i k [] W) : Rn ts B bg bm n i k' [] W := by
 obtain ⟨f, h1, h2, h3, h4⟩ := h.ex
 exact ⟨f, h1, h2, h3, fun a b => by rw [h4]; simp⟩
theorem ab4 {ts : List Td} {i : Nat} {x y : Td} (h : ts[i]? = some x) : y ∈ ts.take (i + 1) ↔ y ∈ ts.take i ∨ y = x := by
 have e : ts.take (i + 1) = ts.take i ++ [x] := by rw [List.take_add_one, h]; rfl
 rw [e, List.mem_append, List.mem_singleton]
theorem Rn.leave {ts : List Td} {B bg bm n i : Nat} {k : Bs} {ds : List Bs} {W : World} (hk : ts[i]? = some (k, ds)) (h : Rn ts B bg bm n i k ds W) : Rn ts B bg bm n (i + 1) k [] W := by
 obtain ⟨f, h1, h2, h3, h4⟩ := h.ex
 refine ⟨f, h1, h2, h3, fun a b => ?_⟩
 rw [h4]
 refine and_congr_right fun _ => ?_
 constructor
 ·rintro (⟨d, h1, h2⟩ | ⟨rfl, h2⟩)
  ·exact .inl ⟨d, (ab4 hk).2 (.inl h1), h2⟩
  ·exact .inl ⟨ds, (ab4 hk).2 (.inr rfl), h2⟩
 ·rintro (⟨d, h1, h2⟩ | ⟨_, h2⟩)
  ·rcases (ab4 hk).1 h1 with h1 | h1
   ·exact .inl ⟨d, h1, h2⟩
   ·cases h1; exact .inr ⟨rfl, h2⟩
  ·cases h2
theorem Rn.skip {ts : List Td} {B bg bm n i j : Nat} {k s : Bs} {ds : List Bs} {W : World} (hs : ds[j]? = some s) (hn : s ∉ nms ts) (h : Rn ts B bg bm n i k (ds.take j) W) : Rn ts B bg bm n i k (ds.take (j + 1)) W := by
 obtain ⟨f, h1, h2, h3, h4⟩ := h.ex
 refine ⟨f, h1, h2, h3, fun a b => ?_⟩
 rw [h4, qt hs]
 refine and_congr_right fun hb => ?_
 have : b ≠ s := fun e => hn (e ▸ hb)
 simp [this]
theorem Rn.link {ts : List Td} {B bg bm n i j N : Nat} {k s : Bs} {ds : List Bs} {w : World} (hs : ds[j]? = some s) (hsn : s ∈ nms ts) (hkn : k ∈ nms ts) (hsm : ∀ x ∈ nms ts, x.length ≤ maxLen) (hN : ts.length ≤ N) (hN2 : N ≤ 16384) (hB : B ≤ w.heap.size) (hn : n ≤ 1073741824)
  (h : Rn ts B bg bm n i k (ds.take j) w) : Calls Tryz.prog 117 #[.pointer (some ⟨bg, 0, none⟩), .string ⟨k.toArray⟩, .string ⟨s.toArray⟩] w fun e w' => e = .returned (.tuple #[]) ∧ Ax (Rn ts B bg bm (n + 3) i k (ds.take (j + 1)) w' ∧ w.grownBy w' (some bm)) := by
 obtain ⟨f, h1, h2, h3, h4⟩ := h.ex
 have hF : Few f N := ⟨nms ts, fun x hx => (h3 x).1 hx, by simpa [nms] using hN, hsm⟩
 refine (alf h1 h2 hB k s (hsm k hkn) (hsm s hsn) hn fun a l hl => Nat.le_trans (hF.list h2 hl) (by omega)).mono fun e w' ⟨he, hI, hg⟩ => ⟨he, ⟨⟨_, hI, aoa h2 k s, fun y => ?_, fun a b => ?_⟩, hg⟩⟩
 ·rw [ag9, h3]
  constructor
  ·rintro (rfl | rfl | h)
   ·exact hkn
   ·exact hsn
   ·exact h
  ·exact fun h => .inr (.inr h)
 ·rw [ab2, h4, qt hs]
  constructor
  ·rintro (⟨rfl, rfl⟩ | ⟨hb, h | ⟨h, h'⟩⟩)
   ·exact ⟨hsn, .inr ⟨rfl, .inr rfl⟩⟩
   ·exact ⟨hb, .inl h⟩
   ·exact ⟨hb, .inr ⟨h, .inl h'⟩⟩
  ·rintro ⟨hb, h | ⟨rfl, h' | rfl⟩⟩
   ·exact .inr ⟨hb, .inl h⟩
   ·exact .inr ⟨hb, .inr ⟨rfl, h'⟩⟩
   ·exact .inl ⟨rfl, rfl⟩
theorem ayx {ts : List Td} {f : Gr} {out bound : List Bs} (hp : ∀ x, f x ≠ none ↔ x ∈ nms ts) (hl : ∀ a b, fw f a b ↔ b ∈ nms ts ∧ ∃ ds, (a, ds) ∈ ts ∧ b ∈ ds) (h : ajr f out bound) : Ring ts ↔ 0 < bound.length := by
 constructor
 ·rintro ⟨S, ⟨k, hk⟩, hS⟩
  apply Classical.byContradiction
  intro hb
  have hb0 : bound = [] := List.eq_nil_of_length_eq_zero (by omega)
  subst hb0
  have key : ∀ (i : Nat) (k : Bs), out[i]? = some k → ¬ S k := by
   intro i
   induction i using Nat.strongRecOn with
   | ind i ih =>
    intro k hi hs
    obtain ⟨_, ds, h1, d, h2, h3, h4⟩ := hS k hs
    have := (h.pre i k hi).1 d ((hl k d).2 ⟨h3, ds, h1, h2⟩)
    obtain ⟨j, hj, he⟩ := List.getElem_of_mem this
    have hji : j < i := by have := hj; simp at this; omega
    have hjo : out[j]? = some d := by
     have := List.getElem?_eq_getElem hj
     rw [he, List.getElem?_take, if_pos hji] at this
     exact this
    exact ih j hji d hjo h4
  have hko : k ∈ out := by
   rcases (h.all k).1 ((hp k).2 (hS k hk).1) with h | h
   ·exact h
   ·cases h
  obtain ⟨i, hi, he⟩ := List.getElem_of_mem hko
  exact key i k (by rw [List.getElem?_eq_getElem hi, he]) hk
 ·intro hb
  refine ⟨fun x => x ∈ bound, ⟨bound[0], List.getElem_mem _⟩, fun k hk => ⟨(hp k).1 ((h.all k).2 (.inr hk)), ?_⟩⟩
  obtain ⟨y, hy, hly⟩ := h.back k hk
  obtain ⟨h1, ds, h2, h3⟩ := (hl k y).1 hly
  exact ⟨ds, h2, y, h3, h1, hy⟩
open Classical in
def kq (ts : List Td) : Bool := decide (Ring ts)
theorem aeb {ts : List Td} {i : Nat} {k : Bs} {ds : List Bs} (h : ts[i]? = some (k, ds)) : (nms ts)[i]? = some k := by
 unfold nms; rw [List.getElem?_map, h]; rfl
theorem asl {w : World} {v : Value} {ts : List Td} (hv : RT w v ts) (hN : ts.length ≤ 16384) (hD : ∀ t ∈ ts, t.2.length ≤ 16384) (hsm : ∀ x ∈ nms ts, x.length ≤ maxLen)
  (hFind : ∀ W, Below w.heap.size w W → ∀ s : Bs, Calls Tryz.prog 34 #[v, .string ⟨s.toArray⟩] W fun e w' => ∃ i : Int, e = .returned (.int .i64 i) ∧ (0 ≤ i ↔ s ∈ nms ts) ∧ Below W.heap.size W w') :
  Calls Tryz.prog 78 #[v] w fun e w' => e = .returned (.bool (kq ts)) ∧ Below w.heap.size w w' := by
 have C1 := Lib.hid (aof (w := w) (B := 0) (v := .slice none 0 0) (l := []) ⟨rfl, .inl ⟨rfl, rfl⟩⟩ (fun x hx => by cases hx) (by simp))
 replace hFind := Lib.hid hFind
 obtain ⟨A, cap, rfl, hA⟩ := id hv
 replace hv := Lib.hid hv
 replace hA := Lib.hid hA
 replace hsm := Lib.hid hsm
 replace hD := Lib.hid hD
 go_enter Tryz.func78, Tryz.ntmps78
 go_wp2_with fail
 refine C1.out.mono ?_
 rintro e w1 ⟨bg, bm, rfl, hI1, hB1⟩
 replace hI1 := Lib.hid hI1
 replace hB1 := Lib.hid hB1
 clear C1
 go_wp2_with fail
 go_loopg [15] ts.length (fun gk v15 W => ∃ i : Nat, i + gk = ts.length ∧ v15 = .int .i64 i ∧ Ax (IsG W w.heap.size bg bm i (qs ((nms ts).take i)) ∧ Below w.heap.size w W))
 case atStart => exact ⟨0, by omega, rfl, ⟨hI1.out, hB1.out⟩⟩
 case round =>
  clear hI1 hB1
  obtain ⟨i, hig, rfl, HM⟩ := hrel
  by_cases hi : i < ts.length
  ·obtain ⟨g1, rfl⟩ : ∃ j, gk = j + 1 := ⟨gk - 1, by omega⟩
   obtain ⟨⟨k, ds⟩, hk⟩ : ∃ x, ts[i]? = some x := ⟨ts[i], List.getElem?_eq_getElem hi⟩
   obtain ⟨g, o, A1, n1, cap1, A2, cap2, rfl, h1, h2, h3, _⟩ := hA.out i k ds hk
   have q1 := bu HM.out.2 h1
   have q2 := bu HM.out.2 h2
   have q3 := bu HM.out.2 h3
   clear h1 h2 h3
   have hBa : Below wr.heap.size wr (wr.alloc (Obj.cells #[.string ⟨k.toArray⟩, .slice A1 n1 cap1, .slice A2 ds.length cap2] 70)) := (Below.refl _ wr).alloc (Nat.le_refl _) _
   have C2 := Lib.hid (aha (HM.out.1.below hBa) k (hsm.out k (List.mem_of_getElem? (aeb hk))) (by unfold maxLen; omega))
   have hBw := Lib.hid (dp HM.out.2 (Nat.le_refl _) hBa)
   replace hBa := Lib.hid hBa
   go_wp2_with fail
   refine C2.out.mono ?_
   rintro e w2 ⟨rfl, h2⟩
   have hnx := Lib.hid (show Ax (IsG w2 w.heap.size bg bm (i + 1) (qs ((nms ts).take (i + 1))) ∧ Below w.heap.size w w2) from
    ⟨by rw [aik (aeb hk)]; exact h2.out.1, og hBw.out (Nat.le_refl _) h2.out.2 h2.out.1.hBm⟩)
   clear C2 h2 q1 q2 q3 HM
   go_wp2_with fail
   go_roundg g1
   case measure => omega
   case rel => exact ⟨i + 1, by omega, by go_num, hnx.out⟩
  ·obtain rfl : gk = 0 := by omega
   obtain rfl : i = ts.length := by omega
   have hR0 : Rn ts w.heap.size bg bm ts.length 0 [] [] wr := ⟨_, HM.out.1, asg _, fun x => by rw [ase, List.take_of_length_le (by simp [nms])], fun a b => by simp [alg]⟩
   have hBr := HM.out.2
   replace hR0 := Lib.hid hR0
   replace hBr := Lib.hid hBr
   clear HM
   generalize wr = wA at *
   go_wp2_with fail
   go_loopg [26] ts.length (fun gk v26 W => ∃ i : Nat, i + gk = ts.length ∧ v26 = .int .i64 i ∧ Ax (Rn ts w.heap.size bg bm (ts.length + 3 * (16384 * i)) i [] [] W ∧ Below w.heap.size w W))
   case atStart => exact ⟨0, by omega, rfl, ⟨hR0.out, hBr.out⟩⟩
   case round =>
    clear hR0 hBr
    obtain ⟨i, hig, rfl, HM⟩ := hrel
    by_cases hi : i < ts.length
    ·obtain ⟨g1, rfl⟩ : ∃ j, gk = j + 1 := ⟨gk - 1, by omega⟩
     obtain ⟨⟨k, ds⟩, hk⟩ : ∃ x, ts[i]? = some x := ⟨ts[i], List.getElem?_eq_getElem hi⟩
     obtain ⟨g, o, A1, n1, cap1, A2, cap2, rfl, h1, h2, h3, h4⟩ := hA.out i k ds hk
     have q1 := bu HM.out.2 h1
     have q2 := bu HM.out.2 h2
     have q3 := bu HM.out.2 h3
     have hds : ds.length ≤ 16384 := hD.out (k, ds) (List.mem_of_getElem? hk)
     have hkn := List.mem_of_getElem? (aeb hk)
     have hBa : Below wr.heap.size wr (wr.alloc (Obj.cells #[.string ⟨k.toArray⟩, .slice A1 n1 cap1, .slice A2 ds.length cap2] 70)) := (Below.refl _ wr).alloc (Nat.le_refl _) _
     have hR1 := (HM.out.1.below hBa).enter (k' := k)
     have hB1 := dp HM.out.2 (Nat.le_refl _) hBa
     have hblk : (wr.alloc (Obj.cells #[.string ⟨k.toArray⟩, .slice A1 n1 cap1, .slice A2 ds.length cap2] 70)).heap[wr.heap.size]? = some (Obj.cells #[.string ⟨k.toArray⟩, .slice A1 n1 cap1, .slice A2 ds.length cap2] 70 (0, 0)) := heap_alloc_new wr _
     have hbx : w.heap.size ≤ wr.heap.size := HM.out.2.size
     replace h4 := Lib.hid h4
     clear hBa
     replace hR1 := Lib.hid hR1
     replace hB1 := Lib.hid hB1
     replace hblk := Lib.hid hblk
     clear h1 h2 h3 HM
     go_wp2_with fail
     clear q1 q2 q3
     generalize (wr.alloc (Obj.cells #[.string ⟨k.toArray⟩, .slice A1 n1 cap1, .slice A2 ds.length cap2] 70)) = wb at *
     obtain ⟨bx, hbxe⟩ : ∃ bx, wr.heap.size = bx := ⟨_, rfl⟩
     rw [hbxe] at hblk hbx ⊢
     clear hbxe
     go_loopg [33] ds.length (fun gk v33 W => ∃ j : Nat, j + gk = ds.length ∧ v33 = .int .i64 j ∧ Ax (Rn ts w.heap.size bg bm (ts.length + 3 * (16384 * i) + 3 * j) i k (ds.take j) W ∧ Below w.heap.size w W ∧ W.heap[bx]? = some (Obj.cells #[.string ⟨k.toArray⟩, .slice A1 n1 cap1, .slice A2 ds.length cap2] 70 (0, 0))))
     case atStart => exact ⟨0, by omega, rfl, ⟨by simpa using hR1.out, hB1.out, hblk.out⟩⟩
     case round =>
      clear hR1 hB1 hblk
      obtain ⟨j, hjg, rfl, HJ⟩ := hrel
      by_cases hj : j < ds.length
      ·obtain ⟨g2, rfl⟩ : ∃ j, gk = j + 1 := ⟨gk - 1, by omega⟩
       obtain ⟨s, hs⟩ : ∃ x, ds[j]? = some x := ⟨ds[j], List.getElem?_eq_getElem hj⟩
       obtain ⟨g3, o3, rfl, h5⟩ := h4.out j s hs
       obtain ⟨hR, hB, hbk⟩ := HJ.out
       have q1 := bu hB h5
       have CF := Lib.hid (hFind.out _ hB s)
       replace hR := Lib.hid hR
       replace hB := Lib.hid hB
       replace hbk := Lib.hid hbk
       clear h5 HJ
       go_wp2_with fail
       refine CF.out.mono ?_
       rintro e w4 ⟨idx, rfl, hidx, hB4⟩
       have hR4 := hR.out.below hB4
       have hBw4 := dp hB.out (Nat.le_refl _) hB4
       have hbk4 := (hB4.block _ (dz hbk.out)).trans hbk.out
       have q2 : w4.cell? ⟨bx, 0, none⟩ = some (.string ⟨k.toArray⟩) := by rw [Abs.cell_of hbk4]; rfl
       by_cases h0 : 0 ≤ idx
       ·have hsn := hidx.1 h0
        have CL := Lib.hid (hR4.link (N := 16384) hs hsn hkn hsm.out hN (Nat.le_refl _) (Nat.le_trans hbx (Nat.le_of_lt (dz hbk4))) (by omega))
        replace hBw4 := Lib.hid hBw4
        replace hbk4 := Lib.hid hbk4
        have CLB := Lib.hid hB4
        clear CF hidx hB4 hR4
        go_wp2_with fail
        refine CL.out.mono ?_
        rintro e w5 ⟨rfl, h5⟩
        obtain ⟨es, c, hm⟩ : ∃ es c, w4.heap[bm]? = some (.map es c) := by obtain ⟨f, h1, _⟩ := hR.out.ex; obtain ⟨F, h2, _⟩ := h1.map; exact (h2.uj ((CLB.out.block _ h2.lt))).blk
        have hnx := Lib.hid (show Ax (Rn ts w.heap.size bg bm (ts.length + 3 * (16384 * i) + 3 * (j + 1)) i k (ds.take (j + 1)) w5 ∧ Below w.heap.size w w5 ∧ w5.heap[bx]? = some (Obj.cells #[.string ⟨k.toArray⟩, .slice A1 n1 cap1, .slice (some ⟨g3, o3, none⟩) ds.length cap2] 70 (0, 0))) from
         ⟨h5.out.1.mono (by omega), og hBw4.out (Nat.le_refl _) h5.out.2 (by obtain ⟨f, h1, _⟩ := hR.out.ex; exact h1.hBm), (h5.out.2.block bx (dz hbk4.out) (fun e => by cases e; have := hbk4.out; rw [hm] at this; cases this)).trans hbk4.out⟩)
        clear CL h5 hm hBw4 hbk4 CLB
        go_wp2_with fail
        go_roundg g2
        case measure => omega
        case rel => exact ⟨j + 1, by omega, by go_num, hnx.out⟩
       ·have hsn := fun h => h0 (hidx.2 h)
        have h0' : idx < 0 := by omega
        have hnx := Lib.hid (show Ax (Rn ts w.heap.size bg bm (ts.length + 3 * (16384 * i) + 3 * (j + 1)) i k (ds.take (j + 1)) w4 ∧ Below w.heap.size w w4 ∧ w4.heap[bx]? = some (Obj.cells #[.string ⟨k.toArray⟩, .slice A1 n1 cap1, .slice (some ⟨g3, o3, none⟩) ds.length cap2] 70 (0, 0))) from
         ⟨(hR4.skip hs hsn).mono (by omega), hBw4, hbk4⟩)
        clear CF hidx hB4 hR4 hBw4 hbk4
        go_wp2_with fail
        go_roundg g2
        case measure => omega
        case rel => exact ⟨j + 1, by omega, by go_num, hnx.out⟩
      ·obtain rfl : gk = 0 := by omega
       obtain rfl : j = ds.length := by omega
       have hnx := Lib.hid (show Ax (Rn ts w.heap.size bg bm (ts.length + 3 * (16384 * (i + 1))) (i + 1) [] [] wr ∧ Below w.heap.size w wr) from
        ⟨((Rn.leave hk (by have := HJ.out.1; rw [List.take_length] at this; exact this)).mono (by omega)).enter, HJ.out.2.1⟩)
       clear HJ
       go_wp2_with fail
       go_roundg g1
       case measure => omega
       case rel => exact ⟨i + 1, by omega, by go_num, hnx.out⟩
    ·obtain rfl : gk = 0 := by omega
     obtain rfl : i = ts.length := by omega
     obtain ⟨f, h1, h2, h3, h4⟩ := HM.out.1.ex
     have hB := HM.out.2
     have hF : Few f 16384 := ⟨nms ts, fun x hx => (h3 x).1 hx, by simpa [nms] using hN, hsm.out⟩
     have CO := Lib.hid (asj h1 h2 hF (Nat.le_refl _) (by omega))
     have hl : ∀ a b, fw f a b ↔ b ∈ nms ts ∧ ∃ ds, (a, ds) ∈ ts ∧ b ∈ ds := fun a b => by rw [h4]; simp
     replace h3 := Lib.hid h3
     replace hl := Lib.hid hl
     replace hB := Lib.hid hB
     clear HM h1 h2 h4 hF
     go_wp2_with fail
     refine CO.out.mono ?_
     rintro e w5 ⟨vl, vb, out, bound, rfl, hO, hr1, hr2, hB5⟩
     have hrb := ayx h3.out hl.out hO
     have hbb := dp hB.out (Nat.le_refl _) hB5
     obtain ⟨Ab, capb, rfl, _⟩ := j9 hr2
     have hrB : kq ts = decide (0 < bound.length) := by
      unfold kq
      exact decide_eq_decide.2 hrb
     replace hrB := Lib.hid hrB
     replace hbb := Lib.hid hbb
     clear hO hr1 hr2 hB5 hrb CO
     go_wp2_with fail
     go_ret
     exact ⟨by rw [hrB.out]; simp, hbb.out⟩
end Go.Proofs.YtmdimhcjogjcgaaGreatDoor.Gr
namespace Go.Proofs.YtmdimhcjogjcgaaGreatDoor.Lat
open Go.Proofs.YtmdimhcjogjcgaaGreatDoor.Abs Go.Proofs.YtmdimhcjogjcgaaGreatDoor.Gr
structure zf (t : Th) : Prop where
 v : szV t.v ≤ 1073741824
 d : t.d.length ≤ 1000
 n : t.n.length ≤ 1000
theorem ain (ts : List Th) (i : Nat) (t : Th) (ht : ts[i]? = some t) (hd : t.d.length ≤ 20) (r : Option AV) (hr : dh.l0 (.sl 3 (cf ts)) (.int .i64 ((i + 1 : Nat) : Int)) = r) (hi : i ≤ 1000) : ∀ (d j : Nat), j + d = t.d.length → dh.l1 (.sl 3 (cf ts)) (.int .i64 (i : Int)) (.int .i64 (j : Int)) = some (.bool false) ∨ dh.l1 (.sl 3 (cf ts)) (.int .i64 (i : Int)) (.int .i64 (j : Int)) = r
 | 0, j, h => by
  right
  rw [dh.ib, ay (ir ht), th2, ac8, df, decide_eq_false (by omega), ifF, bf (by omega), hr]
 | d + 1, j, h => by
  have h1 : j < t.d.length := by omega
  have ih := ain ts i t ht hd r hr hi d (j + 1) (by omega)
  rw [dh.ib, ay (ir ht), th2, ac8, df, decide_eq_true (by omega), ifT, ay (ir ht), th2, ac8, ay (j4 (List.getElem?_eq_getElem h1)), aav]
  simp only [gx]
  by_cases hc : (100 : Int) < (t.d[j].length : Int)
  ·rw [decide_eq_true hc, ifT]; exact .inl rfl
  ·rw [decide_eq_false hc, ifF, bf (by omega)]; exact ih
theorem aio (ts : List Th) (hl : ts.length ≤ 12) : ∀ (d i : Nat), i + d = ts.length → ∃ b : Bool, dh.l0 (.sl 3 (cf ts)) (.int .i64 (i : Int)) = some (.bool b) ∧ (b = true → ∀ t ∈ ts.drop i, szV t.v ≤ 1073741824 ∧ t.d.length ≤ 20 ∧ t.n.length ≤ 100)
 | 0, i, h => ⟨true, by rw [dh.ar, pa, decide_eq_false (by omega), ifF], fun _ => by rw [bw (by omega)]; simp⟩
 | d + 1, i, h => by
  have h1 : i < ts.length := by omega
  have e1 : ts[i]? = some ts[i] := List.getElem?_eq_getElem h1
  obtain ⟨b, hb, hq⟩ := aio ts hl d (i + 1) (by omega)
  obtain ⟨b2, hb2, hz⟩ := a2r ts[i].v
  rw [dh.ar, pa, decide_eq_true (by omega), ifT, ay (ir e1), th0]
  simp only [gx, ay (ir e1), th1, th2, ac8, df, hb2, ad, en, orK]
  by_cases hn : (100 : Int) < (ts[i].n.length : Int)
  ·rw [decide_eq_true hn]
   exact ⟨false, by simp [ifT, ad], fun c => by cases c⟩
  ·rw [decide_eq_false hn, Bool.false_or]
   by_cases hd : (20 : Int) < (ts[i].d.length : Int)
   ·rw [decide_eq_true hd]
    exact ⟨false, by simp [ifT, ad], fun c => by cases c⟩
   ·rw [decide_eq_false hd, Bool.false_or]
    cases b2 with
    | false => exact ⟨false, rfl, fun c => by cases c⟩
    | true =>
     rw [Bool.not_true, ifF]
     have := ain ts i ts[i] e1 (by omega) _ hb (by omega) ts[i].d.length 0 (by omega)
     rw [e00] at this
     rcases this with h0 | h0
     ·exact ⟨false, h0, fun c => by cases c⟩
     ·refine ⟨b, h0, fun hbt t ht => ?_⟩
      rw [bc h1] at ht
      rcases List.mem_cons.1 ht with rfl | ht
      ·exact ⟨hz rfl, by omega, by omega⟩
      ·exact hq hbt t ht
theorem ayy (ts : List Th) : ∃ b : Bool, dh (.sl 3 (cf ts)) = some (.bool b) ∧ (b = true → ts.length ≤ 12 ∧ ∀ t ∈ ts, zf t) := by
 rw [dh.ae, pa]
 by_cases h : (12 : Int) < (ts.length : Int)
 ·rw [decide_eq_true h, ifT]; exact ⟨false, rfl, fun c => by cases c⟩
 ·rw [decide_eq_false h, ifF]
  obtain ⟨b, hb, hq⟩ := aio ts (by omega) ts.length 0 (by omega)
  rw [e00] at hb
  exact ⟨b, hb, fun hbt => ⟨by omega, fun t ht => by
   have := hq hbt t (by rw [List.drop_zero]; exact ht)
   exact ⟨this.1, by omega, by omega⟩⟩⟩
def vj (ts : List Th) : List Bs := ts.map (·.n)
def tds (ts : List Th) : List Td := ts.map fun t => (t.n, t.d)
theorem aoh (ts : List Th) : nms (tds ts) = vj ts := by simp [nms, tds, vj]
open Classical in
theorem aps {ts : List Td} : kq ts = true ↔ Ring ts := by unfold kq; exact decide_eq_true_iff
def apt (v : List Tm) : Bool := okV Rn v && (match v with | [t] => decide (t.k = 4) | _ => false)
def gR (t : Th) : Bool := apt t.v && (okV Rn t.v && seL false t.v) && aaw t.d && !decide (t.n ∈ t.d)
end Go.Proofs.YtmdimhcjogjcgaaGreatDoor.Lat
namespace Go.Proofs.YtmdimhcjogjcgaaGreatDoor.Abs
open Go.RowKit
theorem ayz (m : List (Nat × AV)) (off j : Nat) : ovr (ox m off) j = if off = j then none else ovr m j := by
 induction m with
 | nil => simp [ox, ovr]
 | cons x m ih =>
  obtain ⟨q, y⟩ := x
  by_cases hq : q = off
  ·subst hq
   simp only [ox, agn, aa, ih, ovr]
   by_cases hj : q = j
   ·simp [hj]
   ·simp [hj, du hj]
  ·simp only [ox, du hq, aa, ovr]
   by_cases hj : q = j
   ·subst hj; simp [Ne.symm hq]
   ·simp only [du hj]; exact ih
theorem nf (m : List (Nat × AV)) (off j : Nat) (y : AV) : ovr ((off, y) :: m) j = if off = j then some y else ovr m j := by
 simp only [ovr]
 by_cases hj : off = j
 ·subst hj; simp [aa]
 ·simp [hj, du hj, aa]
theorem mc (m : List (Nat × AV)) (off j : Nat) (y : AV) : ovr ((off, y) :: ox m off) j = if off = j then some y else ovr m j := by
 rw [nf, ayz]; split <;> rfl
theorem aaz : ∀ (l : List AV) (o j : Nat) (m : List (Nat × AV)), ovr (zw o l m) j = if o ≤ j ∧ j < o + l.length then l[j - o]? else ovr m j
 | [], o, j, m => by simp [zw]; intro h1 h2; omega
 | y :: l, o, j, m => by
  rw [zw, aaz l (o + 1) j, mc]
  by_cases h1 : o = j
  ·subst h1
   rw [if_neg (by omega), if_pos rfl, if_pos (by simp)]; simp
  ·by_cases h2 : o + 1 ≤ j ∧ j < o + 1 + l.length
   ·rw [if_pos h2, if_pos (by simp only [List.length_cons]; omega), show j - o = (j - (o + 1)) + 1 by omega]; simp
   ·rw [if_neg h2, if_neg h1, if_neg (by simp only [List.length_cons]; omega)]
theorem alk (d : Nat) (a : AV) : ff a (klc d a) := by
 cases a <;> first
  | exact .refl _
  | skip
 case vwc q o z l => show ff _ (aa _ _ _); cases Nat.beq q d <;> first | exact .refl _ | exact .vwc ..
theorem asm (d : Nat) (a : AV) : ∀ o z l, klc d a ≠ .vwc d o z l := by
 cases a <;> first
  | (intro o z l; simp [klc]; done)
  | skip
 case vwc q o z l =>
  by_cases h : q = d
  ·subst h; simp [klc, aa]
  ·simp [klc, aa, du h, h]
theorem ff.a54 {x : AV} {q z : Nat} {l : List (List AV)} (h : ff x (.vw q z l)) : x = .vw q z l := by cases h; rfl
theorem ff.aoi {x : AV} {q o : Nat} (h : ff x (.fptr q o)) : x = .fptr q o := by cases h; rfl
section
variable {P : Program} {τ : Tab} {B : Nat} {w : World} {c : Cls} {a : Act} {e : Env} {o : Oper} {d : Nat} {v : AV} {call : Nat → List AV → Option AV}
theorem eh.jj {w' : World} {c' : Cls} {h : gp} {u : Value} {sz : Nat} {l : List (List AV)} (hx : Ext B w c w' c') (hk : ∀ q st, c q = .own st h → w'.heap[q]? = w.heap[q]? ∧ c' q = c q) (ho : eh B w c h u sz l) : eh B w' c' h u sz l := by
 refine ⟨ho.1.ext hx, ho.2.imp id ?_⟩
 rintro ⟨b, cap, vs, ty, h1, h2, h3, h4, h5, h6, h7⟩
 obtain ⟨k1, k2⟩ := hk b _ h7
 exact ⟨b, cap, vs, ty, h1, h2, k1.trans h3, h4, h5, h6, k2.trans h7⟩
theorem ax.axb {w' : World} {c' : Cls} {T : Nat → Value} {e0 e' : Env} {z z' : Nat} {cs cs' : List AV} {m m' : List (Nat × AV)} (h0 : ax τ B w' c' T e0) (hs : ax τ B w c T e) (hd : e d = .boxv z cs m) (hd' : e' d = .boxv z' cs' m')
  (hb : qp B w' c' d (T d) z' cs' m') (hw0 : ∀ s, s ≠ d → ff (e s) (e0 s)) (hw : ∀ s, s ≠ d → ff (e0 s) (e' s)) (hn : ∀ s, s ≠ d → ∀ o z l, e' s ≠ .vwc d o z l) : ax τ B w' c' T e' := by
 refine ⟨h0.base, h0.g, fun s => ?_⟩
 by_cases hsd : s = d
 ·subst hsd
  rw [hd']
  exact hb
 ·by_cases hv : ∃ z l, e' s = .vw d z l
  ·obtain ⟨z2, l2, hv⟩ := hv
   have h1 : e0 s = .vw d z2 l2 := (hv ▸ hw s hsd).a54
   have := h0.slot s
   rw [h1] at this
   rw [hv]
   exact ⟨this.1, fun z l hx => by rw [hd'] at hx; cases hx⟩
  by_cases hf : ∃ o, e' s = .fptr d o
  ·obtain ⟨o, hf⟩ := hf
   have h1 : e0 s = .fptr d o := (hf ▸ hw s hsd).aoi
   have h2 : e s = .fptr d o := (h1 ▸ hw0 s hsd).aoi
   have := hs.slot s
   rw [h2] at this
   rw [hf]
   intro z2 cs2 m2 _
   exact this z cs m hd
  ·refine (h0.slot s).ku (hw s hsd) fun q hq => ?_
   by_cases hqd : q = d
   ·subst hqd
    rcases hq with ⟨o, hx⟩ | ⟨z, l, hx⟩ | ⟨o, z, l, hx⟩
    ·exact absurd ⟨o, hx⟩ hf
    ·exact absurd ⟨z, l, hx⟩ hv
    ·exact absurd hx (hn s hsd o z l)
   ·exact .inl ⟨hw q hqd, rfl⟩
theorem alm {j : Nat} {cs : List AV} {m : List (Nat × AV)} {z : Nat} {b : Nat} {vs : Array Value} {y : AV} (hb : qp B w c d (.pointer (some ⟨b, 0, none⟩)) z cs m) (hv : ∃ ty, w.heap[b]? = some (.cells vs ty (0, 0)))
  (hy : ovr m j = some y ∨ (ovr m j = none ∧ cs[j]? = some y)) : ∃ u, vs[j]? = some u ∧ ov B w c d j u y := by
 obtain ⟨b', vs', ty', e1, _, h3, _, h5, h6, h7, h8, h9⟩ := hb
 cases e1
 obtain ⟨ty, hv⟩ := hv
 rw [h3] at hv; cases hv
 rcases hy with hy | ⟨hn, hy⟩
 ·have hj := h9 j y hy
  have : vs[j]? = some vs[j] := by simp [h5, hj]
  exact ⟨_, this, h8 j y _ hy this⟩
 ·have hj : j < z := by rw [← h6]; exact (List.getElem?_eq_some_iff.1 hy).1
  obtain ⟨u, this⟩ : ∃ u, vs[j]? = some u := ⟨vs[j], by simp [h5, hj]⟩
  have hr := h7 j y _ hn hy this
  refine ⟨_, this, ?_⟩
  cases y <;> first | exact hr | cases hr
theorem avw {sz : Nat} {x : Operand} {α : Type} {r : α} {k : List (List AV) → Env → Option α} (hs : ax τ B w c (aj a) e) (h : z8 e sz x k = some r) :
  ∃ l e1 H, k l e1 = some r ∧ ax τ B w c (aj a) e1 ∧ eh B w c H (a.eval x) sz l ∧ ¬ Live e1 H := by
 unfold z8 at h
 split at h
 ·rename_i s
  have hso := hs.slot s
  cases hes : e s <;> rw [hes] at h hso <;> first
   | cases h
   | skip
  ·have hq : Rep w c _ .nil := hso
   refine ⟨[], e, .ret 0, h, hs, ?_, fun hh => hh⟩
   rw [aah]
   generalize aj a s = u at *
   cases hq
   exact ⟨.nil _, .inl ⟨rfl, rfl⟩⟩
  ·rename_i z l
   obtain ⟨hz, g⟩ := bn h
   obtain rfl := Nat.eq_of_beq_eq_true hz
   refine ⟨l, _, .slot s, g, hs.ku fun t => ?_, hso, ?_⟩
   ·by_cases ht : t = s
    ·subst ht; rw [cy, hes]; exact .own ..
    ·rw [ea _ _ ht]; exact .refl _
   ·rintro ⟨z', l', hx⟩
    rw [cy] at hx; cases hx
  ·rename_i q z0 l0
   obtain ⟨l, hq, g⟩ := ago (show asO sz (e q) _ = some r from h)
   have hqo := hs.slot q
   rw [hq] at hqo
   have hsq : aj a s = aj a q := hso.2 sz l hq
   have hqs : q ≠ s := fun hh => by rw [hh, hes] at hq; cases hq
   have h1 : ax τ B w c (aj a) (Abs.set e q (.sl sz l)) := hs.ku fun t => by
    by_cases ht : t = q
    ·subst ht; rw [cy, hq]; exact .own ..
    ·rw [ea _ _ ht]; exact .refl _
   refine ⟨l, _, .slot q, g, h1.again (d := s) (v := .sl sz l) (by rw [hsq]; exact hqo.1) rfl rfl, by rw [aah, hsq]; exact hqo, ?_⟩
   rintro ⟨z', l', hx⟩
   rw [ea _ _ hqs, cy] at hx; cases hx
  ·rename_i q off z0 l0
   have h : (match e q with
    | .boxv bz c m => vd c m off fun a => asO sz a fun l => k l (set (ot q (set e q (.boxv bz c ((off, .sl sz l) :: ox m off)))) s (.sl sz l))
    | _ => none) = some r := h
   split at h
   ·rename_i bz cs m heq
    obtain ⟨y, hy, g⟩ := aag h
    obtain ⟨l, e1, g0⟩ := ago g
    subst e1
    have hqo := hs.slot q
    rw [heq] at hqo
    obtain ⟨b, vs, ty, h1, h2, h3, h4, h5, h6, h7, h8, h9⟩ := hqo
    have hbox : qp B w c q (aj a q) bz cs m := ⟨b, vs, ty, h1, h2, h3, h4, h5, h6, h7, h8, h9⟩
    have hy' : ovr m off = some (.own sz l) := by
     rcases hy with hy | ⟨hn, hy⟩
     ·exact hy
     ·obtain ⟨u, _, hu⟩ := alm (h1 ▸ hbox) ⟨ty, h3⟩ (.inr ⟨hn, hy⟩)
      have hj : off < bz := by rw [← h6]; exact (List.getElem?_eq_some_iff.1 hy).1
      obtain ⟨u0, hu0⟩ : ∃ u, vs[off]? = some u := ⟨vs[off], by simp [h5, hj]⟩
      have := h7 off _ u0 hn hy hu0
      cases this
    obtain ⟨b', g1, g2⟩ := hso.2 bz cs m sz l heq hy'
    rw [h1] at g1; cases g1
    rw [cell_of h3] at g2
    have hown : eh B w c (.cell q off) (aj a s) sz l := h8 off _ _ hy' g2
    have hqs : q ≠ s := fun hh => by rw [hh, hes] at heq; cases heq
    have hnew : ax τ B w c (aj a) (ot q (Abs.set e q (.boxv bz cs ((off, .sl sz l) :: ox m off)))) := by
     refine ax.axb (e0 := e) (z' := bz) (cs' := cs) (m' := (off, .sl sz l) :: ox m off) hs hs heq (by show klc q _ = _; rw [cy]; rfl) ⟨b, vs, ty, h1, h2, h3, h4, h5, h6, fun j x u p1 p2 p3 => ?_, fun j x u p1 p2 => ?_, fun j x p1 => ?_⟩ (fun s _ => .refl _) (fun s hs => ?_) (fun s hs => ?_)
     ·rw [mc] at p1
      split at p1
      ·cases p1
      ·exact h7 j x u p1 p2 p3
     ·rw [mc] at p1
      split at p1
      ·rename_i hj
       cases p1
       subst hj
       rw [g2] at p2; cases p2
       exact hown.1
      ·exact h8 j x u p1 p2
     ·rw [mc] at p1
      split at p1
      ·rename_i hj; subst hj; exact h9 _ _ hy'
      ·exact h9 j x p1
     ·show ff _ (klc q _)
      rw [ea _ _ hs]; exact alk ..
     ·show ∀ o z l, klc q _ ≠ _
      exact asm _ _
    refine ⟨l, _, .cell q off, g0, hnew.again (d := s) (v := .sl sz l) hown.1 rfl rfl, by rw [aah]; exact hown, ?_⟩
    rintro ⟨z', cs', m', s', l', hx, hx'⟩
    rw [ea _ _ hqs] at hx
    have : klc q (Abs.set e q (.boxv bz cs ((off, .sl sz l) :: ox m off)) q) = _ := hx
    rw [cy] at this
    cases this
    rw [mc, if_pos rfl] at hx'
    cases hx'
   ·cases h
 ·exact ⟨[], e, .ret 0, h, hs, ⟨.nil _, .inl ⟨rfl, rfl⟩⟩, fun hh => hh⟩
 ·cases h
theorem apu (hT : db P τ) {x y : Operand} {t0 t1 : Nat} {e' : Env} (ho : o.op = .call ⟨.builtin .append, ⟨[x, y]⟩, ⟨[t0, t1]⟩⟩) (hs : ax τ B w c (aj a) e) (hd : ∀ d, o.dst = some d → d < a.tmps.size)
  (h : bh (Nat.beq t0 t1) (ki τ t0 fun sz => de e y fun b => asL sz b fun ys => z8 e sz x fun l e' => bh (Nat.ble (l.length + ys.length) lim) (some (j5 e' o.dst (.own sz (l ++ ys))))) = some e') :
  Steps P o a w (qk τ B a w c e') := by
 obtain ⟨ht, g⟩ := bn h
 obtain rfl := Nat.eq_of_beq_eq_true ht
 obtain ⟨el, s, bb, z, ti, hti, hte, g⟩ := ny g
 obtain ⟨b1, hb, g⟩ := ck g
 obtain ⟨q, hq⟩ := hb.slot hs
 obtain ⟨ys, hys, g⟩ := rh g
 have hy := hq.isL hys
 obtain ⟨l, e1, H, g, hs1, hown, hn⟩ := avw hs g
 obtain ⟨hlim, g⟩ := bn g
 have hlim : l.length + ys.length ≤ lim := by simpa using hlim
 cases g
 obtain ⟨i, zv, h1, h2, h3, h4, h5, h6, h7⟩ := (hT el _ hte).info
 obtain ⟨v', w', c', hr, hx, hs', ho'⟩ := am5 (d := o.dst.getD 0) (ty := o.type) hs1 hn hown hy (tg hT hti) h1 h4 h2 h5 (hT el _ hte).pos ((hT t0 _ hti).kind.1.2 i h1) hlim
 refine (ej.value (R := fun u' w2 => u' = v' ∧ w2 = w') (u := v') (w' := w') ?_ ⟨rfl, rfl⟩).steps fun u' w2 hu => ?_
 ·simp only [execOp, ho, resolve, invoke, builtin, Sem.run_bind, Sem.run_pure, Result.andThen_ok, List.map_toArray, List.map_cons, List.map_nil, hr]
 ·obtain ⟨rfl, rfl⟩ := hu
  refine ⟨c', hx, ?_, kv, put_defers⟩
  cases hdst : o.dst with
  | none => exact hs'
  | some d =>
   rw [hdst] at ho'
   rw [o4 (hd d hdst)]
   exact hs'.j5 (v := .own ti.sz (l ++ ys)) ho'
end
end Go.Proofs.YtmdimhcjogjcgaaGreatDoor.Abs
