/- state.Encode of nothing. -/
import Derived.Test.YtffojfcinkihnaaGreatDoorGD
import Derived.Test.YtffojfcinkihnaaGreatDoorSh
import Derived.LoopN
import Derived.Lib.JoinLaws
set_option linter.unusedVariables false
set_option linter.unusedSimpArgs false
set_option linter.unusedSectionVars false
set_option linter.deprecated false
set_option linter.unnecessarySimpa false
namespace Go.Proofs.YtffojfcinkihnaaGreatDoor.Gr
open Go.RowKit Go.Lib Go.Proofs.YtffojfcinkihnaaGreatDoor.Lat Go.Proofs.YtffojfcinkihnaaGreatDoor.Mp Go.Maps
set_option linter.unusedVariables false
theorem info5 : (Tryz.prog.info? 5).map (fun i => (i.zero, i.size, i.bytes)) = some (some (.int .u8 0), 1, 1) := by kernel_rfl
theorem grow1 (w : World) : Calls Tryz.prog 119 #[.slice none 0 0, .int .i64 1] w fun e w' => ∃ G cur, e = .returned (.slice (some ⟨w.heap.size, 0, none⟩) 0 G) ∧ 1 ≤ G ∧ G ≤ maxLen ∧ w'.heap[w.heap.size]? = some (.cells cur 5 (0, 0)) ∧ cur.size = G ∧ Below w.heap.size w w' := by
  obtain ⟨i0, hi, hz0, hz1, hz2⟩ := info_parts info5
  refine (Any8.slices_Grow_grow Tryz.laysGrow i0 (.int .u8 0) hi hz0 (by omega) none 0 0 1 [] w (Nat.le_refl _) (by omega) (by rw [hz2]; omega) (by omega) (by simp) (fun _ => rfl) (fun a h => by cases h)).mono fun e w' ⟨he, hw⟩ => ?_
  have hG := grownCap_ge w (0 + 1) 0 (Tryz.laysGrow_ren.t 25)
  have hM := grownCap_le_maxLen w (0 + 1) 0 (Tryz.laysGrow_ren.t 25) (by unfold maxLen; omega)
  generalize grownCap w (0 + 1) 0 (Tryz.laysGrow_ren.t 25) = G at *
  subst hw
  refine ⟨G, _, he, hG, hM, heap_alloc_new w.drew _, ?_, ((Below.refl _ w).drew).alloc (Nat.le_refl _) _⟩
  have e1 : (Value.int .u8 0).cells.size = 1 := rfl
  simp [Builtin.zeroCells, e1]
  omega
theorem below_set {w W : World} {b i : Nat} (h : Below w.heap.size w W) (hb : w.heap.size ≤ b) (u : Value) : Below w.heap.size w (W.setCell ⟨b, i, none⟩ u) :=
  ⟨h.os, h.tape, h.output, by simpa [World.setCell] using h.size, fun k hk => (Below.heap_setCell W _ u k (by show k ≠ b; omega)).trans (h.block k hk)⟩
set_option maxHeartbeats 4000000 in
set_option maxRecDepth 100000 in
theorem concat1 {w : World} {vb gb : Nat} (hb : w.heap[vb]? = some (.cells #[.slice none 0 0, .slice (some ⟨gb, 9, none⟩) 1 1] 84 (0, 0))) (hg : w.cell? ⟨gb, 9, none⟩ = some (.int .u8 0)) :
    Calls Tryz.prog 84 #[.slice (some ⟨vb, 0, none⟩) 2 2] w fun e w' => ∃ v, e = .returned v ∧ w'.ownsRow w.heap.size 5 1 v 1 [.int .u8 0] ∧ Below w.heap.size w w' := by
  have q0 : w.cell? ⟨vb, 0, none⟩ = some (.slice none 0 0) := by rw [Abs.cell_of hb]; rfl
  have q1 : w.cell? ⟨vb, 1, none⟩ = some (.slice (some ⟨gb, 9, none⟩) 1 1) := by rw [Abs.cell_of hb]; rfl
  obtain ⟨i0, hi, hz0, hz1, hz2⟩ := info_parts info5
  have CG := Lib.hid (grow1 w)
  replace hb := Lib.hid hb
  go_enter Tryz.func84, Tryz.ntmps84
  go_wp2_with fail
  refine wp_loop_rounds 3 ?_
  rw [rounds_succ]; go_wp2_with fail
  rw [rounds_succ]; go_wp2_with fail
  rw [rounds_succ]; go_wp2_with fail
  refine CG.out.mono ?_
  rintro e w1 ⟨G, cur, rfl, hG1, hG2, hblk, hcs, hB1⟩
  have q0' := cell_below hB1 q0
  have q1' := cell_below hB1 q1
  have hg1 := cell_below hB1 hg
  have hcell : ∀ j, j < [Value.int .u8 0].length → (w1.cell? ⟨w.heap.size, 0 + 0 + j, none⟩).isSome = true := fun j hj => by
    rw [Abs.cell_of hblk, Array.getElem?_eq_getElem (show 0 + 0 + j < cur.size by simp at hj; omega)]; rfl
  have hfz : ∀ j, j < [Value.int .u8 0].length → w1.frozen? ⟨w.heap.size, 0 + 0 + j, none⟩ = false := fun j _ => frozen_of_row w1 _ _ _ _ hblk
  have s0 : Src Tryz.prog 1 84 (.slice none 0 0) 0 [] w1 := Src.ofNil w1 Tryz.underlying84 0
  have s1 : Src Tryz.prog 1 84 (.slice (some ⟨gb, 9, none⟩) 1 1) 1 [.int .u8 0] w1 := Src.ofSlice w1 Tryz.underlying84 ⟨gb, 9, none⟩ 1 1 _ rfl (fun j u hu => by
    cases j with
    | zero => simp at hu; subst hu; rw [Abs.add_none]; exact hg1
    | succ j => simp at hu) (by simp [Value.oneCell'])
  have hr0 : 0 + 0 ≤ G := by omega
  have hr1 : 0 + 0 + 1 ≤ G := by omega
  have hempt : ∀ (j : Nat), j < ([] : List Value).length → (w1.cell? ⟨w.heap.size, 0 + 0 + j, none⟩).isSome = true := fun j hj => by simp at hj
  have hempt2 : ∀ (j : Nat), j < ([] : List Value).length → w1.frozen? ⟨w.heap.size, 0 + 0 + j, none⟩ = false := fun j hj => by simp at hj
  clear CG q0 q1 hg
  replace hblk := Lib.hid hblk
  replace hB1 := Lib.hid hB1
  go_wp2_with fail
  refine wp_loop_rounds 3 ?_
  rw [rounds_succ]
  go_wp2_with (at_builtin; refine wpList_append_room1 _ rfl _ _ 84 84 rfl 5 (.int .u8 0) 1 Tryz.underlying84 info5 w.heap.size 0 0 G rfl _ rfl 0 [] s0 hr0 hempt hempt2 ?_; change wpList _ _ _ _ _ w1)
  rw [rounds_succ]
  go_wp2_with (at_builtin; refine wpList_append_room1 _ rfl _ _ 84 84 rfl 5 (.int .u8 0) 1 Tryz.underlying84 info5 w.heap.size 0 0 G rfl _ rfl 1 [.int .u8 0] s1 hr1 hcell hfz ?_)
  rw [rounds_succ]
  go_wp2_with fail
  go_ret
  refine ⟨.slice (some ⟨w.heap.size, 0, none⟩) 1 G, rfl, ⟨rfl, .inr ⟨w.heap.size, G, _, rfl, Nat.le_refl _, heap_setCell_same w1 w.heap.size 0 _ _ (.int .u8 0) hblk.out, hG1, hG2, by simpa using hcs, ?_⟩⟩, below_set hB1.out (Nat.le_refl _) _⟩
  obtain ⟨l⟩ := cur
  cases l with
  | nil => simp at hcs; omega
  | cons a r => simp
set_option maxHeartbeats 4000000 in
set_option maxRecDepth 100000 in
theorem put0 (w : World) : Calls Tryz.prog 55 #[.slice none 0 0, .int .u64 0] w fun e w' => ∃ v, e = .returned v ∧ w'.ownsRow w.heap.size 5 1 v 1 [.int .u8 0] ∧ Below w.heap.size w w' := by
  go_enter Tryz.func55, Tryz.ntmps55
  go_wp2_with fail
  refine wp_loop_rounds 1 ?_
  rw [rounds_succ]; go_wp2_with fail
  have hz : bits BinOp.and IntKind.u64 0 127 % 256 = 0 := by decide +kernel
  rw [hz]
  generalize hw2 : ((w.alloc (Obj.cells #[.int .u8 0, .int .u8 0, .int .u8 0, .int .u8 0, .int .u8 0, .int .u8 0, .int .u8 0, .int .u8 0, .int .u8 0, .int .u8 0] 110)).alloc (Obj.cells #[.slice none 0 0, .slice (some ⟨w.heap.size, 9, none⟩) 1 1] 84)) = w2
  have hB2 : Below w.heap.size w w2 := by subst hw2; exact ((Below.refl _ w).alloc (Nat.le_refl _) _).alloc (by simp) _
  have hb : w2.heap[w.heap.size + 1]? = some (.cells #[.slice none 0 0, .slice (some ⟨w.heap.size, 9, none⟩) 1 1] 84 (0, 0)) := by
    subst hw2
    have := heap_alloc_new (w.alloc (Obj.cells #[.int .u8 0, .int .u8 0, .int .u8 0, .int .u8 0, .int .u8 0, .int .u8 0, .int .u8 0, .int .u8 0, .int .u8 0, .int .u8 0] 110)) (Obj.cells #[.slice none 0 0, .slice (some ⟨w.heap.size, 9, none⟩) 1 1] 84)
    simpa using this
  have hg : w2.cell? ⟨w.heap.size, 9, none⟩ = some (.int .u8 0) := by
    subst hw2
    rw [Abs.cell_of ((Below.heap_alloc _ _ _ (by simp)).trans (heap_alloc_new w _))]; rfl
  refine (concat1 hb hg).mono ?_
  rintro e w3 ⟨v, rfl, hr, hB3⟩
  have hfin : w3.ownsRow w.heap.size 5 1 v 1 [.int .u8 0] ∧ Below w.heap.size w w3 := ⟨by
    obtain ⟨h1, h2 | ⟨g, cap, cur, h2, h3, h4⟩⟩ := hr
    · exact ⟨h1, .inl h2⟩
    · exact ⟨h1, .inr ⟨g, cap, cur, h2, Nat.le_trans hB2.size h3, h4⟩⟩, below_upG hB2 (Nat.le_refl _) hB3⟩
  replace hfin := Lib.hid hfin
  clear hr hB3 hb hg hB2
  go_wp2_with fail
  go_ret
  exact ⟨v, rfl, hfin.out⟩
set_option maxHeartbeats 4000000 in
set_option maxRecDepth 100000 in
theorem encode0 (w : World) (b : Option Addr) (cap : Nat) (hR : Calls Tryz.prog 17 #[.slice b 0 cap] w fun e w' => e = .returned (.bool true) ∧ Below w.heap.size w w') :
    Calls Tryz.prog 26 #[.slice b 0 cap] w fun e w' => e = .returned (.tuple #[.string ⟨#[0]⟩, .int .i64 0]) ∧ Below w.heap.size w w' := by
  replace hR := Lib.hid hR
  go_enter Tryz.func26, Tryz.ntmps26
  go_wp2_with fail
  refine hR.out.mono ?_
  rintro e w1 ⟨rfl, hB1⟩
  have CP := Lib.hid (put0 w1)
  replace hB1 := Lib.hid hB1
  go_wp2_with fail
  refine CP.out.mono ?_
  rintro e w2 ⟨v, rfl, hr, hB2⟩
  have hB := Lib.hid (below_upG hB1.out (Nat.le_refl _) hB2)
  obtain ⟨h1, ⟨_, h2⟩ | ⟨g, cp, cur, rfl, h3, h4, h5, h6, h7, h8⟩⟩ := hr
  · cases h2
  have hc0 : w2.cell? ⟨g, 0, none⟩ = some (.int .u8 0) := by
    rw [Abs.cell_of h4]
    obtain ⟨l⟩ := cur
    cases l with
    | nil => simp at h8
    | cons a r => simp at h8; simp [h8]
  have hcv : (convert 84 9 (.slice (some ⟨g, 0, none⟩) 1 cp)).run Tryz.prog w2 = .ok (.string ⟨#[0]⟩) w2 := run_convert_bytes_back (P := Tryz.prog) w2 84 9 5 ⟨g, 0, none⟩ cp [0] Tryz.underlying84 Tryz.underlying5 Tryz.underlying9 (fun j hj => by
    obtain rfl : j = 0 := by simpa using hj
    rw [Abs.add_none]; exact hc0)
  clear hB1 hB2 CP h8 h7 h4
  go_wp2_with fail
  refine wp_loop_rounds 1 ?_
  rw [rounds_succ]; go_wp2_with fail
  go_ret2
  exact ⟨rfl, hB.out⟩
end Go.Proofs.YtffojfcinkihnaaGreatDoor.Gr
