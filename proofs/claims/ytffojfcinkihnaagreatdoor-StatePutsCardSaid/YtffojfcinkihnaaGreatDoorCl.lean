/- slices.Clone at the values' types. -/
import Derived.Test.YtffojfcinkihnaaGreatDoorMG
import Derived.Test.YtffojfcinkihnaaGreatDoorMC
import Derived.WalkKit
import Derived.Deep.LoopGhost
import Derived.Lib.Walk
import Derived.Lib.SliceRun
import Derived.Lib.Hide
import Derived.Shelf.RegionOpenPlain
set_option linter.unusedVariables false
set_option linter.unusedSimpArgs false
set_option linter.unusedSectionVars false
set_option linter.deprecated false
set_option linter.unnecessarySimpa false
namespace Go.Proofs.YtffojfcinkihnaaGreatDoor.Abs
open Go.RowKit Go.Lib
set_option linter.unusedVariables false
theorem tabs_ok (t : Nat) (ti : TI) (h : τ.T t = some ti) : TyOK Tryz.prog t ti := tabOK_of rfl tabs t ti h
set_option maxHeartbeats 2000000 in
set_option maxRecDepth 100000 in
/-- slices.Clone: the same cells, in memory of its own. -/
theorem clone88 (u : Value) (L : List (List AV)) (w : World) (c : Cls) (h : Rep w c u (.sl 8 L)) (hbig : L.length ≤ 1073741824) :
    Calls Tryz.prog 88 #[u] w fun e w' => ∃ v' us, e = .returned v' ∧ CLL w c 8 us L ∧ w.grownBy w' none ∧ w'.ownsRow w.heap.size 54 8 v' L.length us := by
  obtain ⟨bo, cap, us, rfl, hcap, hnone, hC, hcell, hspot⟩ := cells_of_sl h
  have hlen := hC.1
  have hone : ∀ y ∈ us, y.oneCell' = true := hC.one
  obtain ⟨i0, z, hi, hz1, hz2, hz0, hzs, _⟩ := (tabs_ok 54 _ rfl).info
  have hC := Lib.hid hC
  have t22 : Tryz.prog.underlying 23 = some (.slice 54) := by kernel_rfl
  have q22 : ∀ (w : World) (a : Option Addr) (n c n' c' : Nat), (binOp .eql 23 (.slice a n c) (.slice none n' c')).run Tryz.prog w = .ok (.bool a.isNone) w := fun w a n c n' c' => Lib.run_eql_slice_nil w _ _ a n c n' c' t22
  have u22 : ∀ w, Sem.run Tryz.prog (underlying 23) w = .ok (TypeDesc.slice 54) w := run_underlying t22
  cases bo with
  | none =>
    obtain rfl := hnone rfl
    have hl0 : L.length = 0 := by omega
    have hus : us = [] := List.eq_nil_of_length_eq_zero (by omega)
    go_enter Tryz.func88, Tryz.ntmps88
    go_wp2
    go_ret
    exact ⟨_, rfl, us, hC.out, ⟨rfl, rfl, rfl, Nat.le_refl _, fun _ _ _ => rfl⟩, ⟨by rw [hus]; rfl, .inl ⟨rfl, rfl⟩⟩⟩
  | some p =>
    have hcell : Aside (∀ j u, us[j]? = some u → w.cell? (p.add j) = some u) := hcell p rfl
    clear hspot hnone h
    generalize hLn : L.length = n at *
    go_enter Tryz.func88, Tryz.ntmps88
    go_wp2_with (at_builtin; refine wpList_append_own _ rfl _ _ 23 rfl w.heap.size 54 i0 z 8 72 t22 hi hz0 hz1 hz2 hzs (by decide) _ _ _ rfl (World.ownsRow_made w #[] 0 (Nat.le_refl _) (Nat.zero_le _) (by simp)) p n cap us rfl ?qc1 ?qc2 ?qc3 ?qc4 ?qc5 ?qc6 ?_)
    · intro j u hj
      exact Lib.cell?_alloc_some _ (hcell.out j u hj)
    · exact hone
    · exact Nat.le_trans hbig (by decide)
    · omega
    · intro v' w1 hown hgrow hnil
      go_wp2
      go_ret
      refine ⟨v', us, rfl, hC.out, ⟨hgrow.os, hgrow.tape, hgrow.output, Nat.le_trans (by simp) hgrow.size, fun k hk _ => ?_⟩, by simpa using hown⟩
      rw [hgrow.block k (by simp; omega) (by simp [Value.ownBlock]; omega)]
      exact Below.heap_alloc w _ k hk
set_option maxHeartbeats 2000000 in
set_option maxRecDepth 100000 in
/-- slices.Clone: the same cells, in memory of its own. -/
theorem clone89 (u : Value) (L : List (List AV)) (w : World) (c : Cls) (h : Rep w c u (.sl 2 L)) (hbig : L.length ≤ 1073741824) :
    Calls Tryz.prog 89 #[u] w fun e w' => ∃ v' us, e = .returned v' ∧ CLL w c 2 us L ∧ w.grownBy w' none ∧ w'.ownsRow w.heap.size 78 2 v' L.length us := by
  obtain ⟨bo, cap, us, rfl, hcap, hnone, hC, hcell, hspot⟩ := cells_of_sl h
  have hlen := hC.1
  have hone : ∀ y ∈ us, y.oneCell' = true := hC.one
  obtain ⟨i0, z, hi, hz1, hz2, hz0, hzs, _⟩ := (tabs_ok 78 _ rfl).info
  have hC := Lib.hid hC
  have t22 : Tryz.prog.underlying 52 = some (.slice 78) := by kernel_rfl
  have q22 : ∀ (w : World) (a : Option Addr) (n c n' c' : Nat), (binOp .eql 52 (.slice a n c) (.slice none n' c')).run Tryz.prog w = .ok (.bool a.isNone) w := fun w a n c n' c' => Lib.run_eql_slice_nil w _ _ a n c n' c' t22
  have u22 : ∀ w, Sem.run Tryz.prog (underlying 52) w = .ok (TypeDesc.slice 78) w := run_underlying t22
  cases bo with
  | none =>
    obtain rfl := hnone rfl
    have hl0 : L.length = 0 := by omega
    have hus : us = [] := List.eq_nil_of_length_eq_zero (by omega)
    go_enter Tryz.func89, Tryz.ntmps89
    go_wp2
    go_ret
    exact ⟨_, rfl, us, hC.out, ⟨rfl, rfl, rfl, Nat.le_refl _, fun _ _ _ => rfl⟩, ⟨by rw [hus]; rfl, .inl ⟨rfl, rfl⟩⟩⟩
  | some p =>
    have hcell : Aside (∀ j u, us[j]? = some u → w.cell? (p.add j) = some u) := hcell p rfl
    clear hspot hnone h
    generalize hLn : L.length = n at *
    go_enter Tryz.func89, Tryz.ntmps89
    go_wp2_with (at_builtin; refine wpList_append_own _ rfl _ _ 52 rfl w.heap.size 78 i0 z 2 40 t22 hi hz0 hz1 hz2 hzs (by decide) _ _ _ rfl (World.ownsRow_made w #[] 0 (Nat.le_refl _) (Nat.zero_le _) (by simp)) p n cap us rfl ?qc1 ?qc2 ?qc3 ?qc4 ?qc5 ?qc6 ?_)
    · intro j u hj
      exact Lib.cell?_alloc_some _ (hcell.out j u hj)
    · exact hone
    · exact Nat.le_trans hbig (by decide)
    · omega
    · intro v' w1 hown hgrow hnil
      go_wp2
      go_ret
      refine ⟨v', us, rfl, hC.out, ⟨hgrow.os, hgrow.tape, hgrow.output, Nat.le_trans (by simp) hgrow.size, fun k hk _ => ?_⟩, by simpa using hown⟩
      rw [hgrow.block k (by simp; omega) (by simp [Value.ownBlock]; omega)]
      exact Below.heap_alloc w _ k hk
end Go.Proofs.YtffojfcinkihnaaGreatDoor.Abs
