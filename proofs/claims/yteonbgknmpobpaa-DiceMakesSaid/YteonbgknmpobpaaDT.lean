/- The texts that a die makes: plain functions of its state, and that the document's are the same. -/
import Derived.Test.YteonbgknmpobpaaDice
import Derived.Test.YteonbgknmpobpaaTxt
namespace Go.Proofs.Yteonbgknmpobpaa.DT
open Go.RowKit Go.Proofs.YteonbgknmpobpaaW.PrintWords Go.Proofs.YteonbgknmpobpaaW.PrintLast Go.Proofs.YteonbgknmpobpaaW.PrintMore
open Go.Proofs.Yteonbgknmpobpaa.Dice Go.Proofs.Yteonbgknmpobpaa.NT Go.Proofs.Yteonbgknmpobpaa.Txt
open Go.Proofs.Yteonbgknmpobpaa.Num (wrap_in wrap_succ)
set_option linter.unusedVariables false

abbrev B := ByteArray
def digitT (s n : Int) : B := ⟨(Lib.itoa (uptoV s n)).toArray⟩
def nm (k : Int) : B := if k = 0 then ⟨#[97]⟩ else if k = 1 then ⟨#[98]⟩ else if k = 2 then ⟨#[99]⟩ else ⟨#[100]⟩
def nameT (s : Int) : B := nm (uptoV s 4)
def partK (k s : Int) : Int × B :=
  if k = 0 then (uptoS s 10, digitT s 10) else if k = 1 then (uptoS s 4, nameT s) else if k = 2 then (s, ⟨#[99, 111, 109, 112, 117, 116, 101, 100, 32, 38, 32, 105, 110, 116]⟩)
  else if k = 3 then (s, ⟨#[49, 32, 124, 32, 50]⟩) else if k = 4 then (uptoS s 4, nameT s ++ ⟨#[46, 110]⟩) else (uptoS (uptoS s 10) 10, digitT s 10 ++ ⟨#[32, 43, 32]⟩ ++ digitT (uptoS s 10) 10)
def partV (s : Int) : Int × B := partK (uptoV s 6) (uptoS s 6)
def declK (k : Int) (n p : B) : B := if k = 0 then n ++ ⟨#[58, 32]⟩ ++ p ++ ⟨#[59]⟩ else ⟨#[114, 101, 115, 111, 117, 114, 99, 101, 32]⟩ ++ n ++ ⟨#[58, 32, 123, 110, 58, 32]⟩ ++ p ++ ⟨#[59, 125, 59]⟩
def declV (s : Int) (n : B) : Int × B := (uptoS (partV s).1 3, declK (uptoV (partV s).1 3) n (partV s).2)
def editK (s : Int) (f a b : B) : Int × B := ((declV (declV s a).1 b).1, ⟨#[101, 100, 105, 116, 32]⟩ ++ f ++ ⟨#[32]⟩ ++ (declV s a).2 ++ ⟨#[32]⟩ ++ (declV (declV s a).1 b).2)
def editV (s : Int) : Int × B := if uptoV s 2 = 1 then editK (uptoS s 2) ⟨#[115, 105, 116, 101]⟩ ⟨#[99]⟩ ⟨#[100]⟩ else editK (uptoS s 2) ⟨#[98, 97, 115, 101]⟩ ⟨#[97]⟩ ⟨#[98]⟩
def applyV (s : Int) : Int × B := (uptoS s 10, ⟨#[97, 112, 112, 108, 121, 32]⟩ ++ digitT s 10)
def fuseV (s : Int) : Int × B := (uptoS (uptoS s 6) 80, ⟨#[102, 117, 115, 101, 32]⟩ ++ digitT s 6 ++ ⟨#[32]⟩ ++ digitT (uptoS s 6) 80)
def wakeV (s : Int) : Int × B := (uptoS s 100, ⟨#[119, 97, 107, 101, 32]⟩ ++ digitT s 100)
def lineK (k s : Int) : Int × B := if k = 0 ∨ k = 1 ∨ k = 2 then editV s else if k = 3 ∨ k = 4 then (s, ⟨#[114, 117, 110]⟩) else if k = 5 then applyV s else if k = 6 then fuseV s else wakeV s
def lineV (s : Int) : Int × B := lineK (uptoV s 8) (uptoS s 8)

/-! ### Sizes -/
theorem upto_range (s n : Int) (h1 : 1 ≤ n) (h2 : n ≤ 1000) : 0 ≤ uptoV s n ∧ uptoV s n < n := by
  unfold uptoV
  rw [if_neg (by omega), IntWalk.u64_in n (by omega)]
  have hr : 0 ≤ rollV s := by
    unfold rollV rollW bits
    simp [IntKind.wrap, IntKind.bits, IntKind.signed]
    omega
  rw [Int.tmod_eq_emod_of_nonneg hr]
  have ha := Int.emod_nonneg (rollV s) (show n ≠ 0 by omega)
  have hb := Int.emod_lt_of_pos (rollV s) (show 0 < n by omega)
  rw [wrap_in (by omega)]
  exact ⟨ha, hb⟩
theorem sz (a b : B) : (a ++ b).size = a.size + b.size := ByteArray.size_append
theorem digit_sz (s n : Int) (h1 : 1 ≤ n) (h2 : n ≤ 1000) : (digitT s n).size ≤ 21 := by
  have := upto_range s n h1 h2
  unfold digitT
  rw [size_mk]
  exact itoa_small _ (uptoV s n).natAbs rfl (by omega)
theorem nm_sz (k : Int) : (nm k).size = 1 := by unfold nm; split; rfl; split; rfl; split <;> rfl
theorem partK_sz (k s : Int) : (partK k s).2.size ≤ 60 := by
  unfold partK
  have h1 := digit_sz s 10 (by omega) (by omega)
  have h2 := digit_sz (uptoS s 10) 10 (by omega) (by omega)
  have h3 : (nameT s).size = 1 := nm_sz _
  split
  · show (digitT s 10).size ≤ 60; omega
  split
  · show (nameT s).size ≤ 60; omega
  split
  · show (⟨#[99, 111, 109, 112, 117, 116, 101, 100, 32, 38, 32, 105, 110, 116]⟩ : B).size ≤ 60; decide
  split
  · show (⟨#[49, 32, 124, 32, 50]⟩ : B).size ≤ 60; decide
  split
  · show (nameT s ++ _).size ≤ 60; rw [sz, h3]; decide
  · show (digitT s 10 ++ _ ++ _).size ≤ 60
    rw [sz, sz]
    have : (⟨#[32, 43, 32]⟩ : B).size = 3 := rfl
    omega
theorem declK_sz (k : Int) (n p : B) (hn : n.size ≤ 1) (hp : p.size ≤ 60) : (declK k n p).size ≤ 90 := by
  unfold declK
  split
  · rw [sz, sz, sz]
    have h1 : (⟨#[58, 32]⟩ : B).size = 2 := rfl
    have h2 : (⟨#[59]⟩ : B).size = 1 := rfl
    omega
  · rw [sz, sz, sz, sz]
    have h1 : (⟨#[114, 101, 115, 111, 117, 114, 99, 101, 32]⟩ : B).size = 9 := rfl
    have h2 : (⟨#[58, 32, 123, 110, 58, 32]⟩ : B).size = 6 := rfl
    have h3 : (⟨#[59, 125, 59]⟩ : B).size = 3 := rfl
    omega
theorem decl_sz (s : Int) (n : B) (hn : n.size ≤ 1) : (declV s n).2.size ≤ 90 := declK_sz _ _ _ hn (partK_sz _ _)

/-! ### The document's -/
theorem upto_wf (n : Int) (h1 : 1 ≤ n) (h2 : n ≤ 1000) : (Lit.int .i64 n).wf = true := WalkArith.wf_i64 (by omega)
theorem refUpto_d (s n : Int) (h1 : 1 ≤ n) (h2 : n ≤ 1000) (w : World) : Calls Try.prog 13 #[.int .u64 s, .int .i64 n] w fun e w' => e = .returned (.tuple #[.int .u64 (uptoS s n), .int .i64 (uptoV s n)]) ∧ Drawn0 w w' :=
  Dice.refUpto_any s n w (upto_wf n h1 h2)
theorem below_drN {w W : World} (h : Below w.heap.size w W) (n : Nat) : Below w.heap.size w (W.drewN n) := pw_below_drewN h n
theorem below_go {w W w1 : World} {n : Nat} (h : Below w.heap.size w W) (k : Below (W.drewN n).heap.size (W.drewN n) w1) : Below w.heap.size w w1 :=
  below_then (pw_below_drewN h n) h.size k
theorem below_on {w W w1 : World} (h : Below w.heap.size w W) (k : Below W.heap.size W w1) : Below w.heap.size w w1 := below_then h h.size k
theorem tup_ret {a b : Int} {x y : B} (h : (a, x) = (b, y)) : Ending.returned (.tuple #[.int .u64 a, .string x]) = .returned (.tuple #[.int .u64 b, .string y]) := by
  injection h with h1 h2; rw [h1, h2]
theorem upto_bd (s n : Int) (h1 : 1 ≤ n) (h2 : n ≤ 1000) : -9223372036854775808 ≤ uptoV s n ∧ uptoV s n ≤ 9223372036854775807 := by
  have := upto_range s n h1 h2; omega
set_option maxHeartbeats 400000 in
theorem refDigit_any (s n : Int) (h1 : 1 ≤ n) (h2 : n ≤ 1000) (w : World) : Calls Try.prog 47 #[.int .u64 s, .int .i64 n] w fun e w' => e = .returned (.tuple #[.int .u64 (uptoS s n), .string (digitT s n)]) ∧ Below w.heap.size w w' := by
  go_enter Try.func47, Try.ntmps47
  go_wp2_with fail
  refine (refUpto_d s n h1 h2 _).mono ?_
  rintro e w1 ⟨rfl, ⟨n1, rfl⟩⟩
  go_wp2_with fail
  refine (refText_any _ _ (upto_bd s n h1 h2)).mono ?_
  rintro e w2 ⟨rfl, hB⟩
  have HB := Lib.hid (below_dr hB)
  clear hB
  go_wp2_with fail
  go_ret2
  exact ⟨rfl, HB.out⟩
set_option maxHeartbeats 400000 in
theorem refName_any (s : Int) (w : World) : Calls Try.prog 55 #[.int .u64 s] w fun e w' => e = .returned (.tuple #[.int .u64 (uptoS s 4), .string (nameT s)]) ∧ Drawn0 w w' := by
  have hr := upto_range s 4 (by omega) (by omega)
  have c1 := fun w => refUpto_d s 4 (by omega) (by omega) w
  unfold nameT
  generalize uptoS s 4 = t at c1
  generalize uptoV s 4 = k at hr c1
  have C1 := Lib.hid c1
  clear c1
  have x0 : (⟨#[97, 98, 99, 100]⟩ : B).extract 0 1 = ⟨#[97]⟩ := by decide +kernel
  have x1 : (⟨#[97, 98, 99, 100]⟩ : B).extract 1 2 = ⟨#[98]⟩ := by decide +kernel
  have x2 : (⟨#[97, 98, 99, 100]⟩ : B).extract 2 3 = ⟨#[99]⟩ := by decide +kernel
  have x3 : (⟨#[97, 98, 99, 100]⟩ : B).extract 3 4 = ⟨#[100]⟩ := by decide +kernel
  rcases (by omega : k = 0 ∨ k = 1 ∨ k = 2 ∨ k = 3) with rfl | rfl | rfl | rfl
  all_goals
    clear hr
    go_enter Try.func55, Try.ntmps55
    go_wp2_with fail
    refine (C1.out _).mono ?_
    rintro e w1 ⟨rfl, ⟨n1, rfl⟩⟩
    go_wp2_with fail
    go_quiet (fail)
    go_wp2_with fail
    go_ret2
    exact ⟨rfl, by repeat (first | exact Drawn0.refl _ | apply Drawn0.step)⟩
set_option maxHeartbeats 1000000 in
theorem refPart_any (s : Int) (w : World) : Calls Try.prog 51 #[.int .u64 s] w fun e w' => e = .returned (.tuple #[.int .u64 (partV s).1, .string (partV s).2]) ∧ Below w.heap.size w w' := by
  have hr := upto_range s 6 (by omega) (by omega)
  have c1 := fun w => refUpto_d s 6 (by omega) (by omega) w
  unfold partV
  generalize uptoS s 6 = t at c1
  generalize uptoV s 6 = k at hr c1
  have d1 := digit_sz t 10 (by omega) (by omega)
  have d2 := digit_sz (uptoS t 10) 10 (by omega) (by omega)
  have d3 : (nameT t).size = 1 := nm_sz _
  have C1 := Lib.hid c1
  have C2 := Lib.hid fun w => refDigit_any t 10 (by omega) (by omega) w
  have C3 := Lib.hid fun w => refDigit_any (uptoS t 10) 10 (by omega) (by omega) w
  have C4 := Lib.hid fun w => refName_any t w
  clear c1
  rcases (by omega : k = 0 ∨ k = 1 ∨ k = 2 ∨ k = 3 ∨ k = 4 ∨ k = 5) with rfl | rfl | rfl | rfl | rfl | rfl
  · go_enter Try.func51, Try.ntmps51
    go_wp2_with fail
    refine (C1.out _).mono ?_
    rintro e w1 ⟨rfl, ⟨n1, rfl⟩⟩
    go_wp2_with fail
    refine (C2.out _).mono ?_
    rintro e w2 ⟨rfl, hB⟩
    go_wp2_with fail
    go_ret2
    exact ⟨rfl, below_dr hB⟩
  · go_enter Try.func51, Try.ntmps51
    go_wp2_with fail
    refine (C1.out _).mono ?_
    rintro e w1 ⟨rfl, ⟨n1, rfl⟩⟩
    go_wp2_with fail
    refine (C4.out _).mono ?_
    rintro e w2 ⟨rfl, ⟨n2, rfl⟩⟩
    go_wp2_with fail
    go_ret2
    exact ⟨rfl, below_drN (Below.refl _ _) _⟩
  · go_enter Try.func51, Try.ntmps51
    go_wp2_with fail
    refine (C1.out _).mono ?_
    rintro e w1 ⟨rfl, ⟨n1, rfl⟩⟩
    go_wp2_with fail
    go_ret2
    exact ⟨rfl, below_drN (Below.refl _ _) _⟩
  · go_enter Try.func51, Try.ntmps51
    go_wp2_with fail
    refine (C1.out _).mono ?_
    rintro e w1 ⟨rfl, ⟨n1, rfl⟩⟩
    go_wp2_with fail
    go_ret2
    exact ⟨rfl, below_drN (Below.refl _ _) _⟩
  · have hs : ¬ 9223372036854775807 < (nameT t).size + 2 := by omega
    clear d3
    go_enter Try.func51, Try.ntmps51
    go_wp2_with fail
    refine (C1.out _).mono ?_
    rintro e w1 ⟨rfl, ⟨n1, rfl⟩⟩
    go_wp2_with fail
    refine (C4.out _).mono ?_
    rintro e w2 ⟨rfl, ⟨n2, rfl⟩⟩
    go_wp2_with fail
    go_ret2
    exact ⟨rfl, below_drN (Below.refl _ _) _⟩
  · go_enter Try.func51, Try.ntmps51
    go_wp2_with fail
    refine (C1.out _).mono ?_
    rintro e w1 ⟨rfl, ⟨n1, rfl⟩⟩
    go_wp2_with fail
    refine (C2.out _).mono ?_
    rintro e w2 ⟨rfl, hB⟩
    have HB := Lib.hid (below_dr hB)
    clear hB
    go_wp2_with fail
    refine (C3.out _).mono ?_
    rintro e w3 ⟨rfl, hB⟩
    have HB3 := Lib.hid (below_on HB.out hB)
    clear hB
    go_wp2_with fail
    go_ret2
    exact ⟨rfl, HB3.out⟩

set_option maxHeartbeats 1000000 in
theorem refDecl_any (s : Int) (n : B) (hn : n.size ≤ 1) (w : World) : Calls Try.prog 46 #[.int .u64 s, .string n] w fun e w' => e = .returned (.tuple #[.int .u64 (declV s n).1, .string (declV s n).2]) ∧ Below w.heap.size w w' := by
  have c1 := fun w => refPart_any s w
  have hp : (partV s).2.size ≤ 60 := partK_sz _ _
  have c2 := fun w => refUpto_d (partV s).1 3 (by omega) (by omega) w
  unfold declV
  generalize partV s = p at c1 c2 hp
  obtain ⟨t, p⟩ := p
  simp only at c1 c2 hp
  show Calls Try.prog 46 #[.int .u64 s, .string n] w fun e w' => e = .returned (.tuple #[.int .u64 (uptoS t 3), .string (declK (uptoV t 3) n p)]) ∧ Below w.heap.size w w'
  generalize uptoS t 3 = u at c2
  generalize uptoV t 3 = k at c2
  have C1 := Lib.hid c1
  have C2 := Lib.hid c2
  clear c1 c2
  by_cases hk : k = 0
  · have HK : Hid (declK k n p = n ++ ⟨#[58, 32]⟩ ++ p ++ ⟨#[59]⟩) := by unfold declK; rw [if_pos hk]; exact rfl
    have hk1 : (k == 0) = true := beq_iff_eq.mpr hk
    clear hk
    go_enter Try.func46, Try.ntmps46
    go_wp2_with fail
    refine (C1.out _).mono ?_
    rintro e w1 ⟨rfl, hB⟩
    have HB := Lib.hid hB
    clear hB
    go_wp2_with fail
    refine (C2.out _).mono ?_
    rintro e w2 ⟨rfl, ⟨n2, rfl⟩⟩
    go_wp2_with fail
    go_ret2
    exact ⟨by rw [HK.out]; rfl, below_drN HB.out _⟩
  · have HK : Hid (declK k n p = ⟨#[114, 101, 115, 111, 117, 114, 99, 101, 32]⟩ ++ n ++ ⟨#[58, 32, 123, 110, 58, 32]⟩ ++ p ++ ⟨#[59, 125, 59]⟩) := by unfold declK; rw [if_neg hk]; exact rfl
    have hk1 : (k == 0) = false := beq_eq_false_iff_ne.mpr hk
    clear hk
    go_enter Try.func46, Try.ntmps46
    go_wp2_with fail
    refine (C1.out _).mono ?_
    rintro e w1 ⟨rfl, hB⟩
    have HB := Lib.hid hB
    clear hB
    go_wp2_with fail
    refine (C2.out _).mono ?_
    rintro e w2 ⟨rfl, ⟨n2, rfl⟩⟩
    go_wp2_with fail
    go_ret2
    exact ⟨by rw [HK.out]; rfl, below_drN HB.out _⟩
set_option maxHeartbeats 1000000 in
theorem refEdit1 (s t k : Int) (w : World) (C1 : Hid (∀ w, Calls Try.prog 13 #[.int .u64 s, .int .i64 8] w fun e w' => e = .returned (.tuple #[.int .u64 t, .int .i64 k]) ∧ Drawn0 w w')) (hk : k = 0 ∨ k = 1 ∨ k = 2) (hc : uptoV t 2 = 1) : Calls Try.prog 40 #[.int .u64 s] w fun e w' => e = .returned (.tuple #[.int .u64 (editV t).1, .string (editV t).2]) ∧ Below w.heap.size w w' := by
  have c2 := fun w => refUpto_d t 2 (by omega) (by omega) w
  unfold editV editK
  generalize uptoS t 2 = u at c2
  generalize uptoV t 2 = c at c2 hc
  have C2 := Lib.hid c2
  clear c2
  have d1 := decl_sz u ⟨#[99]⟩ (by decide)
  have d2 := decl_sz (declV u ⟨#[99]⟩).1 ⟨#[100]⟩ (by decide)
  have c3 := fun w => refDecl_any u ⟨#[99]⟩ (by decide) w
  have c4 := fun w => refDecl_any (declV u ⟨#[99]⟩).1 ⟨#[100]⟩ (by decide) w
  rw [if_pos hc]
  generalize declV (declV u ⟨#[99]⟩).1 ⟨#[100]⟩ = y at d2 c4
  generalize declV u ⟨#[99]⟩ = x at d1 c3 c4
  have C3 := Lib.hid c3
  have C4 := Lib.hid c4
  have hc1 : (c == 1) = true := beq_iff_eq.mpr hc
  clear c3 c4 hc
  rcases hk with rfl | rfl | rfl
  all_goals as_aux_lemma =>
    go_enter Try.func40, Try.ntmps40
    go_wp2_with fail
    refine (C1.out _).mono ?_
    rintro e w1 ⟨rfl, ⟨n1, rfl⟩⟩
    go_wp2_with fail
    refine (C2.out _).mono ?_
    rintro e w2 ⟨rfl, ⟨n2, rfl⟩⟩
    go_wp2_with fail
    refine (C3.out _).mono ?_
    rintro e w3 ⟨rfl, hB⟩
    have HB := Lib.hid (below_dr hB)
    clear hB
    go_wp2_with fail
    refine (C4.out _).mono ?_
    rintro e w4 ⟨rfl, hB⟩
    have HB4 := Lib.hid (below_on HB.out hB)
    clear hB
    go_wp2_with fail
    go_ret2
    exact ⟨rfl, HB4.out⟩
set_option maxHeartbeats 1000000 in
theorem refEdit0 (s t k : Int) (w : World) (C1 : Hid (∀ w, Calls Try.prog 13 #[.int .u64 s, .int .i64 8] w fun e w' => e = .returned (.tuple #[.int .u64 t, .int .i64 k]) ∧ Drawn0 w w')) (hk : k = 0 ∨ k = 1 ∨ k = 2) (hc : ¬ uptoV t 2 = 1) : Calls Try.prog 40 #[.int .u64 s] w fun e w' => e = .returned (.tuple #[.int .u64 (editV t).1, .string (editV t).2]) ∧ Below w.heap.size w w' := by
  have c2 := fun w => refUpto_d t 2 (by omega) (by omega) w
  unfold editV editK
  generalize uptoS t 2 = u at c2
  generalize uptoV t 2 = c at c2 hc
  have C2 := Lib.hid c2
  clear c2
  have d1 := decl_sz u ⟨#[97]⟩ (by decide)
  have d2 := decl_sz (declV u ⟨#[97]⟩).1 ⟨#[98]⟩ (by decide)
  have c3 := fun w => refDecl_any u ⟨#[97]⟩ (by decide) w
  have c4 := fun w => refDecl_any (declV u ⟨#[97]⟩).1 ⟨#[98]⟩ (by decide) w
  rw [if_neg hc]
  generalize declV (declV u ⟨#[97]⟩).1 ⟨#[98]⟩ = y at d2 c4
  generalize declV u ⟨#[97]⟩ = x at d1 c3 c4
  have C3 := Lib.hid c3
  have C4 := Lib.hid c4
  have hc1 : (c == 1) = false := beq_eq_false_iff_ne.mpr hc
  clear c3 c4 hc
  rcases hk with rfl | rfl | rfl
  all_goals as_aux_lemma =>
    go_enter Try.func40, Try.ntmps40
    go_wp2_with fail
    refine (C1.out _).mono ?_
    rintro e w1 ⟨rfl, ⟨n1, rfl⟩⟩
    go_wp2_with fail
    refine (C2.out _).mono ?_
    rintro e w2 ⟨rfl, ⟨n2, rfl⟩⟩
    go_wp2_with fail
    refine (C3.out _).mono ?_
    rintro e w3 ⟨rfl, hB⟩
    have HB := Lib.hid (below_dr hB)
    clear hB
    go_wp2_with fail
    refine (C4.out _).mono ?_
    rintro e w4 ⟨rfl, hB⟩
    have HB4 := Lib.hid (below_on HB.out hB)
    clear hB
    go_wp2_with fail
    go_ret2
    exact ⟨rfl, HB4.out⟩
set_option maxHeartbeats 1000000 in
theorem refRun (s t k : Int) (w : World) (C1 : Hid (∀ w, Calls Try.prog 13 #[.int .u64 s, .int .i64 8] w fun e w' => e = .returned (.tuple #[.int .u64 t, .int .i64 k]) ∧ Drawn0 w w')) (hk : k = 3 ∨ k = 4) : Calls Try.prog 40 #[.int .u64 s] w fun e w' => e = .returned (.tuple #[.int .u64 (((t, ⟨#[114, 117, 110]⟩) : Int × B)).1, .string (((t, ⟨#[114, 117, 110]⟩) : Int × B)).2]) ∧ Below w.heap.size w w' := by
  rcases hk with rfl | rfl
  all_goals as_aux_lemma =>
    go_enter Try.func40, Try.ntmps40
    go_wp2_with fail
    refine (C1.out _).mono ?_
    rintro e w1 ⟨rfl, ⟨n1, rfl⟩⟩
    go_wp2_with fail
    go_ret2
    exact ⟨rfl, below_drN (Below.refl _ _) _⟩
set_option maxHeartbeats 1000000 in
theorem refApply (s t k : Int) (w : World) (C1 : Hid (∀ w, Calls Try.prog 13 #[.int .u64 s, .int .i64 8] w fun e w' => e = .returned (.tuple #[.int .u64 t, .int .i64 k]) ∧ Drawn0 w w')) (hk : k = 5) : Calls Try.prog 40 #[.int .u64 s] w fun e w' => e = .returned (.tuple #[.int .u64 (applyV t).1, .string (applyV t).2]) ∧ Below w.heap.size w w' := by
  subst hk
  have d1 := digit_sz t 10 (by omega) (by omega)
  have C2 := Lib.hid fun w => refDigit_any t 10 (by omega) (by omega) w
  unfold applyV
  generalize uptoS t 10 = x at C2
  generalize digitT t 10 = y at C2 d1
  go_enter Try.func40, Try.ntmps40
  go_wp2_with fail
  refine (C1.out _).mono ?_
  rintro e w1 ⟨rfl, ⟨n1, rfl⟩⟩
  go_wp2_with fail
  refine (C2.out _).mono ?_
  rintro e w2 ⟨rfl, hB⟩
  have HB := Lib.hid (below_dr hB)
  clear hB
  go_wp2_with fail
  go_ret2
  exact ⟨rfl, HB.out⟩
set_option maxHeartbeats 1000000 in
theorem refWake (s t k : Int) (w : World) (C1 : Hid (∀ w, Calls Try.prog 13 #[.int .u64 s, .int .i64 8] w fun e w' => e = .returned (.tuple #[.int .u64 t, .int .i64 k]) ∧ Drawn0 w w')) (hk : k = 7) : Calls Try.prog 40 #[.int .u64 s] w fun e w' => e = .returned (.tuple #[.int .u64 (wakeV t).1, .string (wakeV t).2]) ∧ Below w.heap.size w w' := by
  subst hk
  have d1 := digit_sz t 100 (by omega) (by omega)
  have C2 := Lib.hid fun w => refDigit_any t 100 (by omega) (by omega) w
  unfold wakeV
  generalize uptoS t 100 = x at C2
  generalize digitT t 100 = y at C2 d1
  go_enter Try.func40, Try.ntmps40
  go_wp2_with fail
  refine (C1.out _).mono ?_
  rintro e w1 ⟨rfl, ⟨n1, rfl⟩⟩
  go_wp2_with fail
  refine (C2.out _).mono ?_
  rintro e w2 ⟨rfl, hB⟩
  have HB := Lib.hid (below_dr hB)
  clear hB
  go_wp2_with fail
  go_ret2
  exact ⟨rfl, HB.out⟩
set_option maxHeartbeats 1000000 in
theorem refFuse (s t k : Int) (w : World) (C1 : Hid (∀ w, Calls Try.prog 13 #[.int .u64 s, .int .i64 8] w fun e w' => e = .returned (.tuple #[.int .u64 t, .int .i64 k]) ∧ Drawn0 w w')) (hk : k = 6) : Calls Try.prog 40 #[.int .u64 s] w fun e w' => e = .returned (.tuple #[.int .u64 (fuseV t).1, .string (fuseV t).2]) ∧ Below w.heap.size w w' := by
  subst hk
  have d1 := digit_sz t 6 (by omega) (by omega)
  have d2 := digit_sz (uptoS t 6) 80 (by omega) (by omega)
  have C2 := Lib.hid fun w => refDigit_any t 6 (by omega) (by omega) w
  have C3 := Lib.hid fun w => refDigit_any (uptoS t 6) 80 (by omega) (by omega) w
  unfold fuseV
  generalize uptoS (uptoS t 6) 80 = x2 at C3
  generalize digitT (uptoS t 6) 80 = y2 at C3 d2
  generalize uptoS t 6 = x at C2 C3
  generalize digitT t 6 = y at C2 d1
  go_enter Try.func40, Try.ntmps40
  go_wp2_with fail
  refine (C1.out _).mono ?_
  rintro e w1 ⟨rfl, ⟨n1, rfl⟩⟩
  go_wp2_with fail
  refine (C2.out _).mono ?_
  rintro e w2 ⟨rfl, hB⟩
  have HB := Lib.hid (below_dr hB)
  clear hB
  go_wp2_with fail
  refine (C3.out _).mono ?_
  rintro e w3 ⟨rfl, hB⟩
  have HB3 := Lib.hid (below_on HB.out hB)
  clear hB
  go_wp2_with fail
  go_ret2
  exact ⟨rfl, HB3.out⟩
theorem refLine_any (s : Int) (w : World) : Calls Try.prog 40 #[.int .u64 s] w fun e w' => e = .returned (.tuple #[.int .u64 (lineV s).1, .string (lineV s).2]) ∧ Below w.heap.size w w' := by
  have hr := upto_range s 8 (by omega) (by omega)
  have C1 := Lib.hid fun w => refUpto_d s 8 (by omega) (by omega) w
  unfold lineV lineK
  generalize uptoS s 8 = t at C1
  generalize uptoV s 8 = k at hr C1
  by_cases h1 : k = 0 ∨ k = 1 ∨ k = 2
  · rw [if_pos h1]
    by_cases hc : uptoV t 2 = 1
    · exact refEdit1 s t k w C1 h1 hc
    · exact refEdit0 s t k w C1 h1 hc
  · rw [if_neg h1]
    by_cases h2 : k = 3 ∨ k = 4
    · rw [if_pos h2]; exact refRun s t k w C1 h2
    · rw [if_neg h2]
      by_cases h3 : k = 5
      · rw [if_pos h3]; exact refApply s t k w C1 h3
      · rw [if_neg h3]
        by_cases h4 : k = 6
        · rw [if_pos h4]; exact refFuse s t k w C1 h4
        · rw [if_neg h4]; exact refWake s t k w C1 (by omega)

/-! ### The whole script -/
def stG (f : Int → Int × B) (s : Int) : Nat → Int
  | 0 => s
  | n + 1 => (f (stG f s n)).1
def preG (f : Int → Int × B) (s : Int) : Nat → B
  | 0 => ⟨#[102, 117, 101, 108, 32, 54, 48, 10]⟩
  | n + 1 => preG f s n ++ (f (stG f s n)).2 ++ ⟨#[10]⟩
theorem stG_succ (f : Int → Int × B) (s : Int) (n : Nat) : stG f s (n + 1) = (f (stG f s n)).1 := by rw [stG]
theorem preG_succ (f : Int → Int × B) (s : Int) (n : Nat) : preG f s (n + 1) = preG f s n ++ (f (stG f s n)).2 ++ ⟨#[10]⟩ := by rw [preG]
def stAt (s : Int) (n : Nat) : Int := stG lineV s n
def pre (s : Int) (n : Nat) : B := preG lineV s n
theorem stAt_zero (s : Int) : stAt s 0 = s := by unfold stAt; rw [stG]
theorem pre_zero (s : Int) : pre s 0 = ⟨#[102, 117, 101, 108, 32, 54, 48, 10]⟩ := by unfold pre; rw [preG]
theorem stAt_succ (s : Int) (n : Nat) : stAt s (n + 1) = (lineV (stAt s n)).1 := stG_succ lineV s n
theorem pre_succ (s : Int) (n : Nat) : pre s (n + 1) = pre s n ++ (lineV (stAt s n)).2 ++ ⟨#[10]⟩ := preG_succ lineV s n
def tailT : B := ⟨#[119, 97, 107, 101, 10, 114, 117, 110, 10, 97, 112, 112, 108, 121, 32, 49, 10, 114, 117, 110, 10, 106, 117, 100, 103, 101, 10]⟩
def scriptV (s : Int) (n : Nat) : B := pre s n ++ tailT
def times (steps : Int) : Nat := (if steps > 100 then 100 else steps).toNat
theorem edit_sz (s : Int) : (editV s).2.size ≤ 200 := by
  have e1 : (⟨#[101, 100, 105, 116, 32]⟩ : B).size = 5 := rfl
  have e2 : (⟨#[115, 105, 116, 101]⟩ : B).size = 4 := rfl
  have e3 : (⟨#[32]⟩ : B).size = 1 := rfl
  have e4 : (⟨#[98, 97, 115, 101]⟩ : B).size = 4 := rfl
  unfold editV editK
  split
  · have d1 := decl_sz (uptoS s 2) ⟨#[99]⟩ (by decide)
    have d2 := decl_sz (declV (uptoS s 2) ⟨#[99]⟩).1 ⟨#[100]⟩ (by decide)
    simp only [sz]; omega
  · have d1 := decl_sz (uptoS s 2) ⟨#[97]⟩ (by decide)
    have d2 := decl_sz (declV (uptoS s 2) ⟨#[97]⟩).1 ⟨#[98]⟩ (by decide)
    simp only [sz]; omega
theorem line_sz (s : Int) : (lineV s).2.size ≤ 200 := by
  unfold lineV lineK
  generalize uptoS s 8 = t
  have e5 : (⟨#[97, 112, 112, 108, 121, 32]⟩ : B).size = 6 := rfl
  have e6 : (⟨#[102, 117, 115, 101, 32]⟩ : B).size = 5 := rfl
  have e7 : (⟨#[32]⟩ : B).size = 1 := rfl
  have e8 : (⟨#[119, 97, 107, 101, 32]⟩ : B).size = 5 := rfl
  split
  · exact edit_sz t
  split
  · show (⟨#[114, 117, 110]⟩ : B).size ≤ 200; decide
  split
  · have d1 := digit_sz t 10 (by omega) (by omega)
    show (_ ++ digitT t 10).size ≤ 200; rw [sz]; omega
  split
  · have d1 := digit_sz t 6 (by omega) (by omega)
    have d2 := digit_sz (uptoS t 6) 80 (by omega) (by omega)
    show (_ ++ digitT t 6 ++ _ ++ digitT (uptoS t 6) 80).size ≤ 200; rw [sz, sz, sz]; omega
  · have d1 := digit_sz t 100 (by omega) (by omega)
    show (_ ++ digitT t 100).size ≤ 200; rw [sz]; omega
theorem assoc (a b c : B) : a ++ b ++ c = a ++ (b ++ c) := ByteArray.append_assoc
theorem pre_sz (s : Int) (n : Nat) : (pre s n).size ≤ 8 + 201 * n := by
  induction n with
  | zero => rw [pre_zero]; decide
  | succ n ih =>
    have h := line_sz (stAt s n)
    have e : (⟨#[10]⟩ : B).size = 1 := rfl
    rw [pre_succ, sz, sz]; omega
theorem i64_eq {a b : Int} (h : a = b) : Value.int .i64 a = .int .i64 b := by rw [h]
def RL (s : Int) (w : World) (a o i : Value) (wr : World) (m : Nat) : Prop :=
  ∃ k : Nat, k ≤ m ∧ a = .int .u64 (stAt s k) ∧ o = .string (pre s k) ∧ i = .int .i64 k ∧ Aside0 (Below w.heap.size w wr)
set_option maxHeartbeats 1000000 in
theorem refScript_nat (s : Int) (m : Nat) (hm : m ≤ 100) (w : World) (st : Int) (hst : st = (m : Int)) : Calls Try.prog 30 #[.int .u64 s, .int .i64 st] w fun e w' => e = .returned (.string (scriptV s m)) ∧ Below w.heap.size w w' := by
  subst hst
  go_enter Try.func30, Try.ntmps30
  go_wp2_with fail
  go_loopw [0, 5, 6] (fun a o i wr => RL s w a o i wr m) (fun _ _ i _ => m - (intOf i).toNat)
  case atStart => exact ⟨0, Nat.zero_le _, by rw [stAt_zero], by rw [pre_zero], rfl, ⟨Below.refl _ _⟩⟩
  case round =>
    obtain ⟨k, hk, rfl, rfl, rfl, HB⟩ := hrel
    have hp := pre_sz s k
    by_cases hlt : k < m
    · have hl := line_sz (stAt s k)
      have C1 := Lib.hid fun w => refLine_any (stAt s k) w
      have HX : Hid (stAt s (k + 1) = (lineV (stAt s k)).1 ∧ pre s (k + 1) = pre s k ++ (lineV (stAt s k)).2 ++ ⟨#[10]⟩) := Lib.hid ⟨stAt_succ s k, pre_succ s k⟩
      generalize lineV (stAt s k) = x at hl C1 HX
      generalize pre s k = y at hp HX
      have hs1 : y.size + x.2.size ≤ 100000 := by omega
      go_wp2_with fail
      refine (C1.out _).mono ?_
      rintro e w1 ⟨rfl, hB⟩
      have HB2 := Aside0.mk (below_on HB.out hB)
      clear hB
      go_wp2_with fail
      go_roundw
      case rel => exact ⟨k + 1, by omega, by rw [HX.out.1], by rw [HX.out.2], i64_eq (by omega), HB2⟩
      case measure => simp [intOf]; omega
    · obtain rfl : k = m := by omega
      have HX : Hid (scriptV s k = pre s k ++ tailT) := Lib.hid rfl
      generalize pre s k = y at hp HX
      go_wp2_with fail
      go_ret
      exact ⟨by rw [HX.out]; rfl, HB.out⟩
set_option maxHeartbeats 1000000 in
theorem refScript_big (s : Int) (w : World) (st : Int) (hst : 100 < st) : Calls Try.prog 30 #[.int .u64 s, .int .i64 st] w fun e w' => e = .returned (.string (scriptV s 100)) ∧ Below w.heap.size w w' := by
  go_enter Try.func30, Try.ntmps30
  go_wp2_with fail
  go_loopw [0, 5, 6] (fun a o i wr => RL s w a o i wr 100) (fun _ _ i _ => 100 - (intOf i).toNat)
  case atStart => exact ⟨0, Nat.zero_le _, by rw [stAt_zero], by rw [pre_zero], rfl, ⟨Below.refl _ _⟩⟩
  case round =>
    obtain ⟨k, hk, rfl, rfl, rfl, HB⟩ := hrel
    have hp := pre_sz s k
    by_cases hlt : k < 100
    · have hl := line_sz (stAt s k)
      have C1 := Lib.hid fun w => refLine_any (stAt s k) w
      have HX : Hid (stAt s (k + 1) = (lineV (stAt s k)).1 ∧ pre s (k + 1) = pre s k ++ (lineV (stAt s k)).2 ++ ⟨#[10]⟩) := Lib.hid ⟨stAt_succ s k, pre_succ s k⟩
      generalize lineV (stAt s k) = x at hl C1 HX
      generalize pre s k = y at hp HX
      have hs1 : y.size + x.2.size ≤ 100000 := by omega
      go_wp2_with fail
      refine (C1.out _).mono ?_
      rintro e w1 ⟨rfl, hB⟩
      have HB2 := Aside0.mk (below_on HB.out hB)
      clear hB
      go_wp2_with fail
      go_roundw
      case rel => exact ⟨k + 1, by omega, by rw [HX.out.1], by rw [HX.out.2], i64_eq (by omega), HB2⟩
      case measure => simp [intOf]; omega
    · obtain rfl : k = 100 := by omega
      have HX : Hid (scriptV s 100 = pre s 100 ++ tailT) := Lib.hid rfl
      generalize pre s 100 = y at hp HX
      go_wp2_with fail
      go_ret
      exact ⟨by rw [HX.out]; rfl, HB.out⟩
set_option maxHeartbeats 1000000 in
theorem refScript_neg (s : Int) (w : World) (st : Int) (hst : st < 0) : Calls Try.prog 30 #[.int .u64 s, .int .i64 st] w fun e w' => e = .returned (.string (scriptV s 0)) ∧ Below w.heap.size w w' := by
  go_enter Try.func30, Try.ntmps30
  go_wp2_with fail
  go_loopw [0, 5, 6] (fun a o i wr => RL s w a o i wr 0) (fun _ _ i _ => 0)
  case atStart => exact ⟨0, Nat.zero_le _, by rw [stAt_zero], by rw [pre_zero], rfl, ⟨Below.refl _ _⟩⟩
  case round =>
    obtain ⟨k, hk, rfl, rfl, rfl, HB⟩ := hrel
    obtain rfl : k = 0 := by omega
    have HX : Hid (scriptV s 0 = pre s 0 ++ tailT) := Lib.hid rfl
    have hp := pre_sz s 0
    generalize pre s 0 = y at hp HX
    go_wp2_with fail
    go_ret
    exact ⟨by rw [HX.out]; rfl, HB.out⟩
theorem refScript_any (s st : Int) (w : World) : Calls Try.prog 30 #[.int .u64 s, .int .i64 st] w fun e w' => e = .returned (.string (scriptV s (times st))) ∧ Below w.heap.size w w' := by
  unfold times
  by_cases h : st > 100
  · rw [if_pos h]; exact refScript_big s w st h
  · rw [if_neg h]
    by_cases h0 : st < 0
    · rw [show st.toNat = 0 by omega]; exact refScript_neg s w st h0
    · exact refScript_nat s st.toNat (by omega) w st (by omega)
end Go.Proofs.Yteonbgknmpobpaa.DT
