/- What is written is read again; sums and differences; the walks of NumBack and NumSums. -/
import Derived.Test.YteonbgknmpobpaaTxt
namespace Go.Proofs.Yteonbgknmpobpaa.Back
open Go.RowKit Go.Proofs.YteonbgknmpobpaaW.PrintWords Go.Proofs.YteonbgknmpobpaaW.PrintLast Go.Proofs.YteonbgknmpobpaaW.PrintMore
open Go.Proofs.Yteonbgknmpobpaa.PNumTexts Go.Proofs.Yteonbgknmpobpaa.Num Go.Proofs.Yteonbgknmpobpaa.NT Go.Proofs.Yteonbgknmpobpaa.Txt
set_option linter.unusedVariables false

/-! ### Digits and their number -/
theorem dg_toNat {d : Nat} (h : d < 10) : (UInt8.ofNat (48 + d)).toNat = 48 + d := by
  rw [UInt8.toNat_ofNat']; omega
theorem dec_val (m : Nat) : ∀ u, u ≤ m → val 0 (Lib.decDigits u) = (u : Int) := by
  induction m using Nat.strongRecOn with
  | _ m ih =>
    intro u hu
    by_cases h : u < 10
    · rw [dec_small h]
      show 0 * 10 + (((UInt8.ofNat (48 + u)).toNat : Int) - 48) = (u : Int)
      rw [dg_toNat h]; omega
    · rw [dec_big h, val_app, ih (u / 10) (by omega) (u / 10) (Nat.le_refl _)]
      show (((u / 10 : Nat) : Int)) * 10 + (((UInt8.ofNat (48 + u % 10)).toNat : Int) - 48) = (u : Int)
      rw [dg_toNat (by omega)]; omega
theorem dec_dig (m : Nat) : ∀ u, u ≤ m → (Lib.decDigits u).all dig = true := by
  induction m using Nat.strongRecOn with
  | _ m ih =>
    intro u hu
    have hd : ∀ d, d < 10 → dig (UInt8.ofNat (48 + d)) = true := by
      intro d hd
      unfold dig
      rw [dg_toNat hd]
      simp; omega
    by_cases h : u < 10
    · rw [dec_small h, List.all_cons, hd u h]; rfl
    · rw [dec_big h, List.all_append, ih (u / 10) (by omega) (u / 10) (Nat.le_refl _), List.all_cons, hd _ (by omega)]; rfl
theorem dec_head (m : Nat) : ∀ u, u ≤ m → 0 < u → ∃ c r, Lib.decDigits u = c :: r ∧ c.toNat ≠ 48 := by
  induction m using Nat.strongRecOn with
  | _ m ih =>
    intro u hu h0
    by_cases h : u < 10
    · exact ⟨_, _, dec_small h, by rw [dg_toNat h]; omega⟩
    · obtain ⟨c, r, e, hc⟩ := ih (u / 10) (by omega) (u / 10) (Nat.le_refl _) (by omega)
      exact ⟨c, r ++ [UInt8.ofNat (48 + u % 10)], by rw [dec_big h, e]; rfl, hc⟩
theorem dec_plain (u : Nat) : plainB (Lib.decDigits u) = true := by
  by_cases h : u = 0
  · subst h; rw [dec_small (by omega)]; decide
  · obtain ⟨c, r, e, hc⟩ := dec_head u u (Nat.le_refl _) (by omega)
    have ha := dec_dig u u (Nat.le_refl _)
    rw [e] at ha ⊢
    rw [plainB, ha, decide_eq_false hc]; rfl
theorem dec_ne48 (u : Nat) (h : 0 < u) : (Lib.decDigits u == [48]) = false := by
  obtain ⟨c, r, e, hc⟩ := dec_head u u (Nat.le_refl _) h
  rw [e, beq_eq_false_iff_ne]
  intro h2
  injection h2 with h2 h3
  exact hc (by rw [h2]; rfl)
def inB (n : Int) : Bool := decide (-9007199254740992 ≤ n) && decide (n ≤ 9007199254740992)
/-- What is written is read again. -/
theorem read_itoa (n : Int) : readV (Lib.itoa n) = if inB n then (n, 0) else (0, 25) := by
  unfold readV inB
  by_cases h : n < 0
  · rw [itoa_neg n h, if_pos (show (45 :: Lib.decDigits n.natAbs).head? = some 45 from rfl), List.tail_cons, readD, dec_plain, dec_val _ _ (Nat.le_refl _), dec_ne48 _ (by omega)]
    by_cases h2 : (n.natAbs : Int) > 9007199254740992
    · rw [if_pos h2, decide_eq_false (by omega)]; simp
    · rw [if_neg h2, decide_eq_true (by omega : -9007199254740992 ≤ n), decide_eq_true (by omega : n ≤ 9007199254740992)]; simp; omega
  · have hh : ¬ (Lib.decDigits n.toNat).head? = some 45 := by
      intro e
      have ha := dec_dig n.toNat n.toNat (Nat.le_refl _)
      cases hd : Lib.decDigits n.toNat with
      | nil => rw [hd] at e; cases e
      | cons c r =>
        rw [hd] at e ha
        rw [List.head?_cons] at e
        injection e with e
        subst e
        exact absurd ha (by rw [List.all_cons]; simp [dig])
    rw [itoa_pos n h, if_neg hh, readD, dec_plain, dec_val _ _ (Nat.le_refl _)]
    by_cases h2 : (n.toNat : Int) > 9007199254740992
    · rw [if_pos h2, decide_eq_false (by omega : ¬ n ≤ 9007199254740992)]; simp
    · rw [if_neg h2, decide_eq_true (by omega : -9007199254740992 ≤ n), decide_eq_true (by omega : n ≤ 9007199254740992)]; simp; omega

/-- Digits of a plain text are those of its number. -/
theorem val_dec (m : Nat) : ∀ (l : List UInt8), l.length ≤ m → l.all dig = true → l ≠ [] → (1 < l.length → ∃ c r, l = c :: r ∧ c.toNat ≠ 48) → ∃ u : Nat, val 0 l = (u : Int) ∧ Lib.decDigits u = l ∧ (1 < l.length → 0 < u) := by
  induction m with
  | zero => intro l hl _ h0 _; exact absurd (List.eq_nil_of_length_eq_zero (by omega)) h0
  | succ m ih =>
    intro l hl ha h0 hh
    obtain ⟨p, c, rfl⟩ : ∃ p c, l = p ++ [c] := ⟨l.dropLast, l.getLast h0, (List.dropLast_concat_getLast h0).symm⟩
    rw [List.all_append, Bool.and_eq_true, List.all_cons, Bool.and_eq_true] at ha
    have hd := dig_le ha.2.1
    have hc : UInt8.ofNat (48 + (c.toNat - 48)) = c := by
      apply UInt8.toNat_inj.1
      rw [dg_toNat (by omega)]; omega
    rw [List.length_append, List.length_singleton] at hl
    by_cases hp : p = []
    · subst hp
      refine ⟨c.toNat - 48, ?_, ?_, ?_⟩
      · show 0 * 10 + ((c.toNat : Int) - 48) = _; omega
      · rw [dec_small (by omega), hc]; rfl
      · intro h; simp at h
    · have hpl : 0 < p.length := List.length_pos_iff.2 hp
      obtain ⟨c0, r0, e0, hc0⟩ := hh (by simp; exact hpl)
      cases p with
      | nil => exact absurd rfl hp
      | cons b q =>
        have e0' := e0
        rw [List.cons_append] at e0'
        injection e0' with e1 e2
        subst e1
        obtain ⟨u, hu1, hu2, hu3⟩ := ih (b :: q) (by omega) ha.1 hp (fun _ => ⟨b, q, rfl, hc0⟩)
        have hu0 : 0 < u := by
          by_cases h1 : 1 < (b :: q).length
          · exact hu3 h1
          · have hq : q = [] := List.eq_nil_of_length_eq_zero (by rw [List.length_cons] at h1; omega)
            subst hq
            have hb := ha.1
            rw [List.all_cons, Bool.and_eq_true] at hb
            have hbd := dig_le hb.1
            have : val 0 [b] = 0 * 10 + ((b.toNat : Int) - 48) := rfl
            omega
        refine ⟨u * 10 + (c.toNat - 48), ?_, ?_, fun _ => by omega⟩
        · rw [val_app, hu1]; show (u : Int) * 10 + ((c.toNat : Int) - 48) = _; omega
        · rw [dec_big (by omega), show (u * 10 + (c.toNat - 48)) / 10 = u by omega, show (u * 10 + (c.toNat - 48)) % 10 = c.toNat - 48 by omega, hu2, hc]
theorem plain_dec {l : List UInt8} (h : plainB l = true) : ∃ u : Nat, val 0 l = (u : Int) ∧ Lib.decDigits u = l := by
  have ha := plain_all h
  have h0 : l ≠ [] := by rintro rfl; simp [plainB] at h
  obtain ⟨u, h1, h2, _⟩ := val_dec l.length l (Nat.le_refl _) ha h0 (fun hl => by
    cases l with
    | nil => exact absurd rfl h0
    | cons c r =>
      refine ⟨c, r, rfl, fun e => ?_⟩
      rw [plainB, Bool.and_eq_true, decide_eq_true e, decide_eq_true (by rw [List.length_cons] at hl; omega : 0 < r.length)] at h
      exact absurd h.1 (by decide))
  exact ⟨u, h1, h2⟩
/-- What is read is written as it was. -/
theorem itoa_read (l : List UInt8) (h : (readV l).2 = 0) : Lib.itoa (readV l).1 = l ∧ inB (readV l).1 = true := by
  unfold readV at h ⊢
  by_cases h45 : l.head? = some 45
  · rw [if_pos h45] at h ⊢
    unfold readD at h ⊢
    by_cases hp : (!plainB l.tail || (true && l.tail == [48])) = true
    · rw [if_pos hp] at h; cases h
    · rw [if_neg hp] at h ⊢
      by_cases hv : val 0 l.tail > 9007199254740992
      · rw [if_pos hv] at h; cases h
      · rw [if_neg hv]
        simp only [Bool.or_eq_true, Bool.not_eq_true', Bool.true_and, not_or, Bool.not_eq_false] at hp
        obtain ⟨u, h1, h2⟩ := plain_dec hp.1
        have hu0 : 0 < u := by
          rcases Nat.eq_zero_or_pos u with rfl | hu
          · rw [dec_small (by omega)] at h2
            exact absurd (by rw [← h2]; decide) hp.2
          · exact hu
        simp only [if_true]
        rw [h1] at hv ⊢
        refine ⟨?_, by unfold inB; rw [decide_eq_true (by omega : -9007199254740992 ≤ -(u : Int)), decide_eq_true (by omega : -(u : Int) ≤ 9007199254740992)]; rfl⟩
        rw [itoa_neg _ (by omega), show (-(u : Int)).natAbs = u by omega, h2]
        cases l with
        | nil => cases h45
        | cons c r => rw [List.head?_cons] at h45; injection h45 with h45; subst h45; rfl
  · rw [if_neg h45] at h ⊢
    unfold readD at h ⊢
    by_cases hp : (!plainB l || (false && l == [48])) = true
    · rw [if_pos hp] at h; cases h
    · rw [if_neg hp] at h ⊢
      by_cases hv : val 0 l > 9007199254740992
      · rw [if_pos hv] at h; cases h
      · rw [if_neg hv]
        simp only [Bool.or_eq_true, Bool.not_eq_true', Bool.false_and, not_or, Bool.not_eq_false] at hp
        obtain ⟨u, h1, h2⟩ := plain_dec hp.1
        simp only [Bool.false_eq_true, if_false]
        rw [h1] at hv ⊢
        refine ⟨?_, by unfold inB; rw [decide_eq_true (by omega : -9007199254740992 ≤ (u : Int)), decide_eq_true (by omega : (u : Int) ≤ 9007199254740992)]; rfl⟩
        rw [itoa_pos _ (by omega), Int.toNat_natCast, h2]

/-! ### Sums and differences -/
def addV (a b : Int) : Int × Int := if inB a && inB b then (if inB (a + b) then (a + b, 0) else (0, 25)) else (0, 9)
def subV (a b : Int) : Int × Int := if inB a && inB b then (if inB (a - b) then (a - b, 0) else (0, 25)) else (0, 9)
theorem in_iff {n : Int} : inB n = true ↔ -9007199254740992 ≤ n ∧ n ≤ 9007199254740992 := by simp [inB]
theorem in_is (n : Int) : num_In.f n = some (inB n) := by
  unfold num_In.f inB
  by_cases h : n ≥ -9007199254740992
  · rw [if_pos h, decide_eq_true (by omega : -9007199254740992 ≤ n)]; rfl
  · rw [if_neg h, decide_eq_false (by omega : ¬ -9007199254740992 ≤ n)]; rfl
theorem fit_is (n : Int) : num_fit.f n = some (if inB n then (n, 0) else (0, 25)) := by
  unfold num_fit.f
  rw [in_is]
  simp only [Option.bind_some]
  cases inB n <;> rfl
theorem add_is (a b : Int) : num_Add.f a b = some (addV a b) := by
  unfold num_Add.f addV
  rw [in_is, in_is]
  simp only [Option.bind_some]
  by_cases ha : inB a = true
  · by_cases hb : inB b = true
    · have h1 := in_iff.1 ha
      have h2 := in_iff.1 hb
      rw [if_pos ha, if_pos hb, fit_is, wrap_in (by omega), ha, hb]; rfl
    · rw [if_pos ha, if_neg hb]; simp [ha, hb]
  · rw [if_neg ha]; simp [ha]
theorem add_any (a b : Int) (w : World) : Calls Try.prog 21 #[.int .i64 a, .int .i64 b] w fun e w' => e = .returned (.tuple #[.int .i64 (addV a b).1, .int .i64 (addV a b).2]) ∧ Drawn0 w w' :=
  num_Add.calls a b _ _ w (add_is a b)
theorem in_any (a : Int) (w : World) : Calls Try.prog 28 #[.int .i64 a] w fun e w' => e = .returned (.bool (inB a)) ∧ Drawn0 w w' :=
  num_In.calls a _ w (in_is a)
end Go.Proofs.Yteonbgknmpobpaa.Back
