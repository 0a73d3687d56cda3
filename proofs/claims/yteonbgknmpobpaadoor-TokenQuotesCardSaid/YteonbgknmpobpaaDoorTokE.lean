/- The law TokenLex: what it returns. -/
import Derived.Test.YteonbgknmpobpaaDoorTokD
import Derived.BigQuiet
import Derived.StillTailTactics
namespace Go.Proofs.YteonbgknmpobpaaDoor.TZ
open Go.RowKit Go.Proofs.YteonbgknmpobpaaDoorW.PrintWords Go.Proofs.YteonbgknmpobpaaDoorW.PrintLast Go.Proofs.YteonbgknmpobpaaDoorW.PrintMore
open Go.Proofs.YteonbgknmpobpaaDoor Go.Proofs.YteonbgknmpobpaaDoor.PTokenLex
open Go.Proofs.YteonbgknmpobpaaDoor.TP (GT)
open Go.Proofs.YteonbgknmpobpaaDoor.TQ (below_on)
open Go.Proofs.YteonbgknmpobpaaDoor.TU Go.Proofs.YteonbgknmpobpaaDoor.TV Go.Proofs.YteonbgknmpobpaaDoor.TW Go.Proofs.YteonbgknmpobpaaDoor.TX
set_option linter.unusedVariables false

theorem lexF_len (s : B) (h : s.size ≤ 4096) : ∀ (k i : Nat) (l : List S28), i ≤ s.size → l.length ≤ i → (lexF s k l (i : Int)).1.length ≤ s.size
  | 0, i, l, hi, hl => by simp [lexF]
  | k + 1, i, l, hi, hl => by
    by_cases h0 : (TP.nextV s (i : Int)).2.2.2.2.2 = 0
    · by_cases h1 : (TP.nextV s (i : Int)).1 = 0
      · rw [lex_end h0 h1]; show l.length ≤ s.size; omega
      · obtain ⟨j, e, p, q⟩ := next_ok s i hi h0 h1
        rw [lex_go h0 h1, e]
        exact lexF_len s h k j _ q (by rw [List.length_append]; simp; omega)
    · rw [lex_err h0]; simp
theorem lexV_len (s : B) (h : s.size ≤ 800) : (lexV s).1.length ≤ 800 := by
  unfold lexV
  rw [if_neg (by omega)]
  exact Nat.le_trans (lexF_len s (by omega) _ 0 [] (by omega) (by simp)) h
theorem refLex_any (s : B) (w : World) (hs : s.size ≤ 4096) : Calls Tryd.prog 14 #[.string s] w fun e w' => ∃ v : Value, e = .returned (.tuple #[v, .int .i64 (lexV s).2.1, .int .i64 (lexV s).2.2]) ∧ Kd.R k28 28 w' w.heap.size (fun _ => True) v (lexV s).1 ∧ Below w.heap.size w w' :=
  treillageref12_Lex.calls _ s (lexV s).1 (lexV s).2.1 (lexV s).2.2 w (refLex_is s hs)
theorem long_is (s : B) (h : 4096 < s.size) : lexV s = ([], 0, 4) := by unfold lexV; rw [if_pos h]
/-- A row of tokens, as the walk reads it. -/
structure Toks (W : World) (A : Option Addr) (l : List S28) : Prop where
  row : Kd.C k28 W A l.length l
theorem toks_at {W : World} {A : Option Addr} {l : List S28} (h : Toks W A l) (j : Nat) (hj : j < l.length) : ∃ ad, A = some ad ∧ W.cell? (ad.add (j * 4)) = some (.int .i64 (rd_T28 l j).f0) ∧ W.cell? ⟨(ad.add (j * 4)).block, (ad.add (j * 4)).off + 1, none⟩ = some (.int .i64 (rd_T28 l j).f1) ∧ W.cell? ⟨(ad.add (j * 4)).block, (ad.add (j * 4)).off + 2, none⟩ = some (.string (rd_T28 l j).f2) ∧ W.cell? ⟨(ad.add (j * 4)).block, (ad.add (j * 4)).off + 3, none⟩ = some (.int .i64 (rd_T28 l j).f3) := by
  have := at_T28 h.row (j : Int) (by omega) (by omega)
  rw [Int.toNat_natCast] at this
  exact this
theorem toks_below {W W1 : World} {A : Option Addr} {l : List S28} (h : Toks W A l) (hb : Below W.heap.size W W1) : Toks W1 A l := ⟨Kd.C_below h.row hb⟩
theorem drew_on {W w1 : World} (h : Below W.drew.heap.size W.drew w1) : Below W.heap.size W w1 := below_then (below_drew1 (Below.refl _ _)) (Nat.le_refl _) h
set_option maxHeartbeats 8000000 in
set_option maxRecDepth 100000 in
theorem lexlaw_any (s : B) (w : World) (hG : GT w) (hs : s.size ≤ 140737488351232) : Calls Tryd.prog 4 #[.string s] w fun e w' => e = .returned (.bool true) ∧ Below w.heap.size w w' := by
  have CA := Lib.hid fun wx (h : Below w.heap.size w wx) => awake_any wx (hG.below h)
  have C1 := lex_any s w hG hs
  unfold LexPost at C1
  by_cases h4 : 4096 < s.size
  · have hd : decide (4096 < (s.size : Int)) = true := decide_eq_true (by omega)
    rw [long_is s h4] at C1
    have C1 := Lib.hid C1
    clear h4 hG
    go_enter Tryd.func4, Tryd.ntmps4
    go_wp2_with fail
    refine C1.out.mono ?_
    rintro e w1 ⟨v, rfl, hR, hB⟩
    obtain ⟨A, c, rfl⟩ := Kd.R_slice hR
    have HB := Lib.hid hB
    clear hR hB
    go_wp2_with fail
    refine (CA.out _ HB.out).mono ?_
    rintro e w2 ⟨rfl, hB⟩
    have HB2 := Lib.hid (below_on HB.out hB)
    clear hB
    go_wp2_with fail
    go_ret
    exact ⟨by simp, HB2.out⟩
  · have hd : decide (4096 < (s.size : Int)) = false := decide_eq_false (by omega)
    by_cases h8 : 800 < s.size
    · have hd8 : decide (800 < (s.size : Int)) = true := decide_eq_true (by omega)
      have C0 := Lib.hid (CA.out w (Below.refl _ _))
      clear h4 h8 C1
      go_enter Tryd.func4, Tryd.ntmps4
      go_wp2_with fail
      refine C0.out.mono ?_
      rintro e w1 ⟨rfl, hB⟩
      have HB := Lib.hid hB
      clear hB
      go_wp2_with fail
      go_ret
      exact ⟨rfl, HB.out⟩
    · have hd8 : decide (800 < (s.size : Int)) = false := decide_eq_false (by omega)
      have C2 := Lib.hid fun wx => refLex_any s wx (by omega)
      have hlen := lexV_len s (by omega)
      have C1 := Lib.hid C1
      obtain ⟨⟨l, q, er⟩, hr⟩ : ∃ r, lexV s = r := ⟨_, rfl⟩
      rw [hr] at C1 C2 hlen
      have C3 := Lib.hid fun (x : S28) wx => like_any x.f0 x.f1 x.f2 x.f3 wx
      clear h4 h8 hr hG
      go_enter Tryd.func4, Tryd.ntmps4
      go_wp2_with fail
      refine C1.out.mono ?_
      rintro e w1 ⟨v, rfl, hR, hB⟩
      obtain ⟨A, c, rfl⟩ := Kd.R_slice hR
      have T1 := Lib.hid (Toks.mk (Kd.R_reads' hR).2.2)
      have HB := Lib.hid hB
      clear hR hB
      go_wp2_with fail
      refine (C2.out _).mono ?_
      rintro e w2 ⟨v, rfl, hR, hB⟩
      obtain ⟨A2, c2, rfl⟩ := Kd.R_slice hR
      have T2 := Lib.hid (Toks.mk (Kd.R_reads' hR).2.2)
      have T1' := Lib.hid (toks_below T1.out hB)
      have HB2 := Lib.hid (below_on HB.out hB)
      clear hR hB T1
      go_wp2_with fail
      go_loopg [12] l.length (fun g v12 wx => ∃ k : Nat, k + g = l.length ∧ v12 = .int .i64 k ∧ Aside0 (Toks wx A l) ∧ Aside0 (Toks wx A2 l) ∧ Aside0 (Below w.heap.size w wx))
      case atStart => exact ⟨0, by omega, rfl, ⟨T1'.out⟩, ⟨T2.out⟩, ⟨HB2.out⟩⟩
      case round =>
        clear T1' T2 HB2
        obtain ⟨k, hkg, rfl, TA, TB, HB2⟩ := hrel
        by_cases hk : k < l.length
        · obtain ⟨g1, rfl⟩ : ∃ m, gk = m + 1 := ⟨gk - 1, by omega⟩
          obtain ⟨ad, rfl, a0, a1, a2, a3⟩ := toks_at TA.out k hk
          obtain ⟨ad2, rfl, b0, b1, b2, b3⟩ := toks_at TB.out k hk
          have CX := Lib.hid (C3.out (rd_T28 l k))
          generalize rd_T28 l k = x at a0 a1 a2 a3 b0 b1 b2 b3 CX
          obtain ⟨x0, x1, x2, x3⟩ := x
          simp only at a0 a1 a2 a3 b0 b1 b2 b3
          go_wp2
          go_still_tail 8, (by kernel_rfl)
          go_wp2_with fail
          refine (CX.out _).mono ?_
          rintro e w3 ⟨rfl, hB⟩
          have hB' := drew_on hB
          have HB3 := Aside0.mk (below_on HB2.out hB')
          have TA3 := Aside0.mk (toks_below TA.out hB')
          have TB3 := Aside0.mk (toks_below TB.out hB')
          clear hB hB'
          go_wp2_with fail
          go_roundg g1
          case measure => omega
          case rel => exact ⟨k + 1, by omega, by go_num, TA3, TB3, HB3⟩
        · obtain rfl : gk = 0 := by omega
          have hd0 : ¬ (k : Int) < (l.length : Int) := by omega
          go_wp2_with fail
          refine (CA.out _ HB2.out).mono ?_
          rintro e w3 ⟨rfl, hB⟩
          have HB3 := Lib.hid (below_on HB2.out hB)
          clear hB
          go_wp2_with fail
          go_ret
          exact ⟨rfl, HB3.out⟩
end Go.Proofs.YteonbgknmpobpaaDoor.TZ
