/- The law TokenQuotes: what it returns. -/
import Derived.Test.YteonbgknmpobpaaDoorTokJ
import Derived.Test.YteonbgknmpobpaaDoorTokE
namespace Go.Proofs.YteonbgknmpobpaaDoor.TQ6
open Go.RowKit Go.Proofs.YteonbgknmpobpaaDoorW.PrintWords Go.Proofs.YteonbgknmpobpaaDoorW.PrintLast Go.Proofs.YteonbgknmpobpaaDoorW.PrintMore
open Go.Proofs.YteonbgknmpobpaaDoor
open Go.Proofs.YteonbgknmpobpaaDoor.TP (GT)
open Go.Proofs.YteonbgknmpobpaaDoor.TQ (below_on)
open Go.Proofs.YteonbgknmpobpaaDoor.TU (lexV)
open Go.Proofs.YteonbgknmpobpaaDoor.TW (awake_any)
open Go.Proofs.YteonbgknmpobpaaDoor.TV (lex_any LexPost)
open Go.Proofs.YteonbgknmpobpaaDoor.PTokenLex
open Go.Proofs.YteonbgknmpobpaaDoor.TZ (Toks toks_at toks_below drew_on)
open Go.Proofs.YteonbgknmpobpaaDoor.TJ (size_list)
open Go.Proofs.YteonbgknmpobpaaDoor.TQ1 (body)
open Go.Proofs.YteonbgknmpobpaaDoor.TQ2 (blankF whole lex_long lex_one whole_len body_len)
open Go.Proofs.YteonbgknmpobpaaDoor.TQ3 (quoteV quote_any ints)
open Go.Proofs.YteonbgknmpobpaaDoor.TQ4 (refQuote_any)
open Go.Proofs.YteonbgknmpobpaaDoor.TQ5 (frontB front_blank spS)
set_option linter.unusedVariables false
abbrev B := ByteArray
abbrev L8 := List UInt8
def hashS : B := ⟨#[35]⟩
def wholeB (n : Nat) (s : B) : B := frontB n ++ quoteV s ++ hashS ++ frontB n
theorem nums_list (l : L8) : (strOfNums (l.map fun c => (c.toNat : Int))).data.toList = l := by
  unfold strOfNums
  simp only [List.map_map]
  have : ((fun n : Int => UInt8.ofNat n.toNat) ∘ fun c : UInt8 => (c.toNat : Int)) = id := by
    funext c; simp
  rw [this, List.map_id]
theorem quote_list (s : B) : (quoteV s).data.toList = 34 :: (body s.data.toList ++ [34]) := by
  unfold quoteV ints
  have : (34 :: List.map (fun c : UInt8 => (c.toNat : Int)) (body s.data.toList) ++ [34]) = ((34 : UInt8) :: (body s.data.toList ++ [34])).map fun c => (c.toNat : Int) := by simp
  rw [this, nums_list]
theorem same_text (s : B) : strOfNums (s.data.toList.map fun c => (c.toNat : Int)) = s := by
  apply ByteArray.ext
  apply Array.ext'
  rw [nums_list]
theorem whole_is (n : Nat) (s : B) : (wholeB n s).data.toList = whole (frontB n).data.toList s.data.toList := by
  unfold wholeB whole hashS
  simp [quote_list]
theorem size_le (s : B) (n : Nat) (hn : n ≤ 4) (hs : s.size ≤ 300) : (frontB n).size = n ∧ (quoteV s).size ≤ 1202 ∧ (frontB n ++ quoteV s).size ≤ 1206 ∧ (frontB n ++ quoteV s ++ hashS).size ≤ 1207 ∧ (wholeB n s).size ≤ 1300 := by
  have h1 : (frontB n).size = n := by rw [← size_list]; exact (front_blank n hn).2
  have h2 : (quoteV s).size ≤ 1202 := by
    rw [← size_list, quote_list]
    have := body_len s.data.toList
    rw [size_list] at this
    simp; omega
  have h3 : hashS.size = 1 := rfl
  unfold wholeB
  simp only [ByteArray.size_append]
  omega
theorem front_next (k : Nat) : frontB k ++ spS.extract (k % 3) (k % 3 + 1) = frontB (k + 1) := rfl
theorem rem5 (g : Int) (h0 : 0 ≤ g) (h1 : g < 256) : ∃ m : Nat, m ≤ 4 ∧ Int.tmod g 5 = (m : Int) ∧ g % 5 = (m : Int) := by
  refine ⟨(g % 5).toNat, by omega, ?_, by omega⟩
  rw [Int.tmod_eq_emod_of_nonneg h0]; omega
theorem lex_is (m : Nat) (s : B) (hm : m ≤ 4) (hs : s.size ≤ 300) : lexV (wholeB m s) = if 256 < s.size then ([], (m : Int), 4) else ([⟨3, 0, s, (m : Int)⟩], 0, 0) := by
  obtain ⟨h1, h2⟩ := front_blank m hm
  have h4 := (size_le s m hm hs).2.2.2.2
  split
  · rename_i h
    rw [lex_long (wholeB m s) _ _ (whole_is m s) h1 (by omega) (by rw [size_list]; exact h), h2]
  · rename_i h
    rw [lex_one (wholeB m s) _ _ (whole_is m s) h1 (by omega) (by rw [size_list]; exact h), h2, same_text]
theorem lexq_any (m : Nat) (s : B) (w : World) (hG : GT w) (hm : m ≤ 4) (hs : s.size ≤ 300) (r : List S28 × Int × Int) (hr : (if 256 < s.size then ([], (m : Int), 4) else ([⟨3, 0, s, (m : Int)⟩], 0, 0)) = r) :
    Calls Tryd.prog 13 #[.string (frontB m ++ quoteV s ++ ⟨#[35]⟩ ++ frontB m)] w (LexPost w r) := by
  have h4 := (size_le s m hm hs).2.2.2.2
  have := lex_any (wholeB m s) w hG (by omega)
  rw [lex_is m s hm hs, hr] at this
  exact this
set_option maxHeartbeats 8000000 in
set_option maxRecDepth 100000 in
theorem quoteslaw_any (s : B) (g : Int) (w : World) (h0 : 0 ≤ g) (h1 : g < 256) (hG : GT w) (hs : s.size ≤ 140737488351232) : Calls Tryd.prog 5 #[.string s, .int .u8 g] w fun e w' => e = .returned (.bool true) ∧ Below w.heap.size w w' := by
  have CA := Lib.hid fun wx (h : Below w.heap.size w wx) => awake_any wx (hG.below h)
  by_cases h3 : 300 < s.size
  · have hd : decide (300 < (s.size : Int)) = true := decide_eq_true (by omega)
    have C0 := Lib.hid (CA.out w (Below.refl _ _))
    clear h3 hG
    go_enter Tryd.func5, Tryd.ntmps5
    go_wp2_with fail
    refine C0.out.mono ?_
    rintro e w1 ⟨rfl, hB⟩
    have HB := Lib.hid hB
    clear hB
    go_wp2_with fail
    go_ret
    exact ⟨rfl, HB.out⟩
  · have hd : decide (300 < (s.size : Int)) = false := decide_eq_false (by omega)
    obtain ⟨m, hm4, hm1, hm2⟩ := rem5 g h0 h1
    have CQ := Lib.hid (quote_any s w (by omega))
    have CR := Lib.hid fun wx => refQuote_any s wx (by omega)
    have CL := Lib.hid fun wx (h : Below w.heap.size w wx) r hr => lexq_any m s wx (hG.below h) hm4 (by omega) r hr
    have SZ := Lib.hid fun k (hk : k ≤ 4) => size_le s k hk (by omega)
    have h3' := Lib.hid h3
    clear h3 hs hG
    generalize quoteV s = q at *
    go_enter Tryd.func5, Tryd.ntmps5
    go_wp2_with fail
    refine CQ.out.mono ?_
    rintro e w1 ⟨rfl, hB⟩
    have HB := Lib.hid hB
    clear hB
    go_wp2_with fail
    refine (CR.out _).mono ?_
    rintro e w2 ⟨rfl, hD⟩
    have HB2 := Lib.hid (below_on HB.out (Drawn0.below hD))
    clear hD
    go_wp2_with fail
    go_loopg [6, 7] m (fun gk v6 v7 wx => ∃ k : Nat, k + gk = m ∧ v6 = .string (frontB k) ∧ v7 = .int .i64 k ∧ Aside0 (Below w.heap.size w wx))
    case atStart => exact ⟨0, by omega, rfl, rfl, ⟨HB2.out⟩⟩
    case round =>
      clear HB2
      obtain ⟨k, hkg, rfl, rfl, HB2⟩ := hrel
      by_cases hk : k < m
      · obtain ⟨g1, rfl⟩ : ∃ j, gk = j + 1 := ⟨gk - 1, by omega⟩
        have hk4 := hk
        have hsz := (SZ.out k (by omega)).1
        have hnx := Lib.hid (front_next k)
        have hsp : spS.size = 3 := rfl
        have hsp' : (⟨#[32, 9, 10]⟩ : B) = spS := rfl
        have hq1 : 0 ≤ (k : Int) % 3 := by omega
        have hq2 : (k : Int) % 3 + 1 ≤ (spS.size : Int) := by rw [hsp]; omega
        have hq6 : (k : Int) % 3 ≤ (k : Int) % 3 + 1 := by omega
        have hq3 : ((k : Int) % 3).toNat = k % 3 := by omega
        have hq4 : ((k : Int) % 3 + 1).toNat = k % 3 + 1 := by omega
        have hq5 : (frontB k).size + (spS.extract (k % 3) (k % 3 + 1)).size ≤ 9223372036854775807 := by rw [ByteArray.size_extract, hsz, hsp]; omega
        clear hsp
        generalize spS = sp at *
        go_wp2_with fail
        go_roundg g1
        case measure => omega
        case rel => exact ⟨k + 1, by omega, by rw [hnx.out], by go_num, ⟨HB2.out⟩⟩
      · obtain rfl : gk = 0 := by omega
        obtain rfl : k = m := by omega
        have hd0 : ¬ (k : Int) < (k : Int) := by omega
        obtain ⟨z1, z2, z3, z4, _⟩ := SZ.out k hm4
        have C1 := fun r hr => CL.out wr HB2.out r hr
        have y1 : (frontB k).size + q.size ≤ 9223372036854775807 := by omega
        have y2 : (frontB k ++ q).size + (⟨#[35]⟩ : B).size ≤ 9223372036854775807 := by
          have : (⟨#[35]⟩ : B).size = 1 := rfl
          omega
        have y3 : (frontB k ++ q ++ ⟨#[35]⟩).size + (frontB k).size ≤ 9223372036854775807 := by
          have : (frontB k ++ q ++ hashS).size = (frontB k ++ q ++ ⟨#[35]⟩ : B).size := rfl
          omega
        clear z2 z3 z4 SZ CL CQ CR
        generalize frontB k = f at *
        by_cases h256 : 256 < s.size
        · have hd1 : decide (256 < (s.size : Int)) = true := decide_eq_true (by omega)
          have C1 := Lib.hid (C1 _ (if_pos h256))
          clear h256
          go_wp2_with fail
          refine C1.out.mono ?_
          rintro e w3 ⟨v, rfl, hR, hB⟩
          obtain ⟨A, c, rfl⟩ := Kd.R_slice hR
          have HB3 := Lib.hid (below_on HB2.out hB)
          clear hR hB
          go_wp2_with fail
          refine (CA.out _ HB3.out).mono ?_
          rintro e w4 ⟨rfl, hB⟩
          have HB4 := Lib.hid (below_on HB3.out hB)
          clear hB
          go_wp2_with fail
          go_ret
          exact ⟨by simp, HB4.out⟩
        · have hd1 : decide (256 < (s.size : Int)) = false := decide_eq_false (by omega)
          have C1 := Lib.hid (C1 _ (if_neg h256))
          clear h256
          go_wp2_with fail
          refine C1.out.mono ?_
          rintro e w3 ⟨v, rfl, hR, hB⟩
          obtain ⟨A, c, rfl⟩ := Kd.R_slice hR
          have T1 := Lib.hid (Toks.mk (Kd.R_reads' hR).2.2)
          have HB3 := Lib.hid (below_on HB2.out hB)
          clear hR hB
          go_wp2_with fail
          refine (CA.out _ HB3.out).mono ?_
          rintro e w4 ⟨rfl, hB⟩
          have HB4 := Lib.hid (below_on HB3.out hB)
          have T2 := Lib.hid (toks_below T1.out hB)
          clear hB T1
          obtain ⟨ad, rfl, a0, a1, a2, a3⟩ := toks_at T2.out 0 (by simp)
          have a0' : w4.cell? ad = some (.int .i64 3) := a0
          have a1' : w4.cell? ⟨ad.block, ad.off + 1, none⟩ = some (.int .i64 0) := a1
          have a2' : w4.cell? ⟨ad.block, ad.off + 2, none⟩ = some (.string s) := a2
          have a3' : w4.cell? ⟨ad.block, ad.off + 3, none⟩ = some (.int .i64 (k : Int)) := a3
          clear a0 a1 a2 a3
          go_wp2_with fail
          go_ret
          exact ⟨by simp, HB4.out⟩
theorem quoteslaw (s : B) (g : Int) (w : World) (hG : GT w) (hs : s.size ≤ 140737488351232) (hg : (Lit.int .u8 g).wf = true) : Calls Tryd.prog 5 #[.string s, .int .u8 g] w fun e w' => e = .returned (.bool true) ∧ Below w.heap.size w w' := by
  have h : IntKind.u8.min ≤ g ∧ g ≤ IntKind.u8.max := by simpa [Lit.wf] using hg
  have e1 : IntKind.u8.min = 0 := by decide +kernel
  have e2 : IntKind.u8.max = 255 := by decide +kernel
  rw [e1, e2] at h
  exact quoteslaw_any s g w h.1 (by omega) hG hs
end Go.Proofs.YteonbgknmpobpaaDoor.TQ6
