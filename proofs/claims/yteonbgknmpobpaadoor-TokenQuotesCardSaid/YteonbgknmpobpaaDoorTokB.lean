/- Several texts of mine in one (merge.py). -/
import Derived.Test.YteonbgknmpobpaaDoorTokA
import Derived.Test.YteonbgknmpobpaaDoorNR
/- Signs; what the token at a place is. -/
namespace Go.Proofs.YteonbgknmpobpaaDoor.TP
open Go.RowKit Go.Proofs.YteonbgknmpobpaaDoorW.PrintWords Go.Proofs.YteonbgknmpobpaaDoorW.PrintLast Go.Proofs.YteonbgknmpobpaaDoorW.PrintMore
open Go.Proofs.YteonbgknmpobpaaDoor.PTokenLex Go.Proofs.YteonbgknmpobpaaDoor.TJ Go.Proofs.YteonbgknmpobpaaDoor.TK Go.Proofs.YteonbgknmpobpaaDoor.TL Go.Proofs.YteonbgknmpobpaaDoor.TM Go.Proofs.YteonbgknmpobpaaDoor.TN Go.Proofs.YteonbgknmpobpaaDoor.TO
open Go.Proofs.YteonbgknmpobpaaDoor.NW (WordsAt wordV rightV)
set_option linter.unusedVariables false

def sgnL : List L8 := [[46, 46, 46], [62, 61], [60, 61], [58], [59], [123], [125], [40], [41], [38], [124], [43], [45], [42], [46]]
def sgn (k : Nat) : B := ⟨(sgnL.getD k []).toArray⟩
def signsA : Array Value := #[.string ⟨#[46, 46, 46]⟩, .string ⟨#[62, 61]⟩, .string ⟨#[60, 61]⟩, .string ⟨#[58]⟩, .string ⟨#[59]⟩, .string ⟨#[123]⟩, .string ⟨#[125]⟩, .string ⟨#[40]⟩, .string ⟨#[41]⟩, .string ⟨#[38]⟩, .string ⟨#[124]⟩, .string ⟨#[43]⟩, .string ⟨#[45]⟩, .string ⟨#[42]⟩, .string ⟨#[46]⟩]
def SignsAt (w : World) : Prop := ∃ t fr, w.heap[0]? = some (.cells signsA t fr)
structure GT (w : World) : Prop where
  words : WordsAt w
  signs : SignsAt w
theorem GT.below {w w' : World} (h : GT w) (hb : Below w.heap.size w w') : GT w' :=
  ⟨h.words.below hb, by obtain ⟨t, fr, e⟩ := h.signs; exact ⟨t, fr, (hb.block 0 (Array.getElem?_eq_some_iff.1 e).1).trans e⟩⟩
theorem sgn_ix (k : Nat) (hk : k < 15) (w : World) : (Instr.index 57 (.agg signsA) (.int .i64 (k : Int))).run Tryd.prog w = .ok (.string (sgn k)) w := by
  rcases (by omega : k = 0 ∨ k = 1 ∨ k = 2 ∨ k = 3 ∨ k = 4 ∨ k = 5 ∨ k = 6 ∨ k = 7 ∨ k = 8 ∨ k = 9 ∨ k = 10 ∨ k = 11 ∨ k = 12 ∨ k = 13 ∨ k = 14) with rfl | rfl | rfl | rfl | rfl | rfl | rfl | rfl | rfl | rfl | rfl | rfl | rfl | rfl | rfl <;> kernel_rfl
def sgnAt (l : L8) (k : Nat) : Bool := Lib.hasPrefix l (sgn k).data.toList
/-- The first sign with which a text begins, from number k on. -/
def sfind (l : L8) : Nat → Nat → Option Nat
  | 0, _ => none
  | d + 1, k => if sgnAt l k = true then some k else sfind l d (k + 1)
def signR (l : L8) (a : Nat) : R6 := match sfind l 15 0 with
  | some k => (4, 0, sgn k, (a : Int), ((a + (sgn k).size : Nat) : Int), 0)
  | none => errV a 20
def nameR (s : B) (a n : Nat) : R6 := if rightV (s.extract a (a + n)).data.toList = true ∨ 0 < wordV (s.extract a (a + n)).data.toList then (2, 0, s.extract a (a + n), (a : Int), ((a + n : Nat) : Int), 0) else errV a 20
/-- The token at a place behind what stands between. -/
def atV (s : B) (a : Nat) : L8 → R6
  | [] => (0, 0, E, (a : Int), (a : Int), 0)
  | c :: r => if dig c = true then numV s a else if c.toNat = 34 then textV s a else if smallC c = true then nameR s a (rowN letC (c :: r)) else signR (c :: r) a
def nextN (s : B) (i : Nat) : R6 := atV s (i + skipL false (s.data.toList.drop i)) (s.data.toList.drop (i + skipL false (s.data.toList.drop i)))
def nextV (s : B) (at_ : Int) : R6 := if at_ < 0 ∨ (s.size : Int) < at_ then (0, 0, E, 0, 0, 1) else nextN s at_.toNat
end Go.Proofs.YteonbgknmpobpaaDoor.TP
/- The program's Next. -/
namespace Go.Proofs.YteonbgknmpobpaaDoor.TQ
open Go.RowKit Go.Proofs.YteonbgknmpobpaaDoorW.PrintWords Go.Proofs.YteonbgknmpobpaaDoorW.PrintLast Go.Proofs.YteonbgknmpobpaaDoorW.PrintMore
open Go.Proofs.YteonbgknmpobpaaDoor.PTokenLex Go.Proofs.YteonbgknmpobpaaDoor.TJ Go.Proofs.YteonbgknmpobpaaDoor.TK Go.Proofs.YteonbgknmpobpaaDoor.TL Go.Proofs.YteonbgknmpobpaaDoor.TM Go.Proofs.YteonbgknmpobpaaDoor.TN Go.Proofs.YteonbgknmpobpaaDoor.TO Go.Proofs.YteonbgknmpobpaaDoor.TP
open Go.Proofs.YteonbgknmpobpaaDoor.NW (WordsAt wordV rightV word_any)
open Go.Proofs.YteonbgknmpobpaaDoor.NR (right_any)
set_option linter.unusedVariables false

theorem below_on {w W w1 : World} (h : Below w.heap.size w W) (k : Below W.heap.size W w1) : Below w.heap.size w w1 := below_then h h.size k
theorem next_out (s : B) (at_ : Int) (h : at_ < 0 ∨ (s.size : Int) < at_) : nextV s at_ = (0, 0, E, 0, 0, 1) := by unfold nextV; rw [if_pos h]
theorem next_in (s : B) (i : Nat) (h : i ≤ s.size) : nextV s (i : Int) = nextN s i := by unfold nextV; rw [if_neg (by omega), Int.toNat_natCast]
def Post (w : World) (r : R6) (e : Ending) (w' : World) : Prop := e = .returned (tokV r) ∧ Below w.heap.size w w'
set_option maxHeartbeats 1000000 in
set_option maxRecDepth 100000 in
theorem out_any (s : B) (at_ : Int) (w : World) (h : at_ < 0 ∨ (s.size : Int) < at_) : Calls Tryd.prog 10 #[.string s, .int .i64 at_] w (Post w (0, 0, E, 0, 0, 1)) := by
  by_cases h0 : at_ < 0
  · have d0 : decide (at_ < 0) = true := decide_eq_true h0
    clear h h0
    go_enter Tryd.func10, Tryd.ntmps10
    go_wp2_with (first | ((with_reducible refine gate_dst (N := 4) rfl ?_); refine box_event ?hg (N := 4) ?hd (cs := zeroT) (t := 24) ?hr ?_; (case hd => rfl); (case hg => rfl); (case hr => first | (go_simp; done) | (go_simp; rfl)); intro gb hg w1 hbox hb; have BK := Lib.hid hbox; have GE := Lib.hid (Nat.le_of_eq hg.symm); have HB := Lib.hid hb; obtain ⟨c0, c1, c2, c3, f0, f1, f2, f3⟩ := cells4 hbox; clear hg hbox hb))
    refine bodyPost_ret (results_ctt rfl _ _ gb 24 zeroT (0, 0) _ rfl (tok_put BK.out) Tryd.underlying24 rfl (by kernel_rfl)) rfl ?_
    exact ⟨rfl, put_below HB.out GE.out⟩
  · have h1 : (s.size : Int) < at_ := by omega
    have d0 : decide (at_ < 0) = false := decide_eq_false h0
    have d1 : decide ((s.size : Int) < at_) = true := decide_eq_true h1
    clear h h0 h1
    go_enter Tryd.func10, Tryd.ntmps10
    go_wp2_with (first | ((with_reducible refine gate_dst (N := 4) rfl ?_); refine box_event ?hg (N := 4) ?hd (cs := zeroT) (t := 24) ?hr ?_; (case hd => rfl); (case hg => rfl); (case hr => first | (go_simp; done) | (go_simp; rfl)); intro gb hg w1 hbox hb; have BK := Lib.hid hbox; have GE := Lib.hid (Nat.le_of_eq hg.symm); have HB := Lib.hid hb; obtain ⟨c0, c1, c2, c3, f0, f1, f2, f3⟩ := cells4 hbox; clear hg hbox hb))
    refine bodyPost_ret (results_ctt rfl _ _ gb 24 zeroT (0, 0) _ rfl (tok_put BK.out) Tryd.underlying24 rfl (by kernel_rfl)) rfl ?_
    exact ⟨rfl, put_below HB.out GE.out⟩

theorem at_num {s : B} {a : Nat} {c : UInt8} {r : L8} (h : dig c = true) : atV s a (c :: r) = numV s a := by rw [atV, if_pos h]
theorem at_text {s : B} {a : Nat} {c : UInt8} {r : L8} (h : dig c = false) (h2 : c.toNat = 34) : atV s a (c :: r) = textV s a := by rw [atV, if_neg (by rw [h]; simp), if_pos h2]
theorem at_name {s : B} {a : Nat} {c : UInt8} {r : L8} (h : dig c = false) (h2 : ¬ c.toNat = 34) (h3 : smallC c = true) : atV s a (c :: r) = nameR s a (rowN letC (c :: r)) := by rw [atV, if_neg (by rw [h]; simp), if_neg h2, if_pos h3]
theorem at_sign {s : B} {a : Nat} {c : UInt8} {r : L8} (h : dig c = false) (h2 : ¬ c.toNat = 34) (h3 : smallC c = false) : atV s a (c :: r) = signR (c :: r) a := by rw [atV, if_neg (by rw [h]; simp), if_neg h2, if_neg (by rw [h3]; simp)]
theorem skip_any' (s : B) (i a : Nat) (w : World) (hs : s.size ≤ 140737488351232) (hi : i ≤ s.size) (ha : a = i + skipL false (s.data.toList.drop i)) :
    Calls Tryd.prog 32 #[.string s, .int .i64 (i : Int)] w fun e w' => e = .returned (.int .i64 (a : Int)) ∧ w = w' := by subst ha; exact skip_any s i w hs hi
theorem tok_call {w : World} {f : FuncId} {args : Array Value} {r : R6} (h : Calls Tryd.prog f args w fun e w' => e = .returned (tokV r) ∧ Below w.heap.size w w') :
    ∀ k n t p nx er, r = (k, n, t, p, nx, er) → Calls Tryd.prog f args w fun e w' => e = .returned (.tuple #[.agg #[.int .i64 k, .int .i64 n, .string t, .int .i64 p], .int .i64 nx, .int .i64 er]) ∧ Below w.heap.size w w' := by
  rintro k n t p nx er rfl; exact h
theorem name_yes {s : B} {a n : Nat} (h : rightV (s.extract a (a + n)).data.toList = true ∨ 0 < wordV (s.extract a (a + n)).data.toList) : nameR s a n = (2, 0, s.extract a (a + n), (a : Int), ((a + n : Nat) : Int), 0) := by unfold nameR; rw [if_pos h]
theorem name_no {s : B} {a n : Nat} (h : ¬ (rightV (s.extract a (a + n)).data.toList = true ∨ 0 < wordV (s.extract a (a + n)).data.toList)) : nameR s a n = errV a 20 := by unfold nameR; rw [if_neg h]
theorem letter_any' (s : B) (a en : Nat) (w : World) (hs : s.size ≤ 140737488351232) (ha : a ≤ s.size) (he : en = a + rowN letC (s.data.toList.drop a)) :
    Calls Tryd.prog 37 #[.string s, .int .i64 (a : Int), .func (.func 38) #[] #[]] w fun e w' => e = .returned (.int .i64 (en : Int)) ∧ Drawn0 w w' := by subst he; exact row_letter s a w hs ha

theorem sfind_no {l : L8} {d k : Nat} (h : sgnAt l k = false) : sfind l (d + 1) k = sfind l d (k + 1) := by rw [sfind, if_neg (by rw [h]; simp)]
theorem sfind_yes {l : L8} {d k : Nat} (h : sgnAt l k = true) : sfind l (d + 1) k = some k := by rw [sfind, if_pos h]
theorem sign_yes (s : B) (a : Nat) : ∀ k, sfind (s.data.toList.drop a) 15 0 = some k → signR (s.data.toList.drop a) a = (4, 0, sgn k, (a : Int), ((a + (sgn k).size : Nat) : Int), 0) := by
  intro k h; unfold signR; rw [h]
theorem sign_no (s : B) (a : Nat) : sfind (s.data.toList.drop a) 15 0 = none → signR (s.data.toList.drop a) a = errV a 20 := by
  intro h; unfold signR; rw [h]
theorem sgn_size (k : Nat) (hk : k < 15) : (sgn k).size ≤ 3 := by
  rcases (by omega : k = 0 ∨ k = 1 ∨ k = 2 ∨ k = 3 ∨ k = 4 ∨ k = 5 ∨ k = 6 ∨ k = 7 ∨ k = 8 ∨ k = 9 ∨ k = 10 ∨ k = 11 ∨ k = 12 ∨ k = 13 ∨ k = 14) with rfl | rfl | rfl | rfl | rfl | rfl | rfl | rfl | rfl | rfl | rfl | rfl | rfl | rfl | rfl <;> decide
theorem prefix_any (s : B) (a k : Nat) (w : World) : Calls Tryd.prog 39 #[.string (s.extract a s.size), .string (sgn k)] w fun e w' => e = .returned (.bool (sgnAt (s.data.toList.drop a) k)) ∧ w = w' := by
  refine (Tryd.strings_HasPrefix (s.extract a s.size) (sgn k) w).mono fun e w' ⟨h1, h2⟩ => ⟨?_, h2.symm⟩
  rw [h1, Lib.extract_to_end]
  rfl
set_option maxHeartbeats 8000000 in
set_option maxRecDepth 100000 in
theorem in_any (s : B) (i : Nat) (w : World) (hG : GT w) (hs : s.size ≤ 140737488351232) (hi : i ≤ s.size) : Calls Tryd.prog 10 #[.string s, .int .i64 (i : Int)] w (Post w (nextN s i)) := by
  obtain ⟨a, ha⟩ : ∃ a, a = i + skipL false (s.data.toList.drop i) := ⟨_, rfl⟩
  have hR : nextN s i = atV s a (s.data.toList.drop a) := by unfold nextN; rw [← ha]
  rw [hR]
  have hal : a ≤ s.size := by
    have := skipL_le (s.data.toList.drop i) false
    rw [List.length_drop, size_list] at this
    omega
  have C1 := Lib.hid fun wx => skip_any' s i a wx hs hi ha
  clear ha hR
  have d0 : decide ((i : Int) < 0) = false := decide_eq_false (by omega)
  have d1 : decide ((s.size : Int) < (i : Int)) = false := decide_eq_false (by omega)
  by_cases hlt : a < s.size
  · obtain ⟨c, hc, hx⟩ := at_byte s a hlt
    rw [hc]
    have hxb : ∀ h' : a < s.size, ((s[a]'h').toNat : Int) = (c.toNat : Int) := fun h' => by rw [hx h']
    have ne0 : ((a : Int) == (s.size : Int)) = false := beq_eq_false_iff_ne.2 (by omega)
    have C2 := Lib.hid fun wx => digit_any c wx
    cases hd : dig c
    · rw [hd] at C2
      by_cases h34 : c.toNat = 34
      · rw [at_text hd h34]
        have C3' := fun wx => quoted_any s a wx hs hlt
        obtain ⟨⟨k, n, t, p, nx, er⟩, hr⟩ : ∃ r, textV s a = r := ⟨_, rfl⟩
        have C3 := Lib.hid fun wx => tok_call (C3' wx) k n t p nx er hr
        rw [hr]
        rw [h34] at hxb
        have hx34 : ∀ h' : a < s.size, ((s[a]'h').toNat : Int) = 34 := fun h' => hxb h'
        generalize (c.toNat : Int) = b at C2
        have C2' := Lib.hid fun wx => (show Calls Tryd.prog 33 #[.int .u8 34] wx fun e w' => e = .returned (.bool false) ∧ Drawn0 wx w' from by have := digit_any 34 wx; rwa [show dig 34 = false from by decide] at this)
        clear C2
        have C2 := C2'
        clear C2' C3' hr hd h34 hxb hx hc
        go_enter Tryd.func10, Tryd.ntmps10
        go_wp2_with (first | ((with_reducible refine gate_dst (N := 4) rfl ?_); refine box_event ?hg (N := 4) ?hd (cs := zeroT) (t := 24) ?hr ?_; (case hd => rfl); (case hg => rfl); (case hr => first | (go_simp; done) | (go_simp; rfl)); intro gb hg w1 hbox hb; have BK := Lib.hid hbox; have GE := Lib.hid (Nat.le_of_eq hg.symm); have HB := Lib.hid hb; clear hg hbox hb))
        refine (C1.out _).mono ?_
        rintro e w2 ⟨rfl, rfl⟩
        go_wp2_with fail
        refine (C2.out _).mono ?_
        rintro e w3 ⟨rfl, hD⟩
        have BK3 := Lib.hid (blk_dr BK.out hD)
        have HB3 := Lib.hid (below_dr0 HB.out hD)
        clear hD BK HB
        go_wp2_with fail
        refine (C3.out _).mono ?_
        rintro e w4 ⟨rfl, hB⟩
        have BK4 := Lib.hid (blk_below BK3.out hB)
        have HB4 := Lib.hid (below_on HB3.out hB)
        clear hB
        obtain ⟨c0, c1, c2, c3, f0, f1, f2, f3⟩ := cells4 BK4.out
        go_wp2_with fail
        refine bodyPost_ret (results_ctt rfl _ _ gb 24 #[.int .i64 k, .int .i64 n, .string t, .int .i64 p] (0, 0) _ rfl (tok_put BK4.out) Tryd.underlying24 rfl (by kernel_rfl)) rfl ?_
        exact ⟨rfl, put_below HB4.out GE.out⟩
      · have m34 : ((c.toNat : Int) == 34) = false := beq_eq_false_iff_ne.2 (by omega)
        have C5 := Lib.hid fun wx => small_any c wx
        cases hsm : smallC c
        · rw [at_sign hd h34 hsm]
          rw [hsm] at C5
          rw [← hc]
          obtain ⟨R, hRR⟩ : ∃ R, R = sfind (s.data.toList.drop a) 15 0 := ⟨_, rfl⟩
          have HSY := Lib.hid (sign_yes s a)
          have HSN := Lib.hid (sign_no s a)
          have HPX := Lib.hid fun k wx => prefix_any s a k wx
          obtain ⟨T, hT⟩ : ∃ T, T = signR (s.data.toList.drop a) a := ⟨_, rfl⟩
          rw [← hT] at HSY HSN ⊢
          have HR := Lib.hid hRR
          rw [← hRR] at HSY HSN
          have hsz : (Tryd.prog.info? 57).map (·.size) = some signsA.size := by kernel_rfl
          have HGS := Lib.hid fun wx (h : Below w.heap.size w wx) => (hG.below h).signs
          generalize hb : (c.toNat : Int) = b at hxb C2 C5 m34
          have b0 : (a : Int) ≤ (s.size : Int) := by omega
          clear hT hRR hd hsm h34 hx hc hb
          go_enter Tryd.func10, Tryd.ntmps10
          go_wp2_with (first | ((with_reducible refine gate_dst (N := 4) rfl ?_); refine box_event ?hg (N := 4) ?hd (cs := zeroT) (t := 24) ?hr ?_; (case hd => rfl); (case hg => rfl); (case hr => first | (go_simp; done) | (go_simp; rfl)); intro gb hg w1 hbox hb; have BK := Lib.hid hbox; have GE := Lib.hid (Nat.le_of_eq hg.symm); have HB := Lib.hid hb; clear hg hbox hb))
          refine (C1.out _).mono ?_
          rintro e w2 ⟨rfl, rfl⟩
          go_wp2_with fail
          refine (C2.out _).mono ?_
          rintro e w3 ⟨rfl, hD⟩
          have BK3 := Lib.hid (blk_dr BK.out hD)
          have HB3 := Lib.hid (below_dr0 HB.out hD)
          clear hD BK HB
          go_wp2_with fail
          refine (C5.out _).mono ?_
          rintro e w4 ⟨rfl, hD⟩
          have BK4 := Lib.hid (blk_dr BK3.out hD)
          have HB4 := Lib.hid (below_dr0 HB3.out hD)
          clear hD
          obtain ⟨t, fr, hg⟩ := HGS.out w4 HB4.out
          have HG0 := Lib.hid hg
          clear hg
          go_wp2_with (refine wpList_load_row rfl 57 _ rfl 0 rfl t signsA fr _ HG0.out Tryd.underlying57 rfl hsz ?_)
          go_loopg [79] 15 (fun g v79 wx => ∃ k : Nat, k + g = 15 ∧ v79 = .int .i64 k ∧ w4 = wx ∧ Aside0 (R = sfind (s.data.toList.drop a) g k))
          case atStart => exact ⟨0, by omega, rfl, rfl, ⟨HR.out⟩⟩
          case round =>
            obtain ⟨k, hkg, rfl, rfl, HK⟩ := hrel
            by_cases hk : k < 15
            · obtain ⟨g1, rfl⟩ : ∃ m, gk = m + 1 := ⟨gk - 1, by omega⟩
              have hi := sgn_ix k hk
              have CP := Lib.hid (HPX.out k)
              have hsk := sgn_size k hk
              cases hp : sgnAt (s.data.toList.drop a) k
              · have HN := Aside0.mk (HK.out.trans (sfind_no hp))
                rw [hp] at CP
                clear hp HK
                generalize sgn k = x at hi CP
                go_wp2_with fail
                refine (CP.out _).mono ?_
                rintro e w5 ⟨rfl, rfl⟩
                go_wp2_with fail
                go_roundg g1
                case measure => omega
                case rel => exact ⟨k + 1, by omega, by go_num, rfl, HN⟩
              · have HV := Lib.hid (HSY.out k (HK.out.trans (sfind_yes hp)))
                rw [hp] at CP
                clear hp HK
                obtain ⟨c0, c1, c2, c3, f0, f1, f2, f3⟩ := cells4 BK4.out
                generalize hxk : sgn k = x at hi CP HV hsk
                go_wp2_with fail
                refine (CP.out _).mono ?_
                rintro e w5 ⟨rfl, rfl⟩
                go_wp2_with fail
                refine bodyPost_ret (results_ctt rfl _ _ gb 24 #[.int .i64 4, .int .i64 0, .string x, .int .i64 a] (0, 0) _ rfl (tok_put BK4.out) Tryd.underlying24 rfl (by kernel_rfl)) rfl ?_
                exact ⟨by rw [HV.out]; rfl, put_below HB4.out GE.out⟩
            · obtain rfl : k = 15 := by omega
              obtain rfl : gk = 0 := by omega
              have HV := Lib.hid (HSN.out (HK.out.trans rfl))
              obtain ⟨c0, c1, c2, c3, f0, f1, f2, f3⟩ := cells4 BK4.out
              go_wp2
              refine bodyPost_ret (results_ctt rfl _ _ gb 24 zeroT (0, 0) _ rfl (tok_put BK4.out) Tryd.underlying24 rfl (by kernel_rfl)) rfl ?_
              exact ⟨by rw [HV.out, err_tok]; rfl, put_below HB4.out GE.out⟩
        · rw [at_name hd h34 hsm]
          rw [hsm] at C5
          have hrow := rowN_le letC (s.data.toList.drop a)
          rw [List.length_drop, size_list] at hrow
          rw [← hc]
          obtain ⟨en, hen⟩ : ∃ en, en = a + rowN letC (s.data.toList.drop a) := ⟨_, rfl⟩
          have C6 := Lib.hid fun wx => letter_any' s a en wx hs hal hen
          have hle1 : a ≤ en := by omega
          have hle2 : en ≤ s.size := by omega
          have b1 : (a : Int) ≤ (en : Int) := by omega
          have b2 : (en : Int) ≤ (s.size : Int) := by omega
          have HY := Lib.hid (name_yes (s := s) (a := a) (n := rowN letC (s.data.toList.drop a)))
          have HZ := Lib.hid (name_no (s := s) (a := a) (n := rowN letC (s.data.toList.drop a)))
          rw [← hen] at HY HZ
          have C7 := Lib.hid fun wx (h : Below w.heap.size w wx) => right_any (s.extract a en) wx (hG.below h).words
          have C8 := Lib.hid fun wx (h : Below w.heap.size w wx) => word_any (s.extract a en) wx (hG.below h).words
          rw [Lib.toList_data] at C8
          generalize hnr : nameR s a (rowN letC (s.data.toList.drop a)) = R at HY HZ
          clear hen hnr hrow
          cases hrt : rightV (s.extract a en).data.toList
          · rw [hrt] at C7
            by_cases hwd : 0 < wordV (s.extract a en).data.toList
            · have HV := Lib.hid (HY.out (.inr hwd))
              have dw : decide (0 < wordV (s.extract a en).data.toList) = true := decide_eq_true hwd
              generalize wordV (s.extract a en).data.toList = wv at C8 dw
              generalize hb : (c.toNat : Int) = b at hxb C2 C5 m34
              clear HY HZ hrt hwd hd hsm h34 hx hc hb
              go_enter Tryd.func10, Tryd.ntmps10
              go_wp2_with (first | ((with_reducible refine gate_dst (N := 4) rfl ?_); refine box_event ?hg (N := 4) ?hd (cs := zeroT) (t := 24) ?hr ?_; (case hd => rfl); (case hg => rfl); (case hr => first | (go_simp; done) | (go_simp; rfl)); intro gb hg w1 hbox hb; have BK := Lib.hid hbox; have GE := Lib.hid (Nat.le_of_eq hg.symm); have HB := Lib.hid hb; clear hg hbox hb))
              refine (C1.out _).mono ?_
              rintro e w2 ⟨rfl, rfl⟩
              go_wp2_with fail
              refine (C2.out _).mono ?_
              rintro e w3 ⟨rfl, hD⟩
              have BK3 := Lib.hid (blk_dr BK.out hD)
              have HB3 := Lib.hid (below_dr0 HB.out hD)
              clear hD BK HB
              go_wp2_with fail
              refine (C5.out _).mono ?_
              rintro e w4 ⟨rfl, hD⟩
              have BK4 := Lib.hid (blk_dr BK3.out hD)
              have HB4 := Lib.hid (below_dr0 HB3.out hD)
              clear hD
              go_wp2_with fail
              refine (C6.out _).mono ?_
              rintro e w5 ⟨rfl, hD⟩
              have BK5 := Lib.hid (blk_dr BK4.out hD)
              have HB5 := Lib.hid (below_dr0 HB4.out hD)
              clear hD
              go_wp2_with fail
              refine (C7.out _ HB5.out).mono ?_
              rintro e w6 ⟨rfl, hB⟩
              have BK6 := Lib.hid (blk_below BK5.out hB)
              have HB6 := Lib.hid (below_on HB5.out hB)
              clear hB
              go_wp2_with fail
              refine (C8.out _ HB6.out).mono ?_
              rintro e w7 ⟨rfl, rfl⟩
              obtain ⟨c0, c1, c2, c3, f0, f1, f2, f3⟩ := cells4 BK6.out
              go_wp2_with fail
              refine bodyPost_ret (results_ctt rfl _ _ gb 24 #[.int .i64 2, .int .i64 0, .string (s.extract a en), .int .i64 a] (0, 0) _ rfl (tok_put BK6.out) Tryd.underlying24 rfl (by kernel_rfl)) rfl ?_
              exact ⟨by rw [HV.out]; rfl, put_below HB6.out GE.out⟩
            · have HV := Lib.hid (HZ.out (fun h => h.elim (fun e => by rw [hrt] at e; cases e) hwd))
              have dw : decide (0 < wordV (s.extract a en).data.toList) = false := decide_eq_false hwd
              generalize wordV (s.extract a en).data.toList = wv at C8 dw
              generalize hb : (c.toNat : Int) = b at hxb C2 C5 m34
              clear HY HZ hrt hwd hd hsm h34 hx hc hb
              go_enter Tryd.func10, Tryd.ntmps10
              go_wp2_with (first | ((with_reducible refine gate_dst (N := 4) rfl ?_); refine box_event ?hg (N := 4) ?hd (cs := zeroT) (t := 24) ?hr ?_; (case hd => rfl); (case hg => rfl); (case hr => first | (go_simp; done) | (go_simp; rfl)); intro gb hg w1 hbox hb; have BK := Lib.hid hbox; have GE := Lib.hid (Nat.le_of_eq hg.symm); have HB := Lib.hid hb; clear hg hbox hb))
              refine (C1.out _).mono ?_
              rintro e w2 ⟨rfl, rfl⟩
              go_wp2_with fail
              refine (C2.out _).mono ?_
              rintro e w3 ⟨rfl, hD⟩
              have BK3 := Lib.hid (blk_dr BK.out hD)
              have HB3 := Lib.hid (below_dr0 HB.out hD)
              clear hD BK HB
              go_wp2_with fail
              refine (C5.out _).mono ?_
              rintro e w4 ⟨rfl, hD⟩
              have BK4 := Lib.hid (blk_dr BK3.out hD)
              have HB4 := Lib.hid (below_dr0 HB3.out hD)
              clear hD
              go_wp2_with fail
              refine (C6.out _).mono ?_
              rintro e w5 ⟨rfl, hD⟩
              have BK5 := Lib.hid (blk_dr BK4.out hD)
              have HB5 := Lib.hid (below_dr0 HB4.out hD)
              clear hD
              go_wp2_with fail
              refine (C7.out _ HB5.out).mono ?_
              rintro e w6 ⟨rfl, hB⟩
              have BK6 := Lib.hid (blk_below BK5.out hB)
              have HB6 := Lib.hid (below_on HB5.out hB)
              clear hB
              go_wp2_with fail
              refine (C8.out _ HB6.out).mono ?_
              rintro e w7 ⟨rfl, rfl⟩
              obtain ⟨c0, c1, c2, c3, f0, f1, f2, f3⟩ := cells4 BK6.out
              go_wp2_with fail
              refine bodyPost_ret (results_ctt rfl _ _ gb 24 zeroT (0, 0) _ rfl (tok_put BK6.out) Tryd.underlying24 rfl (by kernel_rfl)) rfl ?_
              exact ⟨by rw [HV.out, err_tok]; rfl, put_below HB6.out GE.out⟩
          · rw [hrt] at C7
            have HV := Lib.hid (HY.out (.inl hrt))
            generalize hb : (c.toNat : Int) = b at hxb C2 C5 m34
            clear HY HZ hrt hd hsm h34 hx hc hb C8
            go_enter Tryd.func10, Tryd.ntmps10
            go_wp2_with (first | ((with_reducible refine gate_dst (N := 4) rfl ?_); refine box_event ?hg (N := 4) ?hd (cs := zeroT) (t := 24) ?hr ?_; (case hd => rfl); (case hg => rfl); (case hr => first | (go_simp; done) | (go_simp; rfl)); intro gb hg w1 hbox hb; have BK := Lib.hid hbox; have GE := Lib.hid (Nat.le_of_eq hg.symm); have HB := Lib.hid hb; clear hg hbox hb))
            refine (C1.out _).mono ?_
            rintro e w2 ⟨rfl, rfl⟩
            go_wp2_with fail
            refine (C2.out _).mono ?_
            rintro e w3 ⟨rfl, hD⟩
            have BK3 := Lib.hid (blk_dr BK.out hD)
            have HB3 := Lib.hid (below_dr0 HB.out hD)
            clear hD BK HB
            go_wp2_with fail
            refine (C5.out _).mono ?_
            rintro e w4 ⟨rfl, hD⟩
            have BK4 := Lib.hid (blk_dr BK3.out hD)
            have HB4 := Lib.hid (below_dr0 HB3.out hD)
            clear hD
            go_wp2_with fail
            refine (C6.out _).mono ?_
            rintro e w5 ⟨rfl, hD⟩
            have BK5 := Lib.hid (blk_dr BK4.out hD)
            have HB5 := Lib.hid (below_dr0 HB4.out hD)
            clear hD
            go_wp2_with fail
            refine (C7.out _ HB5.out).mono ?_
            rintro e w6 ⟨rfl, hB⟩
            have BK6 := Lib.hid (blk_below BK5.out hB)
            have HB6 := Lib.hid (below_on HB5.out hB)
            clear hB
            obtain ⟨c0, c1, c2, c3, f0, f1, f2, f3⟩ := cells4 BK6.out
            go_wp2_with fail
            refine bodyPost_ret (results_ctt rfl _ _ gb 24 #[.int .i64 2, .int .i64 0, .string (s.extract a en), .int .i64 a] (0, 0) _ rfl (tok_put BK6.out) Tryd.underlying24 rfl (by kernel_rfl)) rfl ?_
            exact ⟨by rw [HV.out]; rfl, put_below HB6.out GE.out⟩
    · rw [hd] at C2
      rw [at_num hd]
      have C3' := fun wx => number_any s a wx hs hal
      obtain ⟨⟨k, n, t, p, nx, er⟩, hr⟩ : ∃ r, numV s a = r := ⟨_, rfl⟩
      have C3 := Lib.hid fun wx => tok_call (C3' wx) k n t p nx er hr
      rw [hr]
      generalize hb : (c.toNat : Int) = b at hxb C2
      clear C3' hr hd hx hc hb
      go_enter Tryd.func10, Tryd.ntmps10
      go_wp2_with (first | ((with_reducible refine gate_dst (N := 4) rfl ?_); refine box_event ?hg (N := 4) ?hd (cs := zeroT) (t := 24) ?hr ?_; (case hd => rfl); (case hg => rfl); (case hr => first | (go_simp; done) | (go_simp; rfl)); intro gb hg w1 hbox hb; have BK := Lib.hid hbox; have GE := Lib.hid (Nat.le_of_eq hg.symm); have HB := Lib.hid hb; clear hg hbox hb))
      refine (C1.out _).mono ?_
      rintro e w2 ⟨rfl, rfl⟩
      go_wp2_with fail
      refine (C2.out _).mono ?_
      rintro e w3 ⟨rfl, hD⟩
      have BK3 := Lib.hid (blk_dr BK.out hD)
      have HB3 := Lib.hid (below_dr0 HB.out hD)
      clear hD BK HB
      go_wp2_with fail
      refine (C3.out _).mono ?_
      rintro e w4 ⟨rfl, hB⟩
      have BK4 := Lib.hid (blk_below BK3.out hB)
      have HB4 := Lib.hid (below_on HB3.out hB)
      clear hB
      obtain ⟨c0, c1, c2, c3, f0, f1, f2, f3⟩ := cells4 BK4.out
      go_wp2_with fail
      refine bodyPost_ret (results_ctt rfl _ _ gb 24 #[.int .i64 k, .int .i64 n, .string t, .int .i64 p] (0, 0) _ rfl (tok_put BK4.out) Tryd.underlying24 rfl (by kernel_rfl)) rfl ?_
      exact ⟨rfl, put_below HB4.out GE.out⟩
  · have he : s.data.toList.drop a = [] := List.drop_eq_nil_of_le (by rw [size_list]; omega)
    rw [he]
    have ne0 : ((a : Int) == (s.size : Int)) = true := beq_iff_eq.2 (by omega)
    clear he
    go_enter Tryd.func10, Tryd.ntmps10
    go_wp2_with (first | ((with_reducible refine gate_dst (N := 4) rfl ?_); refine box_event ?hg (N := 4) ?hd (cs := zeroT) (t := 24) ?hr ?_; (case hd => rfl); (case hg => rfl); (case hr => first | (go_simp; done) | (go_simp; rfl)); intro gb hg w1 hbox hb; have BK := Lib.hid hbox; have GE := Lib.hid (Nat.le_of_eq hg.symm); have HB := Lib.hid hb; obtain ⟨c0, c1, c2, c3, f0, f1, f2, f3⟩ := cells4 hbox; clear hg hbox hb))
    refine (C1.out _).mono ?_
    rintro e w2 ⟨rfl, rfl⟩
    go_wp2_with fail
    refine bodyPost_ret (results_ctt rfl _ _ gb 24 #[.int .i64 0, .int .i64 0, .string E, .int .i64 a] (0, 0) _ rfl (tok_put BK.out) Tryd.underlying24 rfl (by kernel_rfl)) rfl ?_
    exact ⟨rfl, put_below HB.out GE.out⟩
end Go.Proofs.YteonbgknmpobpaaDoor.TQ
/- The document's text and sign at a place. -/
namespace Go.Proofs.YteonbgknmpobpaaDoor.TR
open Go.RowKit Go.Proofs.YteonbgknmpobpaaDoorW.PrintWords Go.Proofs.YteonbgknmpobpaaDoorW.PrintLast Go.Proofs.YteonbgknmpobpaaDoorW.PrintMore
open Go.Proofs.YteonbgknmpobpaaDoor.PTokenLex Go.Proofs.YteonbgknmpobpaaDoor.TJ Go.Proofs.YteonbgknmpobpaaDoor.TK Go.Proofs.YteonbgknmpobpaaDoor.TL Go.Proofs.YteonbgknmpobpaaDoor.TM Go.Proofs.YteonbgknmpobpaaDoor.TN Go.Proofs.YteonbgknmpobpaaDoor.TO Go.Proofs.YteonbgknmpobpaaDoor.TP Go.Proofs.YteonbgknmpobpaaDoor.TQ
set_option linter.unusedVariables false

theorem wrapA {a d : Nat} {s : B} (h : a < s.size) (hs : s.size ≤ 140737488351232) (hd : d ≤ 400) : wrap64 ((a : Int) + (d : Int)) = ((a + d : Nat) : Int) := by unfold wrap64; omega
theorem six_is (c : UInt8) : treillageref12_six.f (c.toNat : Int) = some (hexN c) := by
  have hc := UInt8.toNat_lt c
  unfold treillageref12_six.f
  rw [refDigit_is]
  simp only [Option.bind_some]
  unfold hexN
  by_cases h : 48 ≤ c.toNat ∧ c.toNat ≤ 57
  · have hd : dig c = true := by unfold dig; rw [decide_eq_true h.1, decide_eq_true h.2]; rfl
    rw [if_pos hd, if_pos h]
    congr 1
    unfold wrap64; omega
  · have hd : ¬ dig c = true := by
      unfold dig
      rw [Bool.and_eq_true, decide_eq_true_iff, decide_eq_true_iff]
      exact h
    rw [if_neg hd, if_neg h]
    by_cases h1 : 97 ≤ c.toNat
    · rw [if_pos (by omega)]
      by_cases h2 : c.toNat ≤ 102
      · rw [if_pos (by omega), if_pos ⟨h1, h2⟩]
        congr 1
        unfold wrap64; omega
      · rw [if_neg (by omega), if_neg (by omega)]
    · rw [if_neg (by omega), if_neg (by omega)]
def partI (c : UInt8) (r : L8) : Int × Int := match stepC c r with
  | none => (0, 0)
  | some (b, n) => (b, (n : Int))
theorem partI_esc {c : UInt8} {r : L8} (h : c.toNat = 92) (b n : Int) (he : escL r = (b, n)) (hn : 0 ≤ n) : partI c r = if n = 0 then (0, 0) else (b, n + 1) := by
  unfold partI stepC
  rw [if_pos h, he]
  by_cases h0 : n = 0
  · rw [if_pos h0, if_pos h0]
  · rw [if_neg h0, if_neg h0]
    simp only [Prod.mk.injEq, true_and]
    omega
theorem part_is (s : B) (hs : s.size ≤ 140737488351232) (a : Nat) (c : UInt8) (ha : a < s.size) (hc : s.data.toList.drop a = c :: s.data.toList.drop (a + 1)) (hb : bt s (a : Int) = (c.toNat : Int)) (h34 : ¬ c.toNat = 34) (k : Nat) (hk : 5 ≤ k) :
    treillageref12_part.f k s (a : Int) = some (partI c (s.data.toList.drop (a + 1))) := by
  obtain ⟨k, rfl⟩ : ∃ m, k = m + 4 := ⟨k - 4, by omega⟩
  have w1 : wrap64 ((a : Int) + 1) = ((a + 1 : Nat) : Int) := wrapA (d := 1) ha hs (by omega)
  have w2 : wrap64 ((a : Int) + 2) = ((a + 2 : Nat) : Int) := wrapA (d := 2) ha hs (by omega)
  have w3 : wrap64 ((a : Int) + 3) = ((a + 3 : Nat) : Int) := wrapA (d := 3) ha hs (by omega)
  unfold treillageref12_part.f
  rw [if_pos (by omega), if_pos (by omega), hb]
  have hlo : c.toNat < 32 ∨ 126 < c.toNat → ∀ m, treillageref12_part.j0 (m + 1) s (a : Int) (c.toNat : Int) true = some (partI c (s.data.toList.drop (a + 1))) := by
    intro h m
    rw [treillageref12_part.j0, if_pos rfl]
    unfold partI stepC
    rw [if_neg (by omega), if_pos h]
  by_cases h32 : c.toNat < 32
  · rw [if_pos (by omega)]; exact hlo (.inl h32) _
  · rw [if_neg (by omega)]
    by_cases h126 : 126 < c.toNat
    · rw [if_pos (by omega)]; exact hlo (.inr h126) _
    · rw [if_neg (by omega), treillageref12_part.j0, if_neg (by rw [beq_iff_eq]; omega)]
      by_cases h92 : c.toNat = 92
      · rw [if_pos (by omega), w1]
        by_cases h1 : a + 1 < s.size
        · obtain ⟨x, hx, hbx⟩ := drop_cons s (a + 1) h1
          rw [if_pos (by omega), if_pos (by omega), hbx, hx]
          have hE : escL (x :: s.data.toList.drop (a + 1 + 1)) = escC x (s.data.toList.drop (a + 1 + 1)) := rfl
          by_cases hx34 : x.toNat = 34
          · rw [if_pos (by omega), treillageref12_part.j1, if_pos rfl, w1, if_pos (by omega), if_pos (by omega), hbx, partI_esc h92 _ _ (hE.trans (esc_q (.inl hx34))) (by omega)]
            rfl
          · rw [if_neg (by omega)]
            by_cases hx92 : x.toNat = 92
            · rw [show ((x.toNat : Int) == 92) = true from by rw [beq_iff_eq]; omega, treillageref12_part.j1, if_pos rfl, w1, if_pos (by omega), if_pos (by omega), hbx, partI_esc h92 _ _ (hE.trans (esc_q (.inr hx92))) (by omega)]
              rfl
            · rw [show ((x.toNat : Int) == 92) = false from by rw [beq_eq_false_iff_ne]; omega, treillageref12_part.j1, if_neg (by simp), w1, if_pos (by omega), if_pos (by omega), hbx]
              by_cases hx110 : x.toNat = 110
              · rw [show ((x.toNat : Int) == 110) = true from by rw [beq_iff_eq]; omega, treillageref12_part.j2, if_pos rfl, partI_esc h92 _ _ (hE.trans (esc_n hx110)) (by omega)]
                rfl
              · rw [show ((x.toNat : Int) == 110) = false from by rw [beq_eq_false_iff_ne]; omega, treillageref12_part.j2, if_neg (by simp), w3, w1, w2]
                have hf : ∀ m, treillageref12_part.j3 (m + 1) s (a : Int) false = some (0, 0) := by intro m; rw [treillageref12_part.j3, if_neg (by simp)]
                by_cases h3 : a + 3 < s.size
                · obtain ⟨y, hy, hby⟩ := drop_cons s (a + 2) (by omega)
                  obtain ⟨z, hz, hbz⟩ := drop_cons s (a + 3) h3
                  have hyz : s.data.toList.drop (a + 1 + 1) = y :: z :: s.data.toList.drop (a + 4) := by
                    rw [show a + 1 + 1 = a + 2 from rfl, hy, show a + 2 + 1 = a + 3 from rfl, hz]
                  rw [if_pos (by omega), if_pos (by omega), if_pos (by omega), hbx]
                  by_cases hx120 : x.toNat = 120
                  · rw [if_pos (by omega), if_pos (by omega), if_pos (by omega), hby, six_is]
                    simp only [Option.bind_some]
                    have hEH : escL (x :: s.data.toList.drop (a + 1 + 1)) = escH (y :: z :: s.data.toList.drop (a + 4)) := by rw [hE, esc_120 hx120, hyz]
                    by_cases hy0 : 0 ≤ hexN y
                    · rw [if_pos (by omega), if_pos (by omega), hbz, six_is]
                      simp only [Option.bind_some]
                      by_cases hz0 : 0 ≤ hexN z
                      · have by1 := hexN_le y
                        have bz1 := hexN_le z
                        rw [show decide (hexN z ≥ 0) = true from decide_eq_true hz0, treillageref12_part.j3, if_pos rfl, w2, w3, if_pos (by omega), if_pos (by omega), hby, six_is]
                        simp only [Option.bind_some]
                        rw [if_pos (by omega), if_pos (by omega), hbz, six_is]
                        simp only [Option.bind_some]
                        rw [partI_esc h92 _ _ (hEH.trans (esc_h hy0 hz0)) (by omega)]
                        have e1 : wrap64 (16 * hexN y) = 16 * hexN y := by unfold wrap64; omega
                        have e2 : wrap64 (16 * hexN y + hexN z) = 16 * hexN y + hexN z := by unfold wrap64; omega
                        rw [e1, e2, show (16 * hexN y + hexN z) % 256 = 16 * hexN y + hexN z from by omega]
                        rfl
                      · rw [show decide (hexN z ≥ 0) = false from decide_eq_false hz0, hf, partI_esc h92 _ _ (hEH.trans (esc_h0 (fun h => hz0 h.2))) (by omega)]
                        rfl
                    · rw [if_neg (by omega), hf, partI_esc h92 _ _ (hEH.trans (esc_h0 (fun h => hy0 h.1))) (by omega)]
                      rfl
                  · rw [if_neg (by omega), hf, partI_esc h92 _ _ (hE.trans (esc_x hx34 hx92 hx110 hx120)) (by omega)]
                    rfl
                · rw [if_neg (by omega), hf]
                  by_cases hx120 : x.toNat = 120
                  · rw [partI_esc h92 _ _ ((hE.trans (esc_120 hx120)).trans (esc_s (by rw [List.length_drop, size_list]; omega))) (by omega)]
                    rfl
                  · rw [partI_esc h92 _ _ (hE.trans (esc_x hx34 hx92 hx110 hx120)) (by omega)]
                    rfl
        · rw [if_neg (by omega), treillageref12_part.j1, if_neg (by simp), w1, if_neg (by omega), treillageref12_part.j2, if_neg (by simp), w3, if_neg (by omega), treillageref12_part.j3, if_neg (by simp)]
          have hd : s.data.toList.drop (a + 1) = [] := List.drop_eq_nil_of_le (by rw [size_list]; omega)
          rw [hd, partI_esc h92 0 0 rfl (by omega)]
          rfl
      · rw [if_neg (by omega)]
        unfold partI stepC
        rw [if_neg h92, if_neg (by omega)]
        rfl
end Go.Proofs.YteonbgknmpobpaaDoor.TR
/- The document's text and sign at a place. -/
namespace Go.Proofs.YteonbgknmpobpaaDoor.TS
open Go.RowKit Go.Proofs.YteonbgknmpobpaaDoorW.PrintWords Go.Proofs.YteonbgknmpobpaaDoorW.PrintLast Go.Proofs.YteonbgknmpobpaaDoorW.PrintMore
open Go.Proofs.YteonbgknmpobpaaDoor.PTokenLex Go.Proofs.YteonbgknmpobpaaDoor.TJ Go.Proofs.YteonbgknmpobpaaDoor.TK Go.Proofs.YteonbgknmpobpaaDoor.TL Go.Proofs.YteonbgknmpobpaaDoor.TM Go.Proofs.YteonbgknmpobpaaDoor.TN Go.Proofs.YteonbgknmpobpaaDoor.TO Go.Proofs.YteonbgknmpobpaaDoor.TP Go.Proofs.YteonbgknmpobpaaDoor.TQ Go.Proofs.YteonbgknmpobpaaDoor.TR
set_option linter.unusedVariables false

theorem nums_app (out : List Int) (b : Int) : strOfNums (out ++ [b]) = strOfNums out ++ strOfNums [b] := by
  unfold strOfNums
  apply ByteArray.ext
  simp
theorem nums_size (out : List Int) : (strOfNums out).size = out.length := by
  unfold strOfNums
  simp [ByteArray.size]
theorem step_le {c : UInt8} {r : L8} {b : Int} {n : Nat} (h : stepC c r = some (b, n)) : 1 ≤ n ∧ n ≤ r.length + 1 := by
  unfold stepC at h
  split at h
  · split at h
    · cases h
    · injection h with h
      have h2 := (Prod.mk.inj h).2
      have he := esc_le r
      omega
  · split at h
    · cases h
    · injection h with h
      have h2 := (Prod.mk.inj h).2
      omega
theorem partI_none {c : UInt8} {r : L8} (h : stepC c r = none) : partI c r = (0, 0) := by unfold partI; rw [h]
theorem partI_some {c : UInt8} {r : L8} {b : Int} {n : Nat} (h : stepC c r = some (b, n)) : partI c r = (b, (n : Int)) := by unfold partI; rw [h]
theorem refText_loop (s : B) (hs : s.size ≤ 140737488351232) (f : Nat) (d : Nat) : ∀ (k a g : Nat) (out : List Int), a + d = s.size → 2 * d + 10 ≤ k → d < g → out.length ≤ a →
    treillageref12_text.l0 k s (f : Int) (strOfNums out) (a : Int) = some (textF f g (s.data.toList.drop a) out a) := by
  induction d using Nat.strongRecOn with
  | ind d ih =>
    intro k a g out had hk hg hol
    obtain ⟨k, rfl⟩ : ∃ m, k = m + 2 := ⟨k - 2, by omega⟩
    obtain ⟨g, rfl⟩ : ∃ m, g = m + 1 := ⟨g - 1, by omega⟩
    rw [treillageref12_text.l0]
    by_cases hlt : a < s.size
    · obtain ⟨c, hc, hb⟩ := drop_cons s a hlt
      rw [if_pos (by omega), if_pos (by omega), hb]
      by_cases h34 : c.toNat = 34
      · rw [show ((c.toNat : Int) != 34) = false from by rw [bne_eq_false_iff_eq]; omega, treillageref12_text.j1, if_neg (by simp), if_neg (by omega), nums_size, hc]
        by_cases hl : 256 < out.length
        · rw [if_pos (by omega), t_long h34 hl]; rfl
        · rw [if_neg (by omega), t_34 h34 hl, show wrap64 ((a : Int) + 1) = ((a + 1 : Nat) : Int) from wrapA (d := 1) hlt hs (by omega)]
      · rw [show ((c.toNat : Int) != 34) = true from by rw [bne_iff_ne]; omega, treillageref12_text.j1, if_pos rfl, part_is s hs a c hlt hc hb h34 k (by omega)]
        simp only [Option.bind_some]
        cases hst : stepC c (s.data.toList.drop (a + 1)) with
        | none =>
          rw [partI_none hst, hc, t_no h34 hst]
          rfl
        | some bn =>
          obtain ⟨b, n⟩ := bn
          obtain ⟨n1, n2⟩ := step_le hst
          rw [List.length_drop, size_list] at n2
          rw [partI_some hst, hc, t_step h34 hst]
          simp only []
          have e1 : (strOfNums [b]).size = 1 := nums_size [b]
          have e0 := nums_size out
          have hn0 : ¬ (n : Int) = 0 := by omega
          have hcap : (strOfNums out).size + (strOfNums [b]).size ≤ 9223372036854775807 := by rw [e1, e0]; omega
          rw [if_neg hn0, if_pos hcap, ← nums_app]
          have ew : wrap64 ((a : Int) + (n : Int)) = ((a + n : Nat) : Int) := by unfold wrap64; omega
          rw [ew, ← hc, List.drop_drop]
          have hlen : (out ++ [b]).length = out.length + 1 := by rw [List.length_append]; rfl
          clear hcap e1 e0 ew
          have z1 : d - n < d := by omega
          have z2 : a + n + (d - n) = s.size := by omega
          have z3 : 2 * (d - n) + 10 ≤ k := by omega
          have z4 : d - n < g := by omega
          have z5 : (out ++ [b]).length ≤ a + n := by rw [hlen]; omega
          exact ih (d - n) z1 k (a + n) g (out ++ [b]) z2 z3 z4 z5
    · rw [if_neg (by omega), treillageref12_text.j1, if_neg (by simp), if_pos (by omega), List.drop_eq_nil_of_le (by rw [size_list]; omega), t_end]
      rfl
theorem refText_is (s : B) (hs : s.size ≤ 140737488351232) (f : Nat) (hf : f < s.size) (k : Nat) (hk : 2 * s.size + 20 ≤ k) : treillageref12_text.f k s (f : Int) = some (textV s f) := by
  unfold treillageref12_text.f textV
  rw [show wrap64 ((f : Int) + 1) = ((f + 1 : Nat) : Int) from wrapA (d := 1) hf hs (by omega)]
  exact refText_loop s hs f (s.size - (f + 1)) k (f + 1) (s.size + 1) [] (by omega) (by omega) (by omega) (by simp)

/-! ### Signs -/
theorem prefix_take {l p : L8} : Lib.hasPrefix l p = decide (l.take p.length = p) := by
  unfold Lib.hasPrefix
  rw [Bool.eq_iff_iff, decide_eq_true_iff, List.isPrefixOf_iff_prefix]
  exact ⟨fun h => (List.prefix_iff_eq_take.1 h).symm, fun h => List.prefix_iff_eq_take.2 h.symm⟩
theorem begins_is (s : B) (hs : s.size ≤ 140737488351232) (a : Nat) (ha : a ≤ s.size) (x : B) (hx : x.size ≤ 100) : treillageref12_begins.f s (a : Int) x = some (Lib.hasPrefix (s.data.toList.drop a) x.data.toList) := by
  unfold treillageref12_begins.f
  have e1 : wrap64 ((s.size : Int) - (a : Int)) = (s.size : Int) - (a : Int) := by unfold wrap64; omega
  have e2 : wrap64 ((a : Int) + (x.size : Int)) = ((a + x.size : Nat) : Int) := by unfold wrap64; omega
  rw [e1, e2]
  by_cases h : x.size ≤ s.size - a
  · rw [if_pos (by omega), if_pos (by omega), if_pos (by omega), if_pos (by omega), Int.toNat_natCast, Int.toNat_natCast, prefix_take, Lib.toList_data, Lib.toList_data, Lib.extract_data, size_list]
    congr 1
    rw [show a + x.size - a = x.size from by omega, Bool.eq_iff_iff, beq_iff_eq, decide_eq_true_iff]
  · rw [if_neg (by omega)]
    congr 1
    symm
    rw [prefix_take, decide_eq_false_iff_not]
    intro e
    have := congrArg List.length e
    rw [List.length_take, List.length_drop, size_list, size_list] at this
    omega
def oneS : B := ⟨#[58, 59, 123, 125, 40, 41, 38, 124, 43, 45, 42, 46]⟩
def pick (o : Option Nat) : B := match o with
  | some k => sgn k
  | none => E
theorem one_at (i : Nat) (hi : i < 12) : ∃ ch : UInt8, bt oneS (i : Int) = (ch.toNat : Int) ∧ (sgn (3 + i)).data.toList = [ch] ∧ oneS.extract i (i + 1) = sgn (3 + i) := by
  rcases (by omega : i = 0 ∨ i = 1 ∨ i = 2 ∨ i = 3 ∨ i = 4 ∨ i = 5 ∨ i = 6 ∨ i = 7 ∨ i = 8 ∨ i = 9 ∨ i = 10 ∨ i = 11) with rfl | rfl | rfl | rfl | rfl | rfl | rfl | rfl | rfl | rfl | rfl | rfl
  · exact ⟨58, by decide +kernel, by decide +kernel, by decide +kernel⟩
  · exact ⟨59, by decide +kernel, by decide +kernel, by decide +kernel⟩
  · exact ⟨123, by decide +kernel, by decide +kernel, by decide +kernel⟩
  · exact ⟨125, by decide +kernel, by decide +kernel, by decide +kernel⟩
  · exact ⟨40, by decide +kernel, by decide +kernel, by decide +kernel⟩
  · exact ⟨41, by decide +kernel, by decide +kernel, by decide +kernel⟩
  · exact ⟨38, by decide +kernel, by decide +kernel, by decide +kernel⟩
  · exact ⟨124, by decide +kernel, by decide +kernel, by decide +kernel⟩
  · exact ⟨43, by decide +kernel, by decide +kernel, by decide +kernel⟩
  · exact ⟨45, by decide +kernel, by decide +kernel, by decide +kernel⟩
  · exact ⟨42, by decide +kernel, by decide +kernel, by decide +kernel⟩
  · exact ⟨46, by decide +kernel, by decide +kernel, by decide +kernel⟩
theorem one_lt {i d : Nat} (h : i + (d + 1) = 12) : (i : Int) < (oneS.size : Int) ∧ (i : Int) ≤ ((i + 1 : Nat) : Int) ∧ ((i + 1 : Nat) : Int) ≤ (oneS.size : Int) := by
  show (i : Int) < ((12 : Nat) : Int) ∧ (i : Int) ≤ ((i + 1 : Nat) : Int) ∧ ((i + 1 : Nat) : Int) ≤ ((12 : Nat) : Int)
  omega
theorem one_ge {i : Nat} (h : i + 0 = 12) : ¬ (i : Int) < (oneS.size : Int) := by
  show ¬ (i : Int) < ((12 : Nat) : Int)
  omega
theorem wrap_i {i d : Nat} (h : i + (d + 1) = 12) : wrap64 ((i : Int) + 1) = ((i + 1 : Nat) : Int) := by unfold wrap64; omega
theorem refSign_loop (s : B) (a : Nat) (c : UInt8) (ha : a < s.size) (hc : s.data.toList.drop a = c :: s.data.toList.drop (a + 1)) (hb : bt s (a : Int) = (c.toNat : Int)) (d : Nat) : ∀ (k i : Nat), i + d = 12 → d < k →
    treillageref12_sign.l0 k s (a : Int) oneS (i : Int) = some (pick (sfind (s.data.toList.drop a) d (3 + i))) := by
  induction d with
  | zero =>
    intro k i hi hk
    obtain ⟨k, rfl⟩ : ∃ m, k = m + 1 := ⟨k - 1, by omega⟩
    have p1 := one_ge hi
    rw [treillageref12_sign.l0, if_neg p1]
    rfl
  | succ d ih =>
    intro k i hi hk
    obtain ⟨k, rfl⟩ : ∃ m, k = m + 1 := ⟨k - 1, by omega⟩
    have hw := wrap_i hi
    obtain ⟨p1, q1, q2⟩ := one_lt hi
    have p2 : (0 : Int) ≤ (a : Int) := by omega
    have p3 : (a : Int) < (s.size : Int) := by omega
    have p4 : (0 : Int) ≤ (i : Int) := by omega
    have z1 : i + 1 + d = 12 := by omega
    have z2 : d < k := by omega
    have z3 : i < 12 := by omega
    have z4 : 3 + i + 1 = 3 + (i + 1) := by omega
    obtain ⟨ch, h1, h2, h3⟩ := one_at i z3
    rw [treillageref12_sign.l0, if_pos p1, if_pos p2, if_pos p3, if_pos p4, hb, h1, hw]
    have hat : sgnAt (s.data.toList.drop a) (3 + i) = decide (c = ch) := by
      unfold sgnAt
      rw [h2, prefix_take, hc]
      simp
    by_cases e : c = ch
    · have e' : (c.toNat : Int) = (ch.toNat : Int) := by rw [e]
      rw [if_pos e', if_pos q1, if_pos q2, Int.toNat_natCast, Int.toNat_natCast, h3, sfind_yes (by rw [hat]; exact decide_eq_true e)]
      rfl
    · have e' : ¬ (c.toNat : Int) = (ch.toNat : Int) := fun h => e (UInt8.toNat_inj.1 (Int.ofNat.inj h))
      rw [if_neg e', ih k (i + 1) z1 z2, sfind_no (by rw [hat]; exact decide_eq_false e), z4]
theorem refSign_is (s : B) (hs : s.size ≤ 140737488351232) (a : Nat) (c : UInt8) (ha : a < s.size) (hc : s.data.toList.drop a = c :: s.data.toList.drop (a + 1)) (hb : bt s (a : Int) = (c.toNat : Int)) (k : Nat) (hk : 20 ≤ k) :
    treillageref12_sign.f k s (a : Int) = some (pick (sfind (s.data.toList.drop a) 15 0)) := by
  obtain ⟨k, rfl⟩ : ∃ m, k = m + 1 := ⟨k - 1, by omega⟩
  unfold treillageref12_sign.f
  have b0 := begins_is s hs a (by omega) ⟨#[46, 46, 46]⟩ (by decide)
  have b1 := begins_is s hs a (by omega) ⟨#[62, 61]⟩ (by decide)
  have b2 := begins_is s hs a (by omega) ⟨#[60, 61]⟩ (by decide)
  have e0 : Lib.hasPrefix (s.data.toList.drop a) (⟨#[46, 46, 46]⟩ : B).data.toList = sgnAt (s.data.toList.drop a) 0 := rfl
  have e1 : Lib.hasPrefix (s.data.toList.drop a) (⟨#[62, 61]⟩ : B).data.toList = sgnAt (s.data.toList.drop a) 1 := rfl
  have e2 : Lib.hasPrefix (s.data.toList.drop a) (⟨#[60, 61]⟩ : B).data.toList = sgnAt (s.data.toList.drop a) 2 := rfl
  rw [e0] at b0; rw [e1] at b1; rw [e2] at b2
  rw [b0]
  simp only [Option.bind_some]
  have two : ∀ x : B, x.size = 2 → Lib.hasPrefix (s.data.toList.drop a) x.data.toList = true → treillageref12_sign.j0 (k + 1) s (a : Int) true = some x := by
    intro x hx h
    rw [prefix_take, decide_eq_true_iff, size_list, hx] at h
    have hl := congrArg List.length h
    rw [List.length_take, List.length_drop, size_list, size_list, hx] at hl
    have ew : wrap64 ((a : Int) + 2) = ((a + 2 : Nat) : Int) := wrapA (d := 2) ha hs (by omega)
    rw [treillageref12_sign.j0, if_pos rfl, ew, if_pos (by omega), if_pos (by omega), if_pos (by omega), Int.toNat_natCast, Int.toNat_natCast]
    congr 1
    apply ByteArray.ext
    apply Array.ext'
    rw [Lib.extract_data, show a + 2 - a = 2 from by omega, h]
  by_cases h0 : sgnAt (s.data.toList.drop a) 0 = true
  · rw [if_pos h0, sfind_yes h0]; rfl
  · rw [if_neg h0, b1, sfind_no (by simpa using h0)]
    simp only [Option.bind_some]
    by_cases h1 : sgnAt (s.data.toList.drop a) 1 = true
    · rw [if_pos h1, sfind_yes h1, two ⟨#[62, 61]⟩ rfl h1]; rfl
    · rw [if_neg h1, b2, sfind_no (by simpa using h1)]
      simp only [Option.bind_some]
      by_cases h2 : sgnAt (s.data.toList.drop a) 2 = true
      · rw [h2, sfind_yes h2, two ⟨#[60, 61]⟩ rfl h2]; rfl
      · have h2' : sgnAt (s.data.toList.drop a) 2 = false := by simpa using h2
        rw [h2', sfind_no h2', treillageref12_sign.j0, if_neg (by simp)]
        exact refSign_loop s a c ha hc hb 12 k 0 (by omega) (by omega)
end Go.Proofs.YteonbgknmpobpaaDoor.TS
