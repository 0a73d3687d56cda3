/- The program's Split and Text. -/
import Derived.Test.YteonbgknmpobpaaDoorNE
import Derived.Test.YteonbgknmpobpaaDoorShelf
namespace Go.Proofs.YteonbgknmpobpaaDoor.NF
open Go.RowKit Go.Proofs.YteonbgknmpobpaaDoorW.PrintWords Go.Proofs.YteonbgknmpobpaaDoorW.PrintLast Go.Proofs.YteonbgknmpobpaaDoorW.PrintMore
open Go.Proofs.YteonbgknmpobpaaDoor.NX Go.Proofs.YteonbgknmpobpaaDoor.NW Go.Proofs.YteonbgknmpobpaaDoor.NR Go.Proofs.YteonbgknmpobpaaDoor.NP Go.Proofs.YteonbgknmpobpaaDoor.NQ Go.Proofs.YteonbgknmpobpaaDoor.NS Go.Proofs.YteonbgknmpobpaaDoor.NC Go.Proofs.YteonbgknmpobpaaDoor.ND Go.Proofs.YteonbgknmpobpaaDoor.NE
set_option linter.unusedVariables false

/-- What the walks need of the package variables. -/
structure Gl (w : World) : Prop where
  words : WordsAt w
  max : ∃ m, w.cell? ⟨2, 0, none⟩ = some (.int .i64 m)
theorem Gl.below {w w' : World} (h : Gl w) (hb : Below w.heap.size w w') : Gl w' :=
  ⟨h.words.below hb, by obtain ⟨m, hm⟩ := h.max; exact ⟨m, pw_cell_below hb hm⟩⟩

def dot : B := ⟨#[46]⟩
theorem splitB_is (s : B) : Lib.splitB dot 0 (Lib.countB s dot) s = toB (cutD s.data.toList) := by
  rw [← toB_dat (Lib.splitB dot 0 (Lib.countB s dot) s)]
  have h := Lib.splitB_data dot 0 (Lib.countB s dot) s
  have h2 : dat (Lib.splitB dot 0 (Lib.countB s dot) s) = cutD s.data.toList := h.trans (splitK_cut s.data.toList)
  rw [h2]
theorem cut_count (s : L8) : (cutD s).length = Lib.count s [46] + 1 := by
  induction s with
  | nil => rfl
  | cons c r ih =>
    unfold cutD
    by_cases hc : c = 46
    · subst hc; rw [if_pos rfl, List.length_cons, ih, Lib.count_cons_eq, Nat.add_comm 1]
    · rw [if_neg hc, Lib.count_cons_ne _ _ _ hc, ← ih]
      cases hd : cutD r with
      | nil => exact absurd hd (cutD_ne r)
      | cons a t => rfl
theorem toB_len (l : List L8) : (toB l).length = l.length := by unfold toB; rw [List.length_map]
theorem count_is (s : B) : Lib.countB s dot + 1 = (toB (cutD s.data.toList)).length := by
  rw [toB_len, cut_count]; rfl
theorem add_plain (b o j : Nat) : (⟨b, o, none⟩ : Addr).add j = ⟨b, o + j, none⟩ := by
  unfold Addr.add
  split
  · rename_i h; rw [h]; rfl
  · rfl
theorem reads_new (w : World) (l : List B) (hl : l.length ≤ 9223372036854775807) : Reads (w.alloc (.cells (l.map Value.string).toArray 9)) (some ⟨w.heap.size, 0, none⟩) l.length l := by
  refine ⟨rfl, hl, fun _ => ⟨_, rfl, fun j hj => ?_⟩⟩
  rw [add_plain, Nat.zero_add]
  simp only [World.cell?, World.alloc]
  rw [Array.getElem?_push, if_pos rfl]
  simp [List.getElem?_eq_getElem hj]
theorem pathV_long (s : B) (h : 272 < s.size) : splitV s = [] := by
  unfold splitV fin
  rw [pathV_L, dat_toB, long_no _ (by rw [sizeL]; exact h)]
  rfl
theorem fin_len (p : List B) (h : pathV p = true) : 0 < p.length := by
  unfold pathV at h
  simp only [Bool.and_eq_true, decide_eq_true_eq] at h
  omega
theorem fin_no (s : B) (h : pathV (toB (cutD s.data.toList)) = false) : splitV s = [] := by unfold splitV fin; rw [h]; rfl
theorem fin_yes (s : B) (h : pathV (toB (cutD s.data.toList)) = true) : splitV s = toB (cutD s.data.toList) := by unfold splitV fin; rw [h]; rfl
theorem nil_reads (w : World) : Reads w none ([] : List B).length [] := ReadsOf.nil _ _ w
/-- What Split hands back. -/
def SplitPost (s : B) (w : World) (e : Ending) (w' : World) : Prop := ∃ A c, e = .returned (.tuple #[.slice A (splitV s).length c, .bool (decide (0 < (splitV s).length))]) ∧ (splitV s).length ≤ c ∧ Reads w' A (splitV s).length (splitV s) ∧ Below w.heap.size w w'
theorem split_post_no {s : B} {w w' : World} (h : splitV s = []) (hb : Below w.heap.size w w') : SplitPost s w (.returned (.tuple #[.slice none 0 0, .bool false])) w' := by
  unfold SplitPost
  rw [h]
  exact ⟨none, 0, rfl, Nat.le_refl _, nil_reads _, hb⟩
theorem split_post_yes {s : B} {w w' : World} {l : List B} {A : Option Addr} (h : splitV s = l) (h0 : 0 < l.length) (hr : Reads w' A l.length l) (hb : Below w.heap.size w w') : SplitPost s w (.returned (.tuple #[.slice A l.length l.length, .bool true])) w' := by
  unfold SplitPost
  rw [h]
  exact ⟨A, l.length, by rw [decide_eq_true h0], Nat.le_refl _, hr, hb⟩
set_option maxHeartbeats 1000000 in
theorem split_any (s : B) (w : World) (hG : Gl w) : Calls Tryd.prog 27 #[.string s] w (SplitPost s w) := by
  by_cases h : 272 < s.size
  · have HV := Lib.hid (pathV_long s h)
    go_enter Tryd.func27, Tryd.ntmps27
    go_wp2_with fail
    go_ret2
    exact split_post_no HV.out (Below.refl _ _)
  · obtain ⟨m, hm⟩ := hG.max
    have hS := Tryd.strings_Split s dot m w (by omega) hm (by decide)
    rw [splitB_is, count_is] at hS
    have HP : Aside0 (∀ p, p = toB (cutD s.data.toList) → pathV p = false → splitV s = []) := ⟨by rintro p rfl; exact fin_no s⟩
    have HQ : Aside0 (∀ p, p = toB (cutD s.data.toList) → pathV p = true → splitV s = p) := ⟨by rintro p rfl; exact fin_yes s⟩
    have hlen : (toB (cutD s.data.toList)).length ≤ 9223372036854775807 := by
      have := cut_len s.data.toList
      rw [sizeL] at this
      rw [toB_len]; omega
    generalize hp : toB (cutD s.data.toList) = p at hS hlen
    have HE := Lib.hid hp.symm
    clear hp
    have hS1 : Calls Tryd.prog 47 #[.string s, .string ⟨#[46]⟩] w fun e w' => e = .returned (.slice (some ⟨w.heap.size, 0, none⟩) p.length p.length) ∧ w' = w.alloc (.cells (p.map Value.string).toArray 9) := hS
    have hR : Reads (w.alloc (.cells (p.map Value.string).toArray 9)) (some ⟨w.heap.size, 0, none⟩) p.length p := reads_new w p hlen
    have HB : Below w.heap.size w (w.alloc (.cells (p.map Value.string).toArray 9)) := below_alloc (Below.refl _ _) _
    have hS2 : Calls Tryd.prog 47 #[.string s, .string ⟨#[46]⟩] w fun e w' => e = .returned (.slice (some ⟨w.heap.size, 0, none⟩) p.length p.length) ∧ (Reads w' (some ⟨w.heap.size, 0, none⟩) p.length p ∧ Below w.heap.size w w') := hS1.mono fun e w' ⟨a, b⟩ => by subst b; exact ⟨a, hR, HB⟩
    have HS := Lib.hid hS2
    have HG := Lib.hid hG
    clear hS hS1 hS2 hR HB hm hG
    generalize (some (⟨w.heap.size, 0, none⟩ : Addr)) = A at HS
    go_enter Tryd.func27, Tryd.ntmps27
    go_wp2_with fail
    refine HS.out.mono ?_
    rintro e w1 ⟨rfl, hR, hB⟩
    have C2 := Lib.hid (path_any A p.length p w1 (HG.out.below hB).words hR)
    have HR := Lib.hid hR
    have HB := Lib.hid hB
    clear hR hB
    cases hv : pathV p
    · have HV := Lib.hid (HP.out p HE.out hv)
      rw [hv] at C2
      clear hv HP HQ
      go_wp2_with fail
      refine C2.out.mono ?_
      rintro e w2 ⟨rfl, hB⟩
      have HB2 := Lib.hid (below_on HB.out hB)
      clear hB
      go_wp2_with fail
      go_ret2
      exact split_post_no HV.out HB2.out
    · have HV := Lib.hid (HQ.out p HE.out hv)
      have HL := Lib.hid (fin_len p hv)
      rw [hv] at C2
      clear hv HP HQ
      go_wp2_with fail
      refine C2.out.mono ?_
      rintro e w2 ⟨rfl, hB⟩
      have HB2 := Lib.hid (below_on HB.out hB)
      have HR2 := Lib.hid (HR.out.below hB)
      clear hB
      go_wp2_with fail
      go_ret2
      exact split_post_yes HV.out HL.out HR2.out HB2.out

/-! ### Text -/
theorem cell_plain {w : World} {a : Addr} {v : Value} (h : w.cell? a = some v) : a = ⟨a.block, a.off, none⟩ ∧ a.block < w.heap.size := by
  unfold World.cell? at h
  split at h
  · rename_i c t fr hb
    split at h
    · cases h
    · rename_i hs
      refine ⟨?_, (Array.getElem?_eq_some_iff.1 hb).1⟩
      cases a with
      | mk b o s => cases s with
        | none => rfl
        | some x => simp at hs
  · cases h
set_option maxHeartbeats 1000000 in
theorem text_any (A : Option Addr) (c : Nat) (l : List B) (w : World) (hG : Gl w) (hc : l.length ≤ c) (hr : Reads w A l.length l) :
    Calls Tryd.prog 29 #[.slice A l.length c] w fun e w' => e = .returned (.tuple #[.string (textV l), .bool (pathV l)]) ∧ Below w.heap.size w w' := by
  have C1 := Lib.hid (path_any A c l w hG.words hr)
  have HR := Lib.hid hr
  have HT := Lib.hid (show textV l = if pathV l = true then ⟨(Lib.join (dat l) [46]).toArray⟩ else ⟨#[]⟩ from rfl)
  cases hv : pathV l
  · have HV := Lib.hid (show textV l = ⟨#[]⟩ from by rw [HT.out, hv]; rfl)
    rw [hv] at C1
    clear hv hr hG HT
    generalize textV l = t at HV
    obtain rfl := HV.out
    go_enter Tryd.func29, Tryd.ntmps29
    go_wp2_with fail
    refine C1.out.mono ?_
    rintro e w1 ⟨rfl, hB⟩
    have HB := Lib.hid hB
    clear hB
    go_wp2_with fail
    go_ret2
    exact ⟨rfl, HB.out⟩
  · have hl := fin_len l hv
    have hv' := hv
    rw [pathV_L] at hv'
    have hj := join_le _ hv'
    have h16 := (pathL_parts _ hv').2.1
    have hL : l.length ≤ 16 := by unfold dat at h16; rw [List.length_map] at h16; exact h16
    obtain ⟨ad, rfl, h0⟩ := reads_at hr 0 hl
    have hp := (cell_plain h0).1
    have hb := (cell_plain h0).2
    have hadd : ad.add 0 = ad := by unfold Addr.add; simp
    rw [hadd] at hp hb
    generalize hbk : ad.block = bk at hp hb
    generalize hof : ad.off = o at hp
    subst hp
    have C2 : Aside0 (∀ wx, Below w.heap.size w wx → Calls Tryd.prog 48 #[.slice (some ⟨bk, o, none⟩) l.length c, .string ⟨#[46]⟩] wx fun e w' => e = .returned (.string (textV l)) ∧ Below wx.heap.size wx w') := Aside0.mk (by
      intro wx hB
      have hsz : w.heap.size ≤ wx.heap.size := hB.size
      have := Tryd.strings_Join bk o c l ⟨#[46]⟩ wx (fun j x hx => by
        obtain ⟨hjl, hxe⟩ := List.getElem?_eq_some_iff.1 hx
        obtain ⟨ad2, e2, h2⟩ := reads_at (HR.out.below hB) j hjl
        injection e2 with e2
        subst e2
        rw [nth_get l j hjl, hxe, add_plain] at h2
        exact h2) (Nat.lt_of_lt_of_le hb hsz) (by omega) hc (by
          exact Nat.le_trans (show (Lib.join (l.map (·.data.toList)) (⟨#[46]⟩ : B).data.toList).length ≤ 271 from hj) (by decide))
      refine this.mono fun e w' ⟨he, hB⟩ => ⟨?_, hB⟩
      rw [he, HT.out, if_pos hv]
      rfl)
    rw [hv] at C1
    clear hv hv' hj h16 hr hG HT h0 hadd HR
    generalize textV l = t at C2
    go_enter Tryd.func29, Tryd.ntmps29
    go_wp2_with fail
    refine C1.out.mono ?_
    rintro e w1 ⟨rfl, hB⟩
    have C3 := Lib.hid (C2.out w1 hB)
    have HB := Lib.hid hB
    clear hB
    go_wp2_with fail
    refine C3.out.mono ?_
    rintro e w2 ⟨rfl, hB⟩
    have HB2 := Lib.hid (below_on HB.out hB)
    clear hB
    go_wp2_with fail
    go_ret2
    exact ⟨rfl, HB2.out⟩
end Go.Proofs.YteonbgknmpobpaaDoor.NF
