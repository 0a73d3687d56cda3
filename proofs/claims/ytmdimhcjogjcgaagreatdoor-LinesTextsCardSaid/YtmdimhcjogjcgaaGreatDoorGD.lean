/- Graphs in memory: Order. -/
import Derived.Test.YtmdimhcjogjcgaaGreatDoorGC
set_option linter.unusedVariables false
set_option linter.unusedSimpArgs false
set_option linter.unusedSectionVars false
set_option linter.deprecated false
set_option linter.unnecessarySimpa false
set_option maxRecDepth 100000
namespace Go.Proofs.YtmdimhcjogjcgaaGreatDoor.Gr
open Go.RowKit Go.Lib Go.Proofs.YtmdimhcjogjcgaaGreatDoor.Lat Go.Proofs.YtmdimhcjogjcgaaGreatDoor.Mp Go.Maps
set_option maxHeartbeats 16000000 in
set_option maxRecDepth 100000 in
theorem order_any {w : World} {B bg bm n N : Nat} {f : Gr} (h : IsG w B bg bm n f) (hok : GrOK f) (hF : Few f N) (hN : N ≤ 16384) (hn : n ≤ 1073741824) :
    Calls Tryz.prog 118 #[.pointer (some ⟨bg, 0, none⟩)] w fun e w' => ∃ vl vb out bound, e = .returned (.tuple #[vl, vb]) ∧ OrdOf f out bound ∧ w'.ownsRow w.heap.size 9 1 vl out.length (out.map encStr) ∧ w'.ownsRow w.heap.size 9 1 vb bound.length (bound.map encStr) ∧ Below w.heap.size w w' := by
  have C1 := Lib.hid (turned_any h hok hF hN hn)
  have hI := Lib.hid h
  have hmm := @run_makeMap Tryz.prog
  go_enter Tryz.func118, Tryz.ntmps118
  go_wp2_with fail
  refine C1.out.mono ?_
  rintro e w1 ⟨bg', bm', f', rfl, hIb, hokb, hptb, hlnb, hB1⟩
  have CP := Lib.hid fun W (hW : Below w.heap.size w W) => points_any (hI.out.below hW) hn
  have hW1 : Below w.heap.size w (w1.alloc (.map #[] 0)) := below_upG hB1 (Nat.le_refl _) ((Below.refl _ w1).alloc (Nat.le_refl _) _)
  have hIb1 := hIb.below (w' := w1.alloc (.map #[] 0)) ((Below.refl _ w1).alloc (Nat.le_refl _) _)
  have hM1 : MapF Tryz.prog 9 (w1.alloc (.map #[] 0)) w1.heap.size 0 (mapC fun _ => none) := MapF.made Tryz.prog 9 w1
  obtain ⟨bl, hbl⟩ : ∃ bl, w1.heap.size = bl := ⟨_, rfl⟩
  have hbl0 : w.heap.size ≤ bl := by rw [← hbl]; exact hB1.size
  replace hIb1 := Lib.hid hIb1
  replace hM1 := Lib.hid hM1
  replace hW1 := Lib.hid hW1
  have hbmlt : bm' < w1.heap.size := by obtain ⟨F, h1, _⟩ := hIb.map; exact h1.lt
  clear C1 hB1 hIb
  go_wp2_with fail
  refine (CP.out _ hW1.out).mono ?_
  rw [hbl] at *
  generalize w1.alloc (.map #[] 0) = w2 at *
  clear hbl
  rintro e wB ⟨vP, P, rfl, hP, hrowP, hBB⟩
  have hPN := hF.pts hP
  have hrdP := row_rd (row_base hrowP (Nat.zero_le _))
  have hPp : ∀ k ∈ P, f k ≠ none := fun k hk => (hP.mem k).1 hk
  have hS0 : Fs f P bl wB 0 (.slice none 0 0) wB := ⟨grown_refl _ _, fun _ => none, [], hM1.out.keptB (hBB.block _ hM1.out.lt), by simp, by simp, ⟨rfl, .inl ⟨rfl, rfl⟩⟩, rfl⟩
  have hIbB := Lib.hid (hIb1.out.below hBB)
  have hWB := below_upG hW1.out (Nat.le_refl _) hBB
  have hIB := Lib.hid (hI.out.below hWB)
  replace hWB := Lib.hid hWB
  obtain ⟨esB, cB, hmapB⟩ : ∃ es c, wB.heap[bl]? = some (.map es c) := (hM1.out.keptB (hBB.block _ hM1.out.lt)).blk
  obtain ⟨A, cap, rfl, hA⟩ := row_read hrowP
  replace hA := Lib.hid hA
  replace hP := Lib.hid hP
  replace hS0 := Lib.hid hS0
  replace hrdP := Lib.hid hrdP
  replace hmapB := Lib.hid hmapB
  have hbmw : bm < w.heap.size := by obtain ⟨_, h1, _⟩ := hI.out.map; exact h1.lt
  obtain ⟨i0, hi, hz0, hz1, hz2⟩ := info_parts info9
  clear hBB hrowP CP hIb1 hM1 hmm
  go_wp2_with fail
  go_loopg [6, 20] P.length (fun gk v6 v20 W => ∃ i : Nat, i + gk = P.length ∧ v20 = .int .i64 i ∧ Ax (Fs f P bl wB i v6 W))
  case atStart => exact ⟨0, by omega, rfl, ⟨hS0.out⟩⟩
  case round =>
    clear hS0
    obtain ⟨i, hig, rfl, HM⟩ := hrel
    by_cases hi' : i < P.length
    · obtain ⟨g1, rfl⟩ : ∃ j, gk = j + 1 := ⟨gk - 1, by omega⟩
      obtain ⟨k, hk⟩ : ∃ x, P[i]? = some x := ⟨P[i], List.getElem?_eq_getElem hi'⟩
      obtain ⟨g, rfl, hg, _, hcell⟩ := hA.out i k hk
      have hkp := hPp k (List.mem_of_getElem? hk)
      have hgb : g ≠ bl := cell_mapne hmapB.out hcell
      have hc : wr.cell? ⟨g, i, none⟩ = some (.string ⟨k.toArray⟩) := by rw [World.cell?_of_block (HM.out.gr.block g hg (by simpa using hgb))]; exact hcell
      have hgr := hIB.out.other HM.out.gr hmapB.out (by omega)
      have C4 := Lib.hid (to_any hgr ⟨k.toArray⟩ (by rw [size_mk]; exact hF.name hkp) fun l hl => Nat.le_trans (hF.list hok hl) (by omega))
      clear hcell hgr
      go_wp2_with fail
      refine C4.out.mono ?_
      rintro e w4 ⟨v4, rfl, hrow4, hB4⟩
      try rw [data_mk] at hrow4
      obtain ⟨C, fr, hmp, hdom, hval, hrowf, hfr⟩ := HM.out.ex
      have hmp4 := hmp.keptB (hB4.block _ hmp.lt)
      obtain ⟨c, hcl⟩ : ∃ c, ((f k).getD []).length = c := ⟨_, rfl⟩
      have hcN : c ≤ 16384 := by
        rw [← hcl]
        cases hf : f k with
        | none => simp
        | some l => exact Nat.le_trans (hF.list hok hf) hN
      obtain ⟨w5, hst, h5⟩ := cnt_store hmp4 k (hF.name hkp) (by unfold maxLen; omega) c
      have hlk := cnt_look h5.out.1 (hF.name hkp) (upd_same C k (some c))
      obtain ⟨es4, c4, hmap4⟩ := hmp4.blk
      have hrow5 := rows_ne hmap4 h5.out.2 (row_below hrowf hB4)
      obtain ⟨es5, c5, hmap5⟩ := h5.out.1.blk
      have hpl := fs_plain hk hdom hval hfr hcl
      obtain ⟨A4, cap4, rfl, _⟩ := row_read hrow4
      have hfrl : fr.length ≤ P.length := by rw [hfr]; exact Nat.le_trans (List.length_filter_le _ _) (by simp; omega)
      have hwB5 : wB.heap.size ≤ w5.heap.size := Nat.le_trans HM.out.gr.size (Nat.le_trans hB4.size h5.out.2.size)
      rw [hcl] at hrow4 ⊢
      replace hmap5 := Lib.hid hmap5
      replace hpl := Lib.hid hpl
      have hHM := Lib.hid HM
      replace hB4 := Lib.hid hB4
      clear C4 hmp hmp4 hrow4 hc hmap4 hrowf HM hdom hval hfr hcl
      by_cases hc0 : c = 0
      · subst hc0
        have hst : (Instr.mapUpdate 219 (.map (some bl)) (.string ⟨k.toArray⟩) (.int .i64 0)).run Tryz.prog w4 = .ok () w5 := hst
        have hlk : (Instr.lookup 219 (.map (some bl)) (.string ⟨k.toArray⟩) false).run Tryz.prog w5 = .ok (.int .i64 0) w5 := hlk
        have b1 : fr.length + 1 ≤ maxLen := by unfold maxLen; omega
        have b2 : (fr.length + 1) * 16 ≤ 140737488355328 := by omega
        have b3 : wB.heap.size ≤ (w5.alloc (.cells #[.string ⟨k.toArray⟩] 9)).heap.size := by simp; omega
        go_wp2_with (at_builtin; refine wpList_append_own_at _ rfl _ _ 37 rfl wB.heap.size 9 i0 (.string ⟨#[]⟩) 1 16 Tryz.underlying37 hi hz0 hz1 hz2 rfl (by decide) u6 fr.length (fr.map encStr) rfl (hrow5.alloc _) ⟨w5.heap.size, 0, none⟩ 1 1 [.string ⟨k.toArray⟩] rfl rfl (cell_one_new _ _ _) (by simp [Value.oneCell']) b1 b2 b3 ?_; intro v' w6 hown' hgrow hnil hloc)
        have hg6 := grown_trans (grown_below u6.ownBlock ((Below.refl _ w5).alloc (Nat.le_refl _) (.cells #[.string ⟨k.toArray⟩] 9))) hgrow
        have hrow6 : w6.ownsRow wB.heap.size 9 1 v' (fr ++ [k]).length ((fr ++ [k]).map encStr) := by
          rw [List.length_append, List.map_append]; exact hown'
        have hnx := Lib.hid (show Ax (Fs f P bl wB (i + 1) v' w6) from ⟨fs_next hHM.out.out hk hB4.out h5 hg6 (fun g e => ⟨(row_lt hrow5 e).1, fun e' => own_ne hmap5.out hrow5 (by rw [e, e'])⟩) hpl.out.1 hpl.out.2.1 (by first | exact hpl.out.2.2.1 rfl | exact hpl.out.2.2.1 trivial) hrow6⟩)
        clear hg6 hrow6 hown' hgrow hnil hloc
        go_roundg g1
        case measure => omega
        case rel => exact ⟨i + 1, by omega, by go_num, hnx.out⟩
      · have hc0' : ¬ (c : Int) = 0 := by omega
        have hnx := Lib.hid (show Ax (Fs f P bl wB (i + 1) u6 w5) from ⟨fs_next hHM.out.out hk hB4.out h5 (grown_refl w5 none) (fun g e => by cases e) hpl.out.1 hpl.out.2.1 (hpl.out.2.2.2 hc0) hrow5⟩)
        go_wp2_with fail
        go_roundg g1
        case measure => omega
        case rel => exact ⟨i + 1, by omega, by go_num, hnx.out⟩
    · obtain rfl : gk = 0 := by omega
      obtain rfl : i = P.length := by omega
      obtain ⟨C, fr, hmp, hdom, hval, hrowf, hfr⟩ := HM.out.ex
      rw [List.take_length] at hdom hfr
      have hInv := Inv.start hP.out hdom hval hfr
      have hgrA := HM.out.gr
      clear HM hdom hval hfr
      have hO : Os wr bl P.length [] C fr (.slice none 0 0) u6 wr := ⟨grown_refl _ _, hmp, ⟨rfl, .inl ⟨rfl, rfl⟩⟩, row_rd (row_base hrowf (Nat.zero_le _)), fun g e => by cases e⟩
      replace hO := Lib.hid hO
      replace hInv := Lib.hid hInv
      replace hgrA := Lib.hid hgrA
      clear hmp hrowf
      generalize hwA : wr = wA at *
      obtain ⟨esA, cA, hmapA⟩ := hO.out.mp.blk
      have hIbA := hIbB.out.other hgrA.out hmapB.out (by omega)
      have hT : ∀ k : Bs, Ris ((f' k).getD []) ∧ (∀ x, x ∈ (f' k).getD [] ↔ Line f x k) ∧ ((f' k).getD []).length ≤ N := fun k => by
        refine ⟨?_, fun x => by rw [mem_getD, hlnb], ?_⟩
        · cases hf : f' k with
          | none => exact List.Pairwise.nil
          | some l => exact hokb.ris k l hf
        · cases hf : f' k with
          | none => simp
          | some l => exact (hF.same hptb).list hokb hf
      have CT := fun (k : Bs) (hk : k.length ≤ maxLen) W (hW : wA.grownBy W (some bl)) => to_any (hIbA.other hW hmapA (by omega)) ⟨k.toArray⟩ (by rw [size_mk]; exact hk) fun l hl => Nat.le_trans ((hF.same hptb).list hokb hl) (by omega)
      simp only [data_mk] at CT
      replace CT := Lib.hid CT
      replace hT := Lib.hid hT
      replace hmapA := Lib.hid hmapA
      clear hIbA
      go_wp2_with fail
      go_loopg [2, 6] P.length (fun gk v2 v6 W => ∃ (out fr : List Bs) (C : Bs → Option Nat) (nl : Nat), out.length + gk = P.length ∧ Ax (Inv f out C fr ∧ Os wA bl nl out C fr v2 v6 W ∧ nl ≤ N + N * out.length))
      case atStart => exact ⟨[], fr, C, P.length, by simp, ⟨hInv.out, hO.out, by simp; exact hPN⟩⟩
      case round =>
        clear hInv hO
        obtain ⟨out, fr2, C2, nl, hog, HQ⟩ := hrel
        cases fr2 with
        | nil =>
          obtain ⟨A6, cap6, e6, _⟩ := id HQ.out.2.1.rf
          subst e6
          obtain ⟨hv, hO, hnl⟩ := HQ.out
          obtain ⟨D, hown, hD⟩ := hO.mp
          have hlen := len_keys (k := 9) Tryz.underlying9 hown
          have hnd := nodup_keys (k := 9) Tryz.underlying9 hown
          have hmem := mem_keys (k := 9) Tryz.underlying9 hown
          have hsz := hown.size_le
          have houtN : out.length ≤ N := by omega
          have hNN2 : N * out.length ≤ 268435456 := by
            calc N * out.length ≤ 16384 * 16384 := Nat.mul_le_mul hN (Nat.le_trans houtN hN)
              _ = 268435456 := by decide
          have CK := Lib.hid ((callsIn_wide (n := 5)).1 (Tryz.maps_Keys_107 (some bl) wr))
          have CS := Lib.hid ((callsIn_wide (n := 5)).1 (Tryz.slices_Sorted_keys_106_107 bl nl D rawR wr hown (by unfold maxLen; omega) (by omega)))
          have hfin : ∀ ss : List Bs, ss.Perm (strKeys D) → OrdOf f out (ss.mergeSort fun x y => decide (x ≤ y)) := fun ss hp => by
            have hp' := (List.mergeSort_perm ss fun x y => decide (x ≤ y)).trans hp
            refine hv.stop hok (ris_sorted (hp.nodup_iff.2 hnd)) fun k => ?_
            rw [hp'.mem_iff, hmem k, ← hD]
            unfold mapC
            cases C2 k <;> simp
          have hWA := below_grown (m := bl) hWB.out (Nat.le_refl _) hgrA.out hbl0
          have hWR := below_grown (m := bl) hWA (Nat.le_refl _) hO.gr hbl0
          have hrl := row_base (B' := w.heap.size) hO.rl hWA.size
          replace hfin := Lib.hid hfin
          replace hWR := Lib.hid hWR
          replace hrl := Lib.hid hrl
          clear HQ hO hown hD hlen hnd hmem hsz hv hWA
          go_wp2_with fail
          refine CK.out.mono ?_
          rintro e w1' ⟨rfl, rfl⟩
          go_wp2_with fail
          refine CS.out.mono ?_
          rintro e w2' ⟨vb, ss, rfl, hS, hrow, hnil, hb⟩
          have hB2 : Below w.heap.size w w2' := below_upG hWR.out (Nat.le_refl _) (below_upG ((Below.refl wr.heap.size wr).alloc (Nat.le_refl _) _) (Nat.le_refl _) hb)
          have hrl2 := row_below (row_below hrl.out ((Below.refl wr.heap.size wr).alloc (Nat.le_refl _) _)) hb
          have hrow2 : w2'.ownsRow w.heap.size 9 1 vb (ss.mergeSort fun x y => decide (x ≤ y)).length ((ss.mergeSort fun x y => decide (x ≤ y)).map encStr) := by
            rw [List.length_mergeSort]
            refine row_base hrow ?_
            have := hWR.out.size
            simp; omega
          have hff := hfin.out ss hS
          replace hB2 := Lib.hid hB2
          replace hrl2 := Lib.hid hrl2
          replace hrow2 := Lib.hid hrow2
          replace hff := Lib.hid hff
          clear hb hrow hnil CS CK
          go_wp2_with fail
          go_ret2
          exact ⟨u2, vb, out, _, rfl, hff.out, hrl2.out, hrow2.out, hB2.out⟩
        | cons k r =>
          obtain ⟨hv, hO, hnl⟩ := HQ.out
          obtain ⟨hk1, hk2, hk3⟩ := hv.head
          have hout : out.length < P.length := by
            have := len_sub (l := out ++ [k]) (m := P) (by
              rw [List.nodup_append]
              exact ⟨hv.nd, by simp, fun a ha b hb e => by simp at hb; subst hb; subst e; exact hk2 ha⟩) fun x hx => by
                rcases List.mem_append.1 hx with hx | hx
                · exact (hP.out.mem x).2 (hv.pt x hx)
                · have e : x = k := by simpa using hx
                  subst e; exact (hP.out.mem x).2 hk1
            simp at this; omega
          obtain ⟨g1, rfl⟩ : ∃ j, gk = j + 1 := ⟨gk - 1, by omega⟩
          have hrN : r.length ≤ N := by
            have := len_sub (l := k :: r) (m := P) hv.ris.nodup fun x hx => (hP.out.mem x).2 ((hv.dom x).1 (by rw [(hv.fr x).1 hx]; simp)).1
            simp at this; omega
          have hkl := hF.name hk1
          have CL := least_any hO.rf (by omega)
          obtain ⟨A6, cap6, e6, _⟩ := id hO.rf
          have hrl0 := hO.rl
          subst e6
          have hNN : N * out.length + N ≤ N * N := by
            calc N * out.length + N = N * (out.length + 1) := by rw [Nat.mul_succ]
              _ ≤ N * N := Nat.mul_le_mul_left _ (by omega)
          have hNN2 : N * N ≤ 268435456 := by
            calc N * N ≤ 16384 * 16384 := Nat.mul_le_mul hN hN
              _ = 268435456 := by decide
          simp only [List.length_cons] at CL ⊢
          replace CL := Lib.hid CL
          replace hO := Lib.hid hO
          replace hv := Lib.hid hv
          clear HQ hk2 hk3
          go_wp2_with fail
          refine CL.out.mono ?_
          rintro e w1 ⟨v', rfl, hrd1, hB1, hown1⟩
          have hrl1 := row_below hrl0 hB1
          have hO1 := os_below hO.out hB1
          have b1 : out.length + 1 ≤ maxLen := by unfold maxLen; omega
          have b2 : (out.length + 1) * 16 ≤ 140737488355328 := by omega
          have b3 : wA.heap.size ≤ (w1.alloc (.cells #[.string ⟨k.toArray⟩] 9)).heap.size := by have := hO1.gr.size; simp; omega
          have hmpF := fun w6 (hg : (w1.alloc (.cells #[.string ⟨k.toArray⟩] 9)).grownBy w6 u2.ownBlock) => (hO1.mp.keptB ((hg.block bl (Nat.lt_of_lt_of_le hO1.mp.lt (by simp)) (by obtain ⟨es, c, hm⟩ := hO1.mp.blk; exact own_ne hm hrl1)).trans (Below.heap_alloc _ _ _ hO1.mp.lt)) : MapF Tryz.prog 9 w6 bl nl (mapC C2))
          replace hmpF := Lib.hid hmpF
          replace hrd1 := Lib.hid hrd1
          replace hB1 := Lib.hid hB1
          clear hO1 CL hrl0
          go_wp2_with (first
            | (at_builtin; refine wpList_append_own_at _ rfl _ _ 37 rfl wA.heap.size 9 i0 (.string ⟨#[]⟩) 1 16 Tryz.underlying37 hi hz0 hz1 hz2 rfl (by decide) u2 out.length (out.map encStr) rfl (hrl1.alloc _) ⟨w1.heap.size, 0, none⟩ 1 1 [.string ⟨k.toArray⟩] rfl rfl (cell_one_new _ _ _) (by simp [Value.oneCell']) b1 b2 b3 ?_; intro v2' w2' hown' hgrow hnil hloc; replace hgrow := Lib.hid hgrow)
            | (at_delete; refine wpList_del _ rfl _ _ rfl bl nl C2 k hkl rfl rfl (hmpF.out _ hgrow.out) ?_; intro w3' h3'))
          have hrow' : w2'.ownsRow wA.heap.size 9 1 v2' (out ++ [k]).length ((out ++ [k]).map encStr) := by
            rw [List.length_append, List.map_append]; exact hown'
          have hO3 := os_pop hO.out hB1.out hrd1.out hown1 hrow' hgrow.out hloc h3'
          have CT3 := CT.out k hkl w3' hO3.gr
          obtain ⟨hTr, hTm, hTN⟩ := hT.out k
          generalize (f' k).getD [] = T at *
          replace CT3 := Lib.hid CT3
          replace hO3 := Lib.hid hO3
          clear hown' hgrow hloc h3' hrow' hmpF hrd1 hB1 hown1 hrl1 b1 b2 b3
          refine CT3.out.mono ?_
          rintro e w4' ⟨v4, rfl, hrowT, hB4⟩
          obtain ⟨A4, cap4, rfl, hA4⟩ := row_read hrowT
          have hO4 := os_below hO3.out hB4
          obtain ⟨es4, c4, hmap4⟩ := hO4.mp.blk
          have hM0 := MidO.start T hv.out
          obtain ⟨_, hk2, hk3⟩ := hv.out.head
          have hcls := hv.out.closed
          replace hA4 := Lib.hid hA4
          replace hO4 := Lib.hid hO4
          replace hM0 := Lib.hid hM0
          replace hmap4 := Lib.hid hmap4
          replace hk3 := Lib.hid hk3
          replace hcls := Lib.hid hcls
          replace hTm := Lib.hid hTm
          replace hTr := Lib.hid hTr
          clear hrowT hB4 CT3 hO3
          go_wp2_with fail
          go_loopg [6, 57] T.length (fun gk v6 v57 W => ∃ (j : Nat) (fr : List Bs) (C : Bs → Option Nat) (nl' : Nat), j + gk = T.length ∧ v57 = .int .i64 j ∧ Ax (MidO f out k T j C fr ∧ Os wA bl nl' (out ++ [k]) C fr v2' v6 W ∧ nl' ≤ nl + j ∧ w4'.grownBy W (some bl)))
          case atStart => exact ⟨0, r, _, nl, by omega, rfl, ⟨hM0.out, hO4.out, Nat.le_refl _, grown_refl _ _⟩⟩
          case round =>
            clear hM0 hO4
            obtain ⟨j, fr, C, nl', hjg, rfl, HJ⟩ := hrel
            by_cases hj : j < T.length
            · obtain ⟨g2, rfl⟩ : ∃ j, gk = j + 1 := ⟨gk - 1, by omega⟩
              obtain ⟨x, hx⟩ : ∃ x, T[j]? = some x := ⟨T[j], List.getElem?_eq_getElem hj⟩
              obtain ⟨hm, hOj, hnj, hgj⟩ := HJ.out
              obtain ⟨q, rfl, hq, _, hcell⟩ := hA4.out j x hx
              have hqb : q ≠ bl := cell_mapne hmap4.out hcell
              have hc : wr.cell? ⟨q, j, none⟩ = some (.string ⟨x.toArray⟩) := by rw [World.cell?_of_block (hgj.block q hq (by simpa using hqb))]; exact hcell
              obtain ⟨c, hC, hcl, hfx, hne, heq⟩ := hm.step hok hTr.out hTm.out hk2 hk3.out hcls.out hx
              have hxl := hF.name hfx
              have hcN : c ≤ 16384 := by
                cases hf : f x with
                | none => exact absurd hf hfx
                | some l =>
                  rw [hf] at hcl
                  have := hF.list hok hf
                  simp at hcl; omega
              have hlk : (Instr.lookup 219 (.map (some bl)) (.string ⟨x.toArray⟩) false).run Tryz.prog wr = .ok (.int .i64 ((c : Int) + 1)) wr := cnt_look hOj.mp hxl hC
              obtain ⟨w5, hst, h5⟩ := cnt_store hOj.mp x hxl (by unfold maxLen; omega) c
              have hlk2 := cnt_look h5.out.1 hxl (upd_same C x (some c))
              have hO5 := os_map hOj h5
              have hg5 := grown_trans hgj h5.out.2
              have hfrN : fr.length ≤ N := by
                have := len_sub (l := fr) (m := P) hm.ris.nodup fun y hy => (hP.out.mem y).2 ((hm.dom y).1 (by rw [(hm.fr y).1 hy]; simp)).1
                omega
              have hfrr := hm.ris
              replace hne := Lib.hid hne
              replace heq := Lib.hid heq
              replace hO5 := Lib.hid hO5
              replace hg5 := Lib.hid hg5
              replace hfrr := Lib.hid hfrr
              clear HJ hm hOj hgj hcell hcl hC h5
              by_cases hc0 : c = 0
              · subst hc0
                have hst : (Instr.mapUpdate 219 (.map (some bl)) (.string ⟨x.toArray⟩) (.int .i64 0)).run Tryz.prog wr = .ok () w5 := hst
                have hlk2 : (Instr.lookup 219 (.map (some bl)) (.string ⟨x.toArray⟩) false).run Tryz.prog w5 = .ok (.int .i64 0) w5 := hlk2
                have hlk : (Instr.lookup 219 (.map (some bl)) (.string ⟨x.toArray⟩) false).run Tryz.prog wr = .ok (.int .i64 1) wr := hlk
                have CS := Lib.hid (search_rd hO5.out.rf hfrr.out (by omega) x)
                go_wp2_with fail
                refine CS.out.mono ?_
                rintro e w6 ⟨rfl, hB6⟩
                have hO6 := Lib.hid (os_below hO5.out hB6)
                have CC := Lib.hid (clone_rd hO6.out.rf (by omega))
                have hg6 := Lib.hid (grown_trans hg5.out (grown_below (some bl) hB6))
                clear CS hB6
                go_wp2_with fail
                refine CC.out.mono ?_
                rintro e w7 ⟨v7, rfl, h7⟩
                have CI := Lib.hid (ins_hyp (hyp0 (t := 9) (x := x) w7 v7 h7) (by omega))
                clear CC
                go_wp2_with fail
                refine CI.out.mono ?_
                rintro e w8 ⟨v8, rfl, h8⟩
                have hh := heq.out (by first | rfl | trivial)
                have hnx := Lib.hid (show Ax (MidO f out k T (j + 1) (upd C x (some 0)) (insB fr x) ∧ Os wA bl (nl' + 1) (out ++ [k]) (upd C x (some 0)) (insB fr x) v2' v8 w8 ∧ nl' + 1 ≤ nl + (j + 1) ∧ w4'.grownBy w8 (some bl)) from
                  ⟨hh.2, os_free hO6.out h8.out.2 h8.out.1, by omega, grown_trans hg6.out (grown_below _ h8.out.2)⟩)
                clear CI hh h7 h8
                go_wp2_with fail
                go_roundg g2
                case measure => omega
                case rel => exact ⟨j + 1, _, _, _, by omega, by go_num, hnx.out⟩
              · have hc0' : ¬ (c : Int) = 0 := by omega
                have hh := hne.out hc0
                have hnx := Lib.hid (show Ax (MidO f out k T (j + 1) (upd C x (some c)) fr ∧ Os wA bl (nl' + 1) (out ++ [k]) (upd C x (some c)) fr v2' u6 w5 ∧ nl' + 1 ≤ nl + (j + 1) ∧ w4'.grownBy w5 (some bl)) from
                  ⟨hh, hO5.out, by omega, hg5.out⟩)
                clear hh
                go_wp2_with fail
                go_roundg g2
                case measure => omega
                case rel => exact ⟨j + 1, _, _, _, by omega, by go_num, hnx.out⟩
            · obtain rfl : gk = 0 := by omega
              obtain rfl : j = T.length := by omega
              obtain ⟨hm, hOj, hnj, hgj⟩ := HJ.out
              have hnx := Lib.hid (show Ax (Inv f (out ++ [k]) C fr ∧ Os wA bl nl' (out ++ [k]) C fr v2' u6 wr ∧ nl' ≤ N + N * (out ++ [k]).length) from
                ⟨hm.stop hok hTm.out hv.out, hOj, by rw [List.length_append, List.length_singleton, Nat.mul_succ]; omega⟩)
              clear hm hOj hgj HJ
              go_wp2_with fail
              go_roundg g1
              case measure => omega
              case rel => exact ⟨out ++ [k], fr, C, nl', by rw [List.length_append, List.length_singleton]; omega, hnx.out⟩
end Go.Proofs.YtmdimhcjogjcgaaGreatDoor.Gr
namespace Go.Proofs.YtmdimhcjogjcgaaGreatDoor.Gr
open Go.RowKit Go.Lib Go.Proofs.YtmdimhcjogjcgaaGreatDoor.Lat Go.Proofs.YtmdimhcjogjcgaaGreatDoor.Mp Go.Maps
abbrev Td := Bs × List Bs
/-- Things in memory: their names and what they hang on. -/
def RT (w : World) (v : Value) (ts : List Td) : Prop := ∃ A cap, v = .slice A ts.length cap ∧ ∀ (i : Nat) (n : Bs) (ds : List Bs), ts[i]? = some (n, ds) → ∃ g o A1 n1 cap1 A2 cap2, A = some ⟨g, o, none⟩ ∧
  w.cell? ⟨g, o + i * 3, none⟩ = some (.string ⟨n.toArray⟩) ∧ w.cell? ⟨g, o + i * 3 + 1, none⟩ = some (.slice A1 n1 cap1) ∧ w.cell? ⟨g, o + i * 3 + 2, none⟩ = some (.slice A2 ds.length cap2) ∧
  ∀ (j : Nat) (s : Bs), ds[j]? = some s → ∃ g2 o2, A2 = some ⟨g2, o2, none⟩ ∧ w.cell? ⟨g2, o2 + j, none⟩ = some (.string ⟨s.toArray⟩)
theorem cell_below {w W : World} (h : Below w.heap.size w W) {a : Addr} {x : Value} (hc : w.cell? a = some x) : W.cell? a = some x := by
  rw [World.cell?_of_block (h.block a.block (World.block_lt_of_cell? w _ hc))]; exact hc
theorem RT.below {w W : World} {v : Value} {ts : List Td} (h : RT w v ts) (hB : Below w.heap.size w W) : RT W v ts := by
  obtain ⟨A, cap, rfl, h⟩ := h
  refine ⟨A, cap, rfl, fun i n ds hi => ?_⟩
  obtain ⟨g, o, A1, n1, cap1, A2, cap2, rfl, h1, h2, h3, h4⟩ := h i n ds hi
  refine ⟨g, o, A1, n1, cap1, A2, cap2, rfl, cell_below hB h1, cell_below hB h2, cell_below hB h3, fun j s hs => ?_⟩
  obtain ⟨g2, o2, rfl, h5⟩ := h4 j s hs
  exact ⟨g2, o2, rfl, cell_below hB h5⟩
/-- The names. -/
def nms (ts : List Td) : List Bs := ts.map (·.1)
/-- Some things go in a ring. -/
def Ring (ts : List Td) : Prop := ∃ S : Bs → Prop, (∃ k, S k) ∧ ∀ k, S k → k ∈ nms ts ∧ ∃ ds, (k, ds) ∈ ts ∧ ∃ d ∈ ds, d ∈ nms ts ∧ S d
/-- The graph that is being made: of the first i things, and of the next one's first j lines. -/
structure Rn (ts : List Td) (B bg bm n : Nat) (i : Nat) (k : Bs) (L : List Bs) (W : World) : Prop where
  ex : ∃ f, IsG W B bg bm n f ∧ GrOK f ∧ (∀ x, f x ≠ none ↔ x ∈ nms ts) ∧ ∀ a b, Line f a b ↔ b ∈ nms ts ∧ ((∃ ds, (a, ds) ∈ ts.take i ∧ b ∈ ds) ∨ (a = k ∧ b ∈ L))
theorem Rn.below {ts : List Td} {B bg bm n i : Nat} {k : Bs} {L : List Bs} {W W' : World} (h : Rn ts B bg bm n i k L W) (hB : Below W.heap.size W W') : Rn ts B bg bm n i k L W' := by
  obtain ⟨f, h1, h2⟩ := h.ex
  exact ⟨f, h1.below hB, h2⟩
theorem Rn.mono {ts : List Td} {B bg bm n m i : Nat} {k : Bs} {L : List Bs} {W : World} (h : Rn ts B bg bm n i k L W) (hm : n ≤ m) : Rn ts B bg bm m i k L W := by
  obtain ⟨f, h1, h2⟩ := h.ex
  exact ⟨f, h1.mono hm, h2⟩
theorem Rn.enter {ts : List Td} {B bg bm n i : Nat} {k k' : Bs} {W : World} (h : Rn ts B bg bm n i k [] W) : Rn ts B bg bm n i k' [] W := by
  obtain ⟨f, h1, h2, h3, h4⟩ := h.ex
  exact ⟨f, h1, h2, h3, fun a b => by rw [h4]; simp⟩
theorem takeT_mem {ts : List Td} {i : Nat} {x y : Td} (h : ts[i]? = some x) : y ∈ ts.take (i + 1) ↔ y ∈ ts.take i ∨ y = x := by
  have e : ts.take (i + 1) = ts.take i ++ [x] := by rw [List.take_add_one, h]; rfl
  rw [e, List.mem_append, List.mem_singleton]
theorem Rn.leave {ts : List Td} {B bg bm n i : Nat} {k : Bs} {ds : List Bs} {W : World} (hk : ts[i]? = some (k, ds)) (h : Rn ts B bg bm n i k ds W) : Rn ts B bg bm n (i + 1) k [] W := by
  obtain ⟨f, h1, h2, h3, h4⟩ := h.ex
  refine ⟨f, h1, h2, h3, fun a b => ?_⟩
  rw [h4]
  refine and_congr_right fun _ => ?_
  constructor
  · rintro (⟨d, h1, h2⟩ | ⟨rfl, h2⟩)
    · exact .inl ⟨d, (takeT_mem hk).2 (.inl h1), h2⟩
    · exact .inl ⟨ds, (takeT_mem hk).2 (.inr rfl), h2⟩
  · rintro (⟨d, h1, h2⟩ | ⟨_, h2⟩)
    · rcases (takeT_mem hk).1 h1 with h1 | h1
      · exact .inl ⟨d, h1, h2⟩
      · cases h1; exact .inr ⟨rfl, h2⟩
    · cases h2
/-- No line: the name is nobody's. -/
theorem Rn.skip {ts : List Td} {B bg bm n i j : Nat} {k s : Bs} {ds : List Bs} {W : World} (hs : ds[j]? = some s) (hn : s ∉ nms ts) (h : Rn ts B bg bm n i k (ds.take j) W) : Rn ts B bg bm n i k (ds.take (j + 1)) W := by
  obtain ⟨f, h1, h2, h3, h4⟩ := h.ex
  refine ⟨f, h1, h2, h3, fun a b => ?_⟩
  rw [h4, take_mem hs]
  refine and_congr_right fun hb => ?_
  have : b ≠ s := fun e => hn (e ▸ hb)
  simp [this]
theorem Rn.link {ts : List Td} {B bg bm n i j N : Nat} {k s : Bs} {ds : List Bs} {w : World} (hs : ds[j]? = some s) (hsn : s ∈ nms ts) (hkn : k ∈ nms ts) (hsm : ∀ x ∈ nms ts, x.length ≤ maxLen) (hN : ts.length ≤ N) (hN2 : N ≤ 16384) (hB : B ≤ w.heap.size) (hn : n ≤ 1073741824)
    (h : Rn ts B bg bm n i k (ds.take j) w) : Calls Tryz.prog 117 #[.pointer (some ⟨bg, 0, none⟩), .string ⟨k.toArray⟩, .string ⟨s.toArray⟩] w fun e w' => e = .returned (.tuple #[]) ∧ Ax (Rn ts B bg bm (n + 3) i k (ds.take (j + 1)) w' ∧ w.grownBy w' (some bm)) := by
  obtain ⟨f, h1, h2, h3, h4⟩ := h.ex
  have hF : Few f N := ⟨nms ts, fun x hx => (h3 x).1 hx, by simpa [nms] using hN, hsm⟩
  refine (link_any h1 h2 hB k s (hsm k hkn) (hsm s hsn) hn fun a l hl => Nat.le_trans (hF.list h2 hl) (by omega)).mono fun e w' ⟨he, hI, hg⟩ => ⟨he, ⟨⟨_, hI, ok_link h2 k s, fun y => ?_, fun a b => ?_⟩, hg⟩⟩
  · rw [link_pt, h3]
    constructor
    · rintro (rfl | rfl | h)
      · exact hkn
      · exact hsn
      · exact h
    · exact fun h => .inr (.inr h)
  · rw [link_line, h4, take_mem hs]
    constructor
    · rintro (⟨rfl, rfl⟩ | ⟨hb, h | ⟨h, h'⟩⟩)
      · exact ⟨hsn, .inr ⟨rfl, .inr rfl⟩⟩
      · exact ⟨hb, .inl h⟩
      · exact ⟨hb, .inr ⟨h, .inl h'⟩⟩
    · rintro ⟨hb, h | ⟨rfl, h' | rfl⟩⟩
      · exact .inr ⟨hb, .inl h⟩
      · exact .inr ⟨hb, .inr ⟨rfl, h'⟩⟩
      · exact .inl ⟨rfl, rfl⟩
theorem ring_is {ts : List Td} {f : Gr} {out bound : List Bs} (hp : ∀ x, f x ≠ none ↔ x ∈ nms ts) (hl : ∀ a b, Line f a b ↔ b ∈ nms ts ∧ ∃ ds, (a, ds) ∈ ts ∧ b ∈ ds) (h : OrdOf f out bound) : Ring ts ↔ 0 < bound.length := by
  constructor
  · rintro ⟨S, ⟨k, hk⟩, hS⟩
    apply Classical.byContradiction
    intro hb
    have hb0 : bound = [] := List.eq_nil_of_length_eq_zero (by omega)
    subst hb0
    have key : ∀ (i : Nat) (k : Bs), out[i]? = some k → ¬ S k := by
      intro i
      induction i using Nat.strongRecOn with
      | ind i ih =>
        intro k hi hs
        obtain ⟨_, ds, h1, d, h2, h3, h4⟩ := hS k hs
        have := (h.pre i k hi).1 d ((hl k d).2 ⟨h3, ds, h1, h2⟩)
        obtain ⟨j, hj, he⟩ := List.getElem_of_mem this
        have hji : j < i := by have := hj; simp at this; omega
        have hjo : out[j]? = some d := by
          have := List.getElem?_eq_getElem hj
          rw [he, List.getElem?_take, if_pos hji] at this
          exact this
        exact ih j hji d hjo h4
    have hko : k ∈ out := by
      rcases (h.all k).1 ((hp k).2 (hS k hk).1) with h | h
      · exact h
      · cases h
    obtain ⟨i, hi, he⟩ := List.getElem_of_mem hko
    exact key i k (by rw [List.getElem?_eq_getElem hi, he]) hk
  · intro hb
    refine ⟨fun x => x ∈ bound, ⟨bound[0], List.getElem_mem _⟩, fun k hk => ⟨(hp k).1 ((h.all k).2 (.inr hk)), ?_⟩⟩
    obtain ⟨y, hy, hly⟩ := h.back k hk
    obtain ⟨h1, ds, h2, h3⟩ := (hl k y).1 hly
    exact ⟨ds, h2, y, h3, h1, hy⟩
open Classical in
noncomputable def ringB (ts : List Td) : Bool := decide (Ring ts)
theorem nms_take {ts : List Td} {i : Nat} {k : Bs} {ds : List Bs} (h : ts[i]? = some (k, ds)) : (nms ts)[i]? = some k := by
  unfold nms; rw [List.getElem?_map, h]; rfl
set_option maxHeartbeats 16000000 in
set_option maxRecDepth 100000 in
theorem rings_any {w : World} {v : Value} {ts : List Td} (hv : RT w v ts) (hN : ts.length ≤ 16384) (hD : ∀ t ∈ ts, t.2.length ≤ 16384) (hsm : ∀ x ∈ nms ts, x.length ≤ maxLen)
    (hFind : ∀ W, Below w.heap.size w W → ∀ s : Bs, Calls Tryz.prog 34 #[v, .string ⟨s.toArray⟩] W fun e w' => ∃ i : Int, e = .returned (.int .i64 i) ∧ (0 ≤ i ↔ s ∈ nms ts) ∧ Below W.heap.size W w') :
    Calls Tryz.prog 78 #[v] w fun e w' => e = .returned (.bool (ringB ts)) ∧ Below w.heap.size w w' := by
  have C1 := Lib.hid (new_any (w := w) (B := 0) (v := .slice none 0 0) (l := []) ⟨rfl, .inl ⟨rfl, rfl⟩⟩ (fun x hx => by cases hx) (by simp))
  replace hFind := Lib.hid hFind
  obtain ⟨A, cap, rfl, hA⟩ := id hv
  replace hv := Lib.hid hv
  replace hA := Lib.hid hA
  replace hsm := Lib.hid hsm
  replace hD := Lib.hid hD
  go_enter Tryz.func78, Tryz.ntmps78
  go_wp2_with fail
  refine C1.out.mono ?_
  rintro e w1 ⟨bg, bm, rfl, hI1, hB1⟩
  replace hI1 := Lib.hid hI1
  replace hB1 := Lib.hid hB1
  clear C1
  go_wp2_with fail
  go_loopg [15] ts.length (fun gk v15 W => ∃ i : Nat, i + gk = ts.length ∧ v15 = .int .i64 i ∧ Ax (IsG W w.heap.size bg bm i (newG ((nms ts).take i)) ∧ Below w.heap.size w W))
  case atStart => exact ⟨0, by omega, rfl, ⟨hI1.out, hB1.out⟩⟩
  case round =>
    clear hI1 hB1
    obtain ⟨i, hig, rfl, HM⟩ := hrel
    by_cases hi : i < ts.length
    · obtain ⟨g1, rfl⟩ : ∃ j, gk = j + 1 := ⟨gk - 1, by omega⟩
      obtain ⟨⟨k, ds⟩, hk⟩ : ∃ x, ts[i]? = some x := ⟨ts[i], List.getElem?_eq_getElem hi⟩
      obtain ⟨g, o, A1, n1, cap1, A2, cap2, rfl, h1, h2, h3, _⟩ := hA.out i k ds hk
      have q1 := cell_below HM.out.2 h1
      have q2 := cell_below HM.out.2 h2
      have q3 := cell_below HM.out.2 h3
      clear h1 h2 h3
      have hBa : Below wr.heap.size wr (wr.alloc (Obj.cells #[.string ⟨k.toArray⟩, .slice A1 n1 cap1, .slice A2 ds.length cap2] 70)) := (Below.refl _ wr).alloc (Nat.le_refl _) _
      have C2 := Lib.hid (add_str (HM.out.1.below hBa) k (hsm.out k (List.mem_of_getElem? (nms_take hk))) (by unfold maxLen; omega))
      have hBw := Lib.hid (below_upG HM.out.2 (Nat.le_refl _) hBa)
      replace hBa := Lib.hid hBa
      go_wp2_with fail
      refine C2.out.mono ?_
      rintro e w2 ⟨rfl, h2⟩
      have hnx := Lib.hid (show Ax (IsG w2 w.heap.size bg bm (i + 1) (newG ((nms ts).take (i + 1))) ∧ Below w.heap.size w w2) from
        ⟨by rw [newG_succ (nms_take hk)]; exact h2.out.1, below_grown hBw.out (Nat.le_refl _) h2.out.2 h2.out.1.hBm⟩)
      clear C2 h2 q1 q2 q3 HM
      go_wp2_with fail
      go_roundg g1
      case measure => omega
      case rel => exact ⟨i + 1, by omega, by go_num, hnx.out⟩
    · obtain rfl : gk = 0 := by omega
      obtain rfl : i = ts.length := by omega
      have hR0 : Rn ts w.heap.size bg bm ts.length 0 [] [] wr := ⟨_, HM.out.1, new_ok _, fun x => by rw [new_pt, List.take_of_length_le (by simp [nms])], fun a b => by simp [new_line]⟩
      have hBr := HM.out.2
      replace hR0 := Lib.hid hR0
      replace hBr := Lib.hid hBr
      clear HM
      generalize wr = wA at *
      go_wp2_with fail
      go_loopg [26] ts.length (fun gk v26 W => ∃ i : Nat, i + gk = ts.length ∧ v26 = .int .i64 i ∧ Ax (Rn ts w.heap.size bg bm (ts.length + 3 * (16384 * i)) i [] [] W ∧ Below w.heap.size w W))
      case atStart => exact ⟨0, by omega, rfl, ⟨hR0.out, hBr.out⟩⟩
      case round =>
        clear hR0 hBr
        obtain ⟨i, hig, rfl, HM⟩ := hrel
        by_cases hi : i < ts.length
        · obtain ⟨g1, rfl⟩ : ∃ j, gk = j + 1 := ⟨gk - 1, by omega⟩
          obtain ⟨⟨k, ds⟩, hk⟩ : ∃ x, ts[i]? = some x := ⟨ts[i], List.getElem?_eq_getElem hi⟩
          obtain ⟨g, o, A1, n1, cap1, A2, cap2, rfl, h1, h2, h3, h4⟩ := hA.out i k ds hk
          have q1 := cell_below HM.out.2 h1
          have q2 := cell_below HM.out.2 h2
          have q3 := cell_below HM.out.2 h3
          have hds : ds.length ≤ 16384 := hD.out (k, ds) (List.mem_of_getElem? hk)
          have hkn := List.mem_of_getElem? (nms_take hk)
          have hBa : Below wr.heap.size wr (wr.alloc (Obj.cells #[.string ⟨k.toArray⟩, .slice A1 n1 cap1, .slice A2 ds.length cap2] 70)) := (Below.refl _ wr).alloc (Nat.le_refl _) _
          have hR1 := (HM.out.1.below hBa).enter (k' := k)
          have hB1 := below_upG HM.out.2 (Nat.le_refl _) hBa
          have hblk : (wr.alloc (Obj.cells #[.string ⟨k.toArray⟩, .slice A1 n1 cap1, .slice A2 ds.length cap2] 70)).heap[wr.heap.size]? = some (Obj.cells #[.string ⟨k.toArray⟩, .slice A1 n1 cap1, .slice A2 ds.length cap2] 70 (0, 0)) := heap_alloc_new wr _
          have hbx : w.heap.size ≤ wr.heap.size := HM.out.2.size
          replace h4 := Lib.hid h4
          clear hBa
          replace hR1 := Lib.hid hR1
          replace hB1 := Lib.hid hB1
          replace hblk := Lib.hid hblk
          clear h1 h2 h3 HM
          go_wp2_with fail
          clear q1 q2 q3
          generalize (wr.alloc (Obj.cells #[.string ⟨k.toArray⟩, .slice A1 n1 cap1, .slice A2 ds.length cap2] 70)) = wb at *
          obtain ⟨bx, hbxe⟩ : ∃ bx, wr.heap.size = bx := ⟨_, rfl⟩
          rw [hbxe] at hblk hbx ⊢
          clear hbxe
          go_loopg [33] ds.length (fun gk v33 W => ∃ j : Nat, j + gk = ds.length ∧ v33 = .int .i64 j ∧ Ax (Rn ts w.heap.size bg bm (ts.length + 3 * (16384 * i) + 3 * j) i k (ds.take j) W ∧ Below w.heap.size w W ∧ W.heap[bx]? = some (Obj.cells #[.string ⟨k.toArray⟩, .slice A1 n1 cap1, .slice A2 ds.length cap2] 70 (0, 0))))
          case atStart => exact ⟨0, by omega, rfl, ⟨by simpa using hR1.out, hB1.out, hblk.out⟩⟩
          case round =>
            clear hR1 hB1 hblk
            obtain ⟨j, hjg, rfl, HJ⟩ := hrel
            by_cases hj : j < ds.length
            · obtain ⟨g2, rfl⟩ : ∃ j, gk = j + 1 := ⟨gk - 1, by omega⟩
              obtain ⟨s, hs⟩ : ∃ x, ds[j]? = some x := ⟨ds[j], List.getElem?_eq_getElem hj⟩
              obtain ⟨g3, o3, rfl, h5⟩ := h4.out j s hs
              obtain ⟨hR, hB, hbk⟩ := HJ.out
              have q1 := cell_below hB h5
              have CF := Lib.hid (hFind.out _ hB s)
              replace hR := Lib.hid hR
              replace hB := Lib.hid hB
              replace hbk := Lib.hid hbk
              clear h5 HJ
              go_wp2_with fail
              refine CF.out.mono ?_
              rintro e w4 ⟨idx, rfl, hidx, hB4⟩
              have hR4 := hR.out.below hB4
              have hBw4 := below_upG hB.out (Nat.le_refl _) hB4
              have hbk4 := (hB4.block _ (blk_lt' hbk.out)).trans hbk.out
              have q2 : w4.cell? ⟨bx, 0, none⟩ = some (.string ⟨k.toArray⟩) := by rw [Abs.cell_of hbk4]; rfl
              by_cases h0 : 0 ≤ idx
              · have hsn := hidx.1 h0
                have CL := Lib.hid (hR4.link (N := 16384) hs hsn hkn hsm.out hN (Nat.le_refl _) (Nat.le_trans hbx (Nat.le_of_lt (blk_lt' hbk4))) (by omega))
                replace hBw4 := Lib.hid hBw4
                replace hbk4 := Lib.hid hbk4
                have CLB := Lib.hid hB4
                clear CF hidx hB4 hR4
                go_wp2_with fail
                refine CL.out.mono ?_
                rintro e w5 ⟨rfl, h5⟩
                obtain ⟨es, c, hm⟩ : ∃ es c, w4.heap[bm]? = some (.map es c) := by obtain ⟨f, h1, _⟩ := hR.out.ex; obtain ⟨F, h2, _⟩ := h1.map; exact (h2.keptB ((CLB.out.block _ h2.lt))).blk
                have hnx := Lib.hid (show Ax (Rn ts w.heap.size bg bm (ts.length + 3 * (16384 * i) + 3 * (j + 1)) i k (ds.take (j + 1)) w5 ∧ Below w.heap.size w w5 ∧ w5.heap[bx]? = some (Obj.cells #[.string ⟨k.toArray⟩, .slice A1 n1 cap1, .slice (some ⟨g3, o3, none⟩) ds.length cap2] 70 (0, 0))) from
                  ⟨h5.out.1.mono (by omega), below_grown hBw4.out (Nat.le_refl _) h5.out.2 (by obtain ⟨f, h1, _⟩ := hR.out.ex; exact h1.hBm), (h5.out.2.block bx (blk_lt' hbk4.out) (fun e => by cases e; have := hbk4.out; rw [hm] at this; cases this)).trans hbk4.out⟩)
                clear CL h5 hm hBw4 hbk4 CLB
                go_wp2_with fail
                go_roundg g2
                case measure => omega
                case rel => exact ⟨j + 1, by omega, by go_num, hnx.out⟩
              · have hsn := fun h => h0 (hidx.2 h)
                have h0' : idx < 0 := by omega
                have hnx := Lib.hid (show Ax (Rn ts w.heap.size bg bm (ts.length + 3 * (16384 * i) + 3 * (j + 1)) i k (ds.take (j + 1)) w4 ∧ Below w.heap.size w w4 ∧ w4.heap[bx]? = some (Obj.cells #[.string ⟨k.toArray⟩, .slice A1 n1 cap1, .slice (some ⟨g3, o3, none⟩) ds.length cap2] 70 (0, 0))) from
                  ⟨(hR4.skip hs hsn).mono (by omega), hBw4, hbk4⟩)
                clear CF hidx hB4 hR4 hBw4 hbk4
                go_wp2_with fail
                go_roundg g2
                case measure => omega
                case rel => exact ⟨j + 1, by omega, by go_num, hnx.out⟩
            · obtain rfl : gk = 0 := by omega
              obtain rfl : j = ds.length := by omega
              have hnx := Lib.hid (show Ax (Rn ts w.heap.size bg bm (ts.length + 3 * (16384 * (i + 1))) (i + 1) [] [] wr ∧ Below w.heap.size w wr) from
                ⟨((Rn.leave hk (by have := HJ.out.1; rw [List.take_length] at this; exact this)).mono (by omega)).enter, HJ.out.2.1⟩)
              clear HJ
              go_wp2_with fail
              go_roundg g1
              case measure => omega
              case rel => exact ⟨i + 1, by omega, by go_num, hnx.out⟩
        · obtain rfl : gk = 0 := by omega
          obtain rfl : i = ts.length := by omega
          obtain ⟨f, h1, h2, h3, h4⟩ := HM.out.1.ex
          have hB := HM.out.2
          have hF : Few f 16384 := ⟨nms ts, fun x hx => (h3 x).1 hx, by simpa [nms] using hN, hsm.out⟩
          have CO := Lib.hid (order_any h1 h2 hF (Nat.le_refl _) (by omega))
          have hl : ∀ a b, Line f a b ↔ b ∈ nms ts ∧ ∃ ds, (a, ds) ∈ ts ∧ b ∈ ds := fun a b => by rw [h4]; simp
          replace h3 := Lib.hid h3
          replace hl := Lib.hid hl
          replace hB := Lib.hid hB
          clear HM h1 h2 h4 hF
          go_wp2_with fail
          refine CO.out.mono ?_
          rintro e w5 ⟨vl, vb, out, bound, rfl, hO, hr1, hr2, hB5⟩
          have hrb := ring_is h3.out hl.out hO
          have hbb := below_upG hB.out (Nat.le_refl _) hB5
          obtain ⟨Ab, capb, rfl, _⟩ := row_read hr2
          have hrB : ringB ts = decide (0 < bound.length) := by
            unfold ringB
            exact decide_eq_decide.2 hrb
          replace hrB := Lib.hid hrB
          replace hbb := Lib.hid hbb
          clear hO hr1 hr2 hB5 hrb CO
          go_wp2_with fail
          go_ret
          exact ⟨by rw [hrB.out]; simp, hbb.out⟩
end Go.Proofs.YtmdimhcjogjcgaaGreatDoor.Gr
