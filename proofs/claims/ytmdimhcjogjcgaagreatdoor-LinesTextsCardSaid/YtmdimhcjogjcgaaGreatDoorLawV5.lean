/- The program's rightness of a state. -/
import Derived.Test.YtmdimhcjogjcgaaGreatDoorZz
set_option linter.unusedVariables false
set_option linter.unusedSimpArgs false
set_option linter.unusedSectionVars false
set_option linter.deprecated false
set_option linter.unnecessarySimpa false
namespace Go.Proofs.YtmdimhcjogjcgaaGreatDoor.Lat
open Go.Proofs.YtmdimhcjogjcgaaGreatDoor.Abs Go.Proofs.YtmdimhcjogjcgaaGreatDoor.Gr
set_option linter.unusedVariables false
theorem enc1 (t : Tm) : [encT t] = encV [t] := by rw [encV_map]; rfl
theorem bx {α : Type} (l2 l3 : List (List AV)) (x : α) : True := trivial
theorem of1_loop (t : Tm) (hs : szV [t] ≤ 1073741824) (hok : ∀ f ∈ t.fs, okV Rn f.v = true) (m : Int) (l2 l3 : List (List AV)) (r : Option AV) (hr : u_lat_Of.l0 (.sl 8 [encT t]) (.boxv 1 [.sl 8 l2] [(0, .own 8 l3)]) (.int .i64 m) (.sl 8 [encT t]) (.int .i64 1) (.int .i64 1) = r) :
    ∀ (d i : Nat), i + d = t.fs.length → u_lat_Of.l1 (.sl 8 [encT t]) (.boxv 1 [.sl 8 l2] [(0, .own 8 l3)]) (.int .i64 m) (.sl 8 [encT t]) (.int .i64 1) (.int .i64 0) (.sl 2 (encF t.fs)) (.int .i64 (t.fs.length : Int)) (.int .i64 (i : Int)) = r
  | 0, i, h => by
    rw [u_lat_Of.l1_eq, decide_eq_false (by omega), ifF]
    exact hr
  | d + 1, i, h => by
    have h1' : i < t.fs.length := by omega
    have e1 : t.fs[i]? = some t.fs[i] := List.getElem?_eq_getElem h1'
    have hm := List.getElem_mem h1'
    have hsz : szV t.fs[i].v ≤ 1073741824 := by
      have := szV_dp (v := [t]) (List.mem_cons_self ..) hm
      omega
    have hR : u_lat_Right (.agg 1 [.sl 8 (encV t.fs[i].v)]) = some (.bool (okV Rn t.fs[i].v)) := up_lat_Right (rightP_is _ hsz)
    have hlen := szF_len t.fs
    have hs2 := mem_szT (v := [t]) (List.mem_cons_self ..)
    rw [szT_fs] at hs2
    rw [u_lat_Of.l1_eq, decide_eq_true (by omega), ifT, idx_at (encFd_at e1), h1]
    simp only [frz, hR, hok _ hm, someB, asB_]
    rw [Bool.not_true, ifF, w64_succ (by omega)]
    exact of1_loop t hs hok m l2 l3 r hr d (i + 1) (by omega)
theorem of_is (t : Tm) (hs : szV [t] ≤ 1073741824) (h4 : t.k = 4) (hok : okV Rn [t] = true) : u_lat_Of (.sl 8 [encT t]) = some (.tup [.agg 1 [.sl 8 [encT t]], .int .i64 0]) := by
  have hok' := hok
  unfold okV at hok'
  simp only [Bool.and_eq_true] at hok'
  obtain ⟨⟨⟨hlim, hL⟩, _⟩, _⟩ := hok'
  unfold limV at hlim
  simp only [Bool.and_eq_true, decide_eq_true_eq] at hlim
  have hT := okL_mem _ hL t (List.mem_cons_self ..)
  have hwt : wtT t ≤ 512 := by have := hlim.1; simp only [wtV] at this; omega
  have hdp : dpT t ≤ 15 := by have := hlim.2; simp only [depth, dpV] at this; omega
  have hfs : ∀ f ∈ t.fs, okV Rn f.v = true := by
    have h := hT
    rw [okT_eq, if_neg (by omega), if_pos h4, Bool.and_eq_true] at h
    exact fun f hf => okF_mem _ h.2 f hf
  have hsz := mem_szT (v := [t]) (List.mem_cons_self ..)
  have hsh : u_lat_shaped (.agg 8 (encT t)) (.int .i64 17) = some (.bool true) := by
    refine up_lat_shaped ((shaped_is t 17 (by omega) (by omega) fun f hf => liP_is 1073741824 (Nat.le_refl _) f.v _ (by omega) (by have := szV_dp (v := [t]) (List.mem_cons_self ..) hf; omega)).trans ?_)
    rw [li_rcT Rn t 17 hwt (by omega), ← ok_rcT Rn t hwt hdp, hT]
  have hde : u_rank_Depth (.agg 1 [.sl 8 [encT t]]) = some (.int .i64 (depth [t] : Nat)) := by
    have := dpR_is 1073741824 [t] hs (Nat.le_refl _)
    rw [← enc1] at this
    exact up_rank_Depth this
  have hlen := szF_len t.fs
  rw [szT_fs] at hsz
  have hset : u_lat_settle (.sl 8 [encT t]) = some (.tup [.agg 1 [.sl 8 [encT t]], .int .i64 0]) := z_settle hs hlim.1
  have hlast : ∀ m : Int, m ≤ 16 → u_lat_Of.l0 (.sl 8 [encT t]) (.boxv 1 [.sl 8 []] [(0, .own 8 [])]) (.int .i64 m) (.sl 8 [encT t]) (.int .i64 1) (.int .i64 1) = some (.tup [.agg 1 [.sl 8 [encT t]], .int .i64 0]) := fun m hm => by
    rw [u_lat_Of.l0_eq, decide_eq_false (by omega), ifF, decide_eq_false (by omega), ifF, hset]; rfl
  have hd16 : max (1 : Int) ((depth [t] : Nat) : Int) ≤ 16 := by have := hlim.2; omega
  have hgo := of1_loop t hs hfs (max (1 : Int) ((depth [t] : Nat) : Int)) [] [] _ (hlast _ hd16) t.fs.length 0 (by omega)
  rw [e00] at hgo
  rw [u_lat_Of.f_eq]
  rw [show ((([encT t] : List (List AV)).length : Nat) : Int) = 1 from rfl, decide_eq_false (by omega), ifF, u_lat_Of.l0_eq, decide_eq_true (by omega), ifT]
  rw [show ∀ (q : List AV → Option AV), idx [encT t] 0 q = q (encT t) from fun q => idx_at (j := 0) (l := [encT t]) rfl q, hsh]
  simp only [someB, asB_]
  rw [Bool.not_true, ifF, hde]
  simp only [someB, asI_]
  rw [g7, asL2, encF_len]
  exact hgo
theorem oneP_is (v : List Tm) (hv : szV v ≤ 1073741824) : ∃ (k e : Int) (c : List AV), u_fact_One (.agg 1 [.sl 8 (encV v)]) = some (.tup [.agg 8 (.int .i64 k :: c), .int .i64 e]) ∧ (decide (e = 0) && decide (k = 4)) = kOne v := by
  have hR : u_lat_Right (.agg 1 [.sl 8 (encV v)]) = some (.bool (okV Rn v)) := up_lat_Right (rightP_is _ hv)
  rw [u_fact_One.f_eq, hR]
  simp only [someB, asB_]
  unfold kOne
  cases hok : okV Rn v with
  | false => exact ⟨0, 1, _, rfl, rfl⟩
  | true =>
    rw [Bool.not_true, ifF, Bool.true_and]
    have hone : ∀ r, fact_one (.agg 1 [.sl 8 (encV v)]) = some r → u_fact_one (.agg 1 [.sl 8 (encV v)]) = some r := fun r h => up_fact_one h
    match v with
    | [] =>
      rw [hone (.tup [.agg 8 [.int .i64 0, .int .i64 0, .int .i64 0, .str [], .bool false, .bool false, .bool false, .sl 2 []], .int .i64 31]) (by rw [fact_one.f_eq]; rfl)]
      exact ⟨0, 31, _, rfl, rfl⟩
    | t :: u :: r =>
      rw [hone (.tup [.agg 8 [.int .i64 0, .int .i64 0, .int .i64 0, .str [], .bool false, .bool false, .bool false, .sl 2 []], .int .i64 28]) (by
        rw [fact_one.f_eq]
        simp only [v0, asL8, encV_len]
        rw [decide_eq_false (by simp <;> omega), ifF, decide_eq_true (by simp <;> omega)]; rfl)]
      exact ⟨0, 28, _, rfl, rfl⟩
    | [t] =>
      have e1 : decide ((([t] : List Tm).length : Int) = 0) = false := by simp
      have e2 : decide ((1 : Int) < (([t] : List Tm).length : Int)) = false := by simp
      by_cases h5 : t.k = 5
      · rw [hone (.tup [.agg 8 [.int .i64 0, .int .i64 0, .int .i64 0, .str [], .bool false, .bool false, .bool false, .sl 2 []], .int .i64 28]) (by
          rw [fact_one.f_eq]
          simp only [v0, asL8, encV_len]
          rw [e1, ifF, e2, ifF]
          simp only [idxV0, g0, asI_, someB]
          rw [decide_eq_true h5, ifT])]
        refine ⟨0, 28, _, rfl, ?_⟩
        simp [h5]
      · rw [hone (.tup [.agg 8 (encT t), .int .i64 0]) (by
          rw [fact_one.f_eq]
          simp only [v0, asL8, encV_len]
          rw [e1, ifF, e2, ifF]
          simp only [idxV0, g0, asI_, someB]
          rw [decide_eq_false h5, ifF])]
        simp only [someB, asT2_, asC8, asI_]
        simp only [decide_true]
        rw [ifT, g0]
        simp only [asI_, someB]
        by_cases h4 : t.k = 4
        · rw [decide_eq_true h4, ifT, of_is t hv h4 hok]
          obtain ⟨k, lo, hi, s, a, m, o, fs⟩ := t
          refine ⟨k, 0, _, rfl, ?_⟩
          have h4' : k = 4 := h4
          show (true && decide (k = 4)) = true
          rw [decide_eq_true h4']; rfl
        · rw [decide_eq_false h4, ifF]
          obtain ⟨k, lo, hi, s, a, m, o, fs⟩ := t
          refine ⟨k, 0, _, rfl, ?_⟩
          have h4' : ¬ k = 4 := h4
          show (true && decide (k = 4)) = false
          rw [decide_eq_false h4']; rfl
theorem good_is (t : Th) (ht : SmTh t) : u_state_good (.agg 3 (encTh t)) = some (.bool (Rn t.n && gR t)) := by
  obtain ⟨k, e, c, hO, hk⟩ := oneP_is t.v ht.v
  have hN : u_name_Right (.str t.n) = some (.bool (Rn t.n)) := up_name_Right (nameR_is t.n)
  have hS : u_fact_Settled (.agg 1 [.sl 8 (encV t.v)]) = some (.bool (okV Rn t.v && seL false t.v)) := up_fact_Settled (settledP_is t.v ht.v)
  have hR : u_name_Rising (.sl 1 (encD t.d)) = some (.bool (risD t.d)) := up_name_Rising (risN_is t.d (by have := ht.d; omega))
  have hC : u_slices_Contains__string (.sl 1 (encD t.d)) (.str t.n) = some (.bool (decide (t.n ∈ t.d))) := up_slices_Contains__string (contains_is t.d (by have := ht.d; omega) t.n)
  rw [u_state_good.f_eq, th1]
  simp only [frz, hO, someB, asT2_]
  rw [show ∀ (q : List AV → Option AV), asC 8 (.agg 8 (.int .i64 k :: c)) q = q (.int .i64 k :: c) from fun q => rfl]
  simp only [asI_, getC0, th0, th1, th2, frz, hN, hS, hR, hC, asS_, asL1_, someB, asB_, andK]
  have hg : gR t = (kOne t.v && (okV Rn t.v && seL false t.v) && risD t.d && !decide (t.n ∈ t.d)) := rfl
  rw [hg, ← hk]
  cases Rn t.n <;> cases decide (e = 0) <;> cases decide (k = 4) <;> cases (okV Rn t.v && seL false t.v) <;> cases risD t.d <;> cases decide (t.n ∈ t.d) <;> rfl
def prevH (ts : List Th) (i : Nat) : Option Bs := if i = 0 then none else (ts[i - 1]?).map (·.n)
theorem prevH_succ {ts : List Th} {i : Nat} {t : Th} (h : ts[i]? = some t) : prevH ts (i + 1) = some t.n := by
  unfold prevH; rw [if_neg (by omega), Nat.add_sub_cancel, h]; rfl
theorem fs_cons (t : Th) (ts : List Th) : fsD (nmsT (t :: ts)) = .mk t.n [] :: fsD (nmsT ts) := by simp [fsD, nmsT]
theorem right_loop (ts : List Th) (hl : ts.length ≤ 256) (hs : ∀ t ∈ ts, SmTh t) : ∀ (d i : Nat), i + d = ts.length → u_state_Right.l0 (.sl 3 (encTs ts)) (.sl 3 (encTs ts)) (.int .i64 (ts.length : Int)) (.int .i64 (i : Int)) = some (.bool ((ts.drop i).all gR && risF Rn (prevH ts i) (fsD (nmsT (ts.drop i))) && !ringB (tds ts)))
  | 0, i, h => by
    have hr : u_state_rings (.sl 3 (encTs ts)) = some (.bool (ringB (tds ts))) := z_rings ⟨by omega, fun t ht => ⟨by have := (hs t ht).d; omega, by have := (hs t ht).n; unfold maxLen; omega⟩⟩
    rw [u_state_Right.l0_eq, decide_eq_false (by omega), ifF, hr, dropNil (by omega)]
    simp only [someB, asB_]
    cases prevH ts i <;> rfl
  | d + 1, i, h => by
    have h1 : i < ts.length := by omega
    have e1 : ts[i]? = some ts[i] := List.getElem?_eq_getElem h1
    have ih := right_loop ts hl hs d (i + 1) (by omega)
    rw [prevH_succ e1] at ih
    rw [u_state_Right.l0_eq, decide_eq_true (by omega), ifT, idx_at (encTs_at e1), good_is _ (hs _ (List.getElem_mem h1)), dropCons h1, List.all_cons, fs_cons, risF_cons]
    simp only [someB, asB_]
    rw [w64_succ (by omega), ih]
    have hn : (Fd.mk ts[i].n []).n = ts[i].n := rfl
    rw [hn]
    by_cases hi0 : i = 0
    · subst hi0
      rw [e00, decide_eq_false (by omega), ifF]
      have hp : prevH ts 0 = none := rfl
      rw [hp]
      simp only [someB, orK]
      cases Rn ts[0].n <;> cases gR ts[0] <;> simp [ifT, ifF, rises, someB]
    · have e2 : ts[i - 1]? = some ts[i - 1] := List.getElem?_eq_getElem (by omega)
      rw [decide_eq_true (by omega), ifT, th0, w64_pred (by omega) (by omega)]
      simp only [asS_, idx_at (encTs_at e2), th0, someB, orK]
      have hp : prevH ts i = some ts[i - 1].n := by unfold prevH; rw [if_neg hi0, e2]; rfl
      rw [hp, rises, ble_lt]
      cases Rn ts[i].n <;> cases gR ts[i] <;> cases bytesLt ts[i - 1].n ts[i].n <;> simp [ifT, ifF, someB]
theorem rightS_is (ts : List Th) (hl : ts.length ≤ 256) (hs : ∀ t ∈ ts, SmTh t) : u_state_Right (.sl 3 (encTs ts)) = some (.bool (ts.all gR && risD (nmsT ts) && !ringB (tds ts))) := by
  have := right_loop ts hl hs ts.length 0 (by omega)
  rw [e00, List.drop_zero] at this
  rw [u_state_Right.f_eq, encTs_len, decide_eq_false (by omega), ifF, this]; rfl
end Go.Proofs.YtmdimhcjogjcgaaGreatDoor.Lat
