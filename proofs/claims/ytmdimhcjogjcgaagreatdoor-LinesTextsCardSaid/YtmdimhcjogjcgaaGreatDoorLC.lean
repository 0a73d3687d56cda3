/- 'Below': the program and the document come to 'und'. -/
import Derived.Test.YtmdimhcjogjcgaaGreatDoorLB
import Derived.Lib.ItoaLen
import Derived.Lib.ItoaMem
set_option linter.unusedVariables false
set_option linter.unusedSimpArgs false
set_option linter.unusedSectionVars false
set_option linter.deprecated false
set_option linter.unnecessarySimpa false
namespace Go.Proofs.YtmdimhcjogjcgaaGreatDoor.Lat
open Go.Proofs.YtmdimhcjogjcgaaGreatDoor.Abs
mutual
/-- The names of fields rise, all the way down. -/
def rnT : Tm → Bool
  | .mk k _ _ _ _ _ _ fs => if k = 4 then risF Rn none fs && rnF fs else true
def rnF : List Fd → Bool
  | [] => true
  | .mk _ v :: r => rnL v && rnF r
def rnL : List Tm → Bool
  | [] => true
  | t :: r => rnT t && rnL r
end
theorem rnF_mem : ∀ (fs : List Fd), rnF fs = true → ∀ f ∈ fs, rnL f.v = true
  | [], h, f, hf => by cases hf
  | .mk n v :: r, h, f, hf => by
    rw [rnF, Bool.and_eq_true] at h
    rcases List.mem_cons.1 hf with rfl | hf
    · exact h.1
    · exact rnF_mem r h.2 f hf
theorem rnL_mem : ∀ (v : List Tm), rnL v = true → ∀ t ∈ v, rnT t = true
  | [], h, t, ht => by cases ht
  | x :: r, h, t, ht => by
    rw [rnL, Bool.and_eq_true] at h
    rcases List.mem_cons.1 ht with rfl | ht
    · exact h.1
    · exact rnL_mem r h.2 t ht
theorem rnT_fs {t : Tm} (h : rnT t = true) (hk : t.k = 4) : risF Rn none t.fs = true ∧ rnF t.fs = true := by
  obtain ⟨k, lo, hi, s, a, m, o, fs⟩ := t
  simp only [Tm.k] at hk
  rw [rnT, if_pos hk, Bool.and_eq_true] at h
  exact h
theorem undT_eq (a b : Tm) : undT a b = (decide (b.k = 5) || (if a.k ≠ 4 ∨ b.k ≠ 4 then belowS a b else (!a.o || b.o) && (b.o || hasAll a.fs b.fs) && undF a.fs b.fs)) := by cases b; rw [undT]; rfl
theorem undF_cons (a : List Fd) (f : Fd) (r : List Fd) : undF a (f :: r) = ((match findF a f.n with | some w => undV w f.v | none => false) && undF a r) := by cases f; rw [undF]; rfl
theorem undA_any (t : Tm) : ∀ v : List Tm, undA t v = v.any fun u => undT t u
  | [] => rfl
  | u :: r => by rw [undA, undA_any t r, List.any_cons]
theorem encFd_in {α : Type} {fs : List Fd} {j : Nat} {f : Fd} (h : fs[j]? = some f) (k : List AV → Option α) : idx (encF fs) (j : Int) k = k (encFd f) := idx_at (encFd_at h) k
theorem any_not {β : Type} (l : List β) (q : β → Bool) : (l.any fun x => !q x) = !(l.all q) := by
  induction l with
  | nil => rfl
  | cons x r ih => rw [List.any_cons, List.all_cons, ih]; cases q x <;> rfl
theorem mem_sz {fs : List Fd} {f : Fd} (h : f ∈ fs) : 1 + szV f.v ≤ szF fs := by
  obtain ⟨i, hi⟩ := List.getElem?_of_mem h
  exact szFd_get hi
theorem mem_szT {v : List Tm} {t : Tm} (h : t ∈ v) : szT t ≤ szV v := by
  obtain ⟨i, hi⟩ := List.getElem?_of_mem h
  exact szT_get hi
/-! The program -/
theorem belowP_loop (a : Tm) (fs : List Fd) (ha : risF Rn none a.fs = true) (hla : a.fs.length ≤ 1073741824) (hl : fs.length ≤ 1073741824)
    (h : ∀ f ∈ a.fs, ∀ g ∈ fs, lat_under (.agg 1 [.sl 8 (encV f.v)]) (.agg 1 [.sl 8 (encV g.v)]) = some (.bool (undV f.v g.v))) :
    ∀ (d i : Nat), i + d = fs.length → lat_below.l0 (.boxv 8 (encT a) []) (.sl 2 (encF fs)) (.int .i64 (fs.length : Int)) (.int .i64 (i : Int)) = some (.bool (undF a.fs (fs.drop i)))
  | 0, i, hi => by rw [lat_below.l0_eq, decide_eq_false (by omega), ifF, dropNil (by omega)]; rw [undF]
  | d + 1, i, hi => by
    have h1' : i < fs.length := by omega
    have e1 : fs[i]? = some fs[i] := List.getElem?_eq_getElem h1'
    rw [lat_below.l0_eq, decide_eq_true (by omega), ifT, dropCons h1', undF_cons]
    simp only [idx_at (encFd_at e1), g7, asL2, h0, asS_]
    obtain ⟨k, hk, hF⟩ := findP_is a.fs fs[i].n none ha hla
    rw [hk]
    simp only [someB, asI_]
    rcases hF with ⟨rfl, hn⟩ | ⟨j, f, rfl, hf, he, hn⟩
    · rw [decide_eq_true (by omega), ifT, hn]; rfl
    · rw [decide_eq_false (by omega), ifF, hn]
      simp only [encFd_in hf, h1, frz]
      rw [h f (List.mem_of_getElem? hf) _ (List.getElem_mem h1')]
      simp only [someB, asB_]
      rw [w64_succ (by omega), belowP_loop a fs ha hla hl h d (i + 1) (by omega)]
      cases undV f.v fs[i].v <;> rfl
theorem lacksP_is (a b : Tm) (hb : risF Rn none b.fs = true) (hla : a.fs.length ≤ 1073741824) (hl : b.fs.length ≤ 1073741824) : lat_lacks (.agg 8 (encT b)) (.agg 8 (encT a)) = some (.bool (!b.o && !hasAll a.fs b.fs)) := by
  rw [lat_lacks.f_eq]
  have := anyF_is a.fs 260 [AV.eptr 8 (encT b) 0] (fun f => !(findF b.fs f.n).isSome) hla (fun f hf => by
    have : lat_lacks_1 (.agg 2 (encFd f)) (.eptr 8 (encT b) 0) = some (.bool (!(findF b.fs f.n).isSome)) := by
      rw [lat_lacks_1.f_eq]
      simp only [g7, asL2, h0, asS_]
      obtain ⟨k, hk, hF⟩ := findP_is b.fs f.n none hb hl
      rw [hk]
      simp only [someB, asI_]
      rcases hF with ⟨rfl, hn⟩ | ⟨j, g, rfl, hg, he, hn⟩
      · rw [hn]; rfl
      · rw [hn, decide_eq_false (by omega)]; rfl
    exact this)
  simp only [g6, g7, asB_, asL2, this, someB, andK]
  congr 3
  exact any_not _ _
theorem belP_is {a b : Tm} (ha : rnT a = true) (hb : rnT b = true) (hla : a.fs.length ≤ 1073741824) (hl : b.fs.length ≤ 1073741824)
    (h : rnF a.fs = true → rnF b.fs = true → ∀ f ∈ a.fs, ∀ g ∈ b.fs, lat_under (.agg 1 [.sl 8 (encV f.v)]) (.agg 1 [.sl 8 (encV g.v)]) = some (.bool (undV f.v g.v))) :
    lat_below (.agg 8 (encT a)) (.agg 8 (encT b)) = some (.bool (undT a b)) := by
  rw [lat_below.f_eq, undT_eq]
  simp only [g0, g6, g7, asI_, asB_, asL2, belowP_is, someB, orK, andK]
  by_cases h5 : b.k = 5
  · simp [h5, ifT]
  rw [decide_eq_false h5, ifF, Bool.false_or]
  by_cases h4 : a.k ≠ 4 ∨ b.k ≠ 4
  · rw [if_pos h4]
    have : (!decide (a.k = b.k) || !decide (a.k = 4)) = true := by
      simp
      rcases Classical.em (a.k = b.k) with he | he
      · right; intro h; rcases h4 with h' | h' <;> omega
      · left; exact he
    rw [this, ifT]
  · rw [if_neg h4]
    have hk : a.k = 4 ∧ b.k = 4 := by omega
    obtain ⟨ka, kb⟩ := hk
    obtain ⟨ra, na⟩ := rnT_fs ha ka
    obtain ⟨rb, nb⟩ := rnT_fs hb kb
    have hl0 := belowP_loop a b.fs ra hla hl (h na nb) b.fs.length 0 (by omega)
    rw [e00, List.drop_zero] at hl0
    simp only [ka, kb, decide_true, Bool.not_true, Bool.or_self, ifF, lacksP_is a b rb hla hl, someB, asB_, orK, encF_len, hl0]
    cases a.o <;> cases b.o <;> cases hasAll a.fs b.fs <;> cases undF a.fs b.fs <;> rfl
theorem undP_loop (v w : List Tm) (hlv : v.length ≤ 1073741824) (hlw : w.length ≤ 1073741824) (h : ∀ t ∈ v, ∀ u ∈ w, lat_below (.agg 8 (encT t)) (.agg 8 (encT u)) = some (.bool (undT t u))) :
    ∀ (d i : Nat), i + d = v.length → lat_under.l0 (.boxv 1 [.sl 8 (encV w)] []) (.sl 8 (encV v)) (.int .i64 (v.length : Int)) (.int .i64 (i : Int)) = some (.bool (undV (v.drop i) w))
  | 0, i, hi => by rw [lat_under.l0_eq, decide_eq_false (by omega), ifF, dropNil (by omega)]; rfl
  | d + 1, i, hi => by
    have h1' : i < v.length := by omega
    have e1 : v[i]? = some v[i] := List.getElem?_eq_getElem h1'
    have := anyT_is w 264 [AV.eptr 8 (encT v[i]) 0] (fun u => undT v[i] u) hlw (fun u hu => by
      have : lat_under_1 (.agg 8 (encT u)) (.eptr 8 (encT v[i]) 0) = some (.bool (undT v[i] u)) := by
        rw [lat_under_1.f_eq, h _ (List.getElem_mem h1') u hu]; rfl
      exact this)
    rw [lat_under.l0_eq, decide_eq_true (by omega), ifT, dropCons h1']
    simp only [idx_at (encT_at e1), v0, asL8, this, someB, asB_]
    rw [w64_succ (by omega), undP_loop v w hlv hlw h d (i + 1) (by omega)]
    unfold undV
    rw [List.all_cons, undA_any]
    cases w.any fun u => undT v[i] u <;> rfl
theorem underP_is {v w : List Tm} (hlv : v.length ≤ 1073741824) (hlw : w.length ≤ 1073741824) (h : ∀ t ∈ v, ∀ u ∈ w, lat_below (.agg 8 (encT t)) (.agg 8 (encT u)) = some (.bool (undT t u))) :
    lat_under (.agg 1 [.sl 8 (encV v)]) (.agg 1 [.sl 8 (encV w)]) = some (.bool (undV v w)) := by
  have := undP_loop v w hlv hlw h v.length 0 (by omega)
  rw [lat_under.f_eq]
  simp only [v0, asL8, encV_len]
  rw [e00, List.drop_zero] at this
  exact this
theorem undP_is : ∀ (n : Nat), n ≤ 1073741824 →
    (∀ a b : Tm, szT a ≤ 1073741824 → szT b ≤ n → rnT a = true → rnT b = true → lat_below (.agg 8 (encT a)) (.agg 8 (encT b)) = some (.bool (undT a b))) ∧
    (∀ v w : List Tm, szV v ≤ 1073741824 → szV w ≤ n → rnL v = true → rnL w = true → lat_under (.agg 1 [.sl 8 (encV v)]) (.agg 1 [.sl 8 (encV w)]) = some (.bool (undV v w)))
  | 0, _ => by
    refine ⟨fun a b ha hb => ?_, fun v w hv hw _ _ => ?_⟩
    · rw [szT_fs] at hb; omega
    · have hl := szV_len w
      have hl' := szV_len v
      obtain rfl : w = [] := List.eq_nil_of_length_eq_zero (by omega)
      exact underP_is (by omega) (by simp) (fun t ht u hu => by cases hu)
  | n + 1, hn => by
    obtain ⟨hT, hV⟩ := undP_is n (by omega)
    have hT' : ∀ a b : Tm, szT a ≤ 1073741824 → szT b ≤ n + 1 → rnT a = true → rnT b = true → lat_below (.agg 8 (encT a)) (.agg 8 (encT b)) = some (.bool (undT a b)) := fun a b ha hb ra rb => by
      rw [szT_fs] at ha hb
      have hla := szF_len a.fs
      have hlb := szF_len b.fs
      refine belP_is ra rb (by omega) (by omega) fun na nb f hf g hg => hV f.v g.v ?_ ?_ (rnF_mem _ na f hf) (rnF_mem _ nb g hg)
      · have := mem_sz hf; omega
      · have := mem_sz hg; omega
    refine ⟨hT', fun v w hv hw rv rw' => ?_⟩
    have hl := szV_len w
    have hl' := szV_len v
    refine underP_is (by omega) (by omega) fun t ht u hu => hT' t u ?_ ?_ (rnL_mem _ rv t ht) (rnL_mem _ rw' u hu)
    · have := mem_szT ht; omega
    · have := mem_szT hu; omega
/-! The document -/
theorem below9_l1 (a b : Tm) (hla : a.fs.length ≤ 1073741824) (hl : b.fs.length ≤ 1073741824)
    (h : ∀ f ∈ a.fs, ∀ g ∈ b.fs, ref09_Under (.agg 1 [.sl 8 (encV f.v)]) (.agg 1 [.sl 8 (encV g.v)]) = some (.bool (undV f.v g.v))) :
    ∀ (d i : Nat), i + d = b.fs.length → ref09_under.l1 (.boxv 8 (encT a) []) (.boxv 8 (encT b) []) (.int .i64 (i : Int)) = some (.bool (undF a.fs (b.fs.drop i)))
  | 0, i, hi => by
    rw [ref09_under.l1_eq]
    simp only [g7, asL2, encF_len]
    rw [decide_eq_false (by omega), ifF, dropNil (by omega)]; rw [undF]
  | d + 1, i, hi => by
    have h1' : i < b.fs.length := by omega
    have e1 : b.fs[i]? = some b.fs[i] := List.getElem?_eq_getElem h1'
    rw [ref09_under.l1_eq, dropCons h1', undF_cons]
    simp only [g7, asL2, encF_len, idx_at (encFd_at e1), h0, asS_]
    rw [decide_eq_true (by omega), ifT]
    obtain ⟨k, hk, hF⟩ := find9_is a.fs b.fs[i].n hla
    rw [hk]
    simp only [someB, asI_]
    rcases hF with ⟨rfl, hn⟩ | ⟨j, f, rfl, hf, he, hn⟩
    · rw [decide_eq_true (by omega), ifT, hn]; rfl
    · rw [decide_eq_false (by omega), ifF, hn]
      simp only [encFd_in hf, h1]
      rw [h f (List.mem_of_getElem? hf) _ (List.getElem_mem h1')]
      simp only [someB, asB_]
      rw [w64_succ (by omega), below9_l1 a b hla hl h d (i + 1) (by omega)]
      cases undV f.v b.fs[i].v <;> rfl
theorem below9_l0 (a b : Tm) (hla : a.fs.length ≤ 1073741824) (hl : b.fs.length ≤ 1073741824)
    (h : ∀ f ∈ a.fs, ∀ g ∈ b.fs, ref09_Under (.agg 1 [.sl 8 (encV f.v)]) (.agg 1 [.sl 8 (encV g.v)]) = some (.bool (undV f.v g.v))) :
    ∀ (d i : Nat), i + d = a.fs.length → ref09_under.l0 (.boxv 8 (encT a) []) (.boxv 8 (encT b) []) (.int .i64 (i : Int)) = some (.bool ((b.o || hasAll (a.fs.drop i) b.fs) && undF a.fs b.fs))
  | 0, i, hi => by
    have hl1 := below9_l1 a b hla hl h b.fs.length 0 (by omega)
    rw [e00, List.drop_zero] at hl1
    rw [ref09_under.l0_eq]
    simp only [g6, g7, asL2, asB_, encF_len, andK, someB, hl1]
    rw [decide_eq_false (by omega), Bool.false_and, ifF, dropNil (by omega)]
    unfold hasAll
    rw [List.all_nil, Bool.or_true, Bool.true_and]
  | d + 1, i, hi => by
    have h1' : i < a.fs.length := by omega
    have e1 : a.fs[i]? = some a.fs[i] := List.getElem?_eq_getElem h1'
    have hl1 := below9_l1 a b hla hl h b.fs.length 0 (by omega)
    rw [e00, List.drop_zero] at hl1
    have ih := below9_l0 a b hla hl h d (i + 1) (by omega)
    rw [ref09_under.l0_eq, dropCons h1']
    simp only [g6, g7, asL2, asB_, encF_len, andK, someB, hl1, idx_at (encFd_at e1), h0, asS_]
    rw [decide_eq_true (by omega), Bool.true_and]
    obtain ⟨k, hk, hF⟩ := find9_is b.fs a.fs[i].n hl
    rw [hk, w64_succ (by omega), ih]
    simp only [someB, asI_]
    unfold hasAll
    rw [List.all_cons]
    rcases hF with ⟨rfl, hn⟩ | ⟨j, f, rfl, hf, he, hn⟩
    · rw [decide_eq_true (by omega), ifT, hn]; cases b.o <;> rfl
    · rw [decide_eq_false (by omega), ifF, hn]
      cases b.o <;> rfl
theorem bel9_is {a b : Tm} (hla : a.fs.length ≤ 1073741824) (hl : b.fs.length ≤ 1073741824)
    (h : ∀ f ∈ a.fs, ∀ g ∈ b.fs, ref09_Under (.agg 1 [.sl 8 (encV f.v)]) (.agg 1 [.sl 8 (encV g.v)]) = some (.bool (undV f.v g.v))) :
    ref09_under (.agg 8 (encT a)) (.agg 8 (encT b)) = some (.bool (undT a b)) := by
  have hl0 := below9_l0 a b hla hl h a.fs.length 0 (by omega)
  rw [e00, List.drop_zero] at hl0
  rw [ref09_under.f_eq, undT_eq]
  simp only [g0, g6, asI_, asB_, below7_is, someB, orK, andK, hl0]
  by_cases h5 : b.k = 5
  · simp [h5, ifT]
  rw [decide_eq_false h5, ifF, Bool.false_or]
  by_cases h4 : a.k ≠ 4 ∨ b.k ≠ 4
  · rw [if_pos h4]
    have : (!decide (a.k = 4) || !decide (b.k = 4)) = true := by simp; exact h4
    rw [this, ifT]
  · rw [if_neg h4]
    have hk : a.k = 4 ∧ b.k = 4 := by omega
    obtain ⟨ka, kb⟩ := hk
    simp only [ka, kb, decide_true, Bool.not_true, Bool.or_self, ifF]
    cases a.o <;> cases b.o <;> cases hasAll a.fs b.fs <;> cases undF a.fs b.fs <;> rfl
theorem und9_in (v w : List Tm) (i : Nat) (t : Tm) (ht : v[i]? = some t) (hlw : w.length ≤ 1073741824) (h : ∀ u ∈ w, ref09_under (.agg 8 (encT t)) (.agg 8 (encT u)) = some (.bool (undT t u)))
    (X : Option AV) (next : ref09_Under.l0 (.boxv 1 [.sl 8 (encV v)] []) (.boxv 1 [.sl 8 (encV w)] []) (.int .i64 (w64 ((i : Int) + 1))) = X) :
    ∀ (d k : Nat) (b : Bool), k + d = w.length → ref09_Under.l1 (.boxv 1 [.sl 8 (encV v)] []) (.boxv 1 [.sl 8 (encV w)] []) (.int .i64 (i : Int)) (.bool b) (.int .i64 (k : Int)) = if (b || (w.drop k).any fun u => undT t u) = true then X else some (.bool false)
  | 0, k, b, hk => by
    rw [ref09_Under.l1_eq2]
    simp only [v0, asL8, encV_len, andK, someB, next]
    rw [decide_eq_false (by omega), dropNil (by omega)]
    cases b <;> rfl
  | d + 1, k, b, hk => by
    have h1' : k < w.length := by omega
    have e1 : w[k]? = some w[k] := List.getElem?_eq_getElem h1'
    rw [ref09_Under.l1_eq2, dropCons h1', List.any_cons]
    simp only [v0, asL8, encV_len, andK, someB, next, idx_at (encT_at ht), idx_at (encT_at e1), h _ (List.getElem_mem h1'), asB_]
    rw [decide_eq_true (by omega), w64_succ (by omega), und9_in v w i t ht hlw h X next d (k + 1) _ (by omega)]
    cases b <;> rfl
theorem und9_loop (v w : List Tm) (hlv : v.length ≤ 1073741824) (hlw : w.length ≤ 1073741824) (h : ∀ t ∈ v, ∀ u ∈ w, ref09_under (.agg 8 (encT t)) (.agg 8 (encT u)) = some (.bool (undT t u))) :
    ∀ (d i : Nat), i + d = v.length → ref09_Under.l0 (.boxv 1 [.sl 8 (encV v)] []) (.boxv 1 [.sl 8 (encV w)] []) (.int .i64 (i : Int)) = some (.bool (undV (v.drop i) w))
  | 0, i, hi => by
    rw [ref09_Under.l0_eq]
    simp only [v0, asL8, encV_len]
    rw [decide_eq_false (by omega), ifF, dropNil (by omega)]; rfl
  | d + 1, i, hi => by
    have h1' : i < v.length := by omega
    have e1 : v[i]? = some v[i] := List.getElem?_eq_getElem h1'
    have hnext : ref09_Under.l0 (.boxv 1 [.sl 8 (encV v)] []) (.boxv 1 [.sl 8 (encV w)] []) (.int .i64 (w64 ((i : Int) + 1))) = some (.bool (undV (v.drop (i + 1)) w)) := by rw [w64_succ (by omega)]; exact und9_loop v w hlv hlw h d (i + 1) (by omega)
    have hin := und9_in v w i v[i] e1 hlw (h _ (List.getElem_mem h1')) _ hnext w.length 0 false (by omega)
    rw [ref09_Under.l0_eq, dropCons h1']
    simp only [v0, asL8, encV_len]
    rw [decide_eq_true (by omega), ifT]
    rw [e00, List.drop_zero, Bool.false_or] at hin
    rw [hin]
    unfold undV
    rw [List.all_cons, undA_any]
    cases w.any fun u => undT v[i] u <;> rfl
theorem under9_is {v w : List Tm} (hlv : v.length ≤ 1073741824) (hlw : w.length ≤ 1073741824) (h : ∀ t ∈ v, ∀ u ∈ w, ref09_under (.agg 8 (encT t)) (.agg 8 (encT u)) = some (.bool (undT t u))) :
    ref09_Under (.agg 1 [.sl 8 (encV v)]) (.agg 1 [.sl 8 (encV w)]) = some (.bool (undV v w)) := by
  have := und9_loop v w hlv hlw h v.length 0 (by omega)
  rw [ref09_Under.f_eq]
  rw [e00, List.drop_zero] at this
  exact this
theorem und9_is : ∀ (n : Nat), n ≤ 1073741824 →
    (∀ a b : Tm, szT a ≤ 1073741824 → szT b ≤ n → ref09_under (.agg 8 (encT a)) (.agg 8 (encT b)) = some (.bool (undT a b))) ∧
    (∀ v w : List Tm, szV v ≤ 1073741824 → szV w ≤ n → ref09_Under (.agg 1 [.sl 8 (encV v)]) (.agg 1 [.sl 8 (encV w)]) = some (.bool (undV v w)))
  | 0, _ => by
    refine ⟨fun a b ha hb => ?_, fun v w hv hw => ?_⟩
    · rw [szT_fs] at hb; omega
    · have hl := szV_len w
      have hl' := szV_len v
      obtain rfl : w = [] := List.eq_nil_of_length_eq_zero (by omega)
      exact under9_is (by omega) (by simp) (fun t ht u hu => by cases hu)
  | n + 1, hn => by
    obtain ⟨hT, hV⟩ := und9_is n (by omega)
    have hT' : ∀ a b : Tm, szT a ≤ 1073741824 → szT b ≤ n + 1 → ref09_under (.agg 8 (encT a)) (.agg 8 (encT b)) = some (.bool (undT a b)) := fun a b ha hb => by
      rw [szT_fs] at ha hb
      have hla := szF_len a.fs
      have hlb := szF_len b.fs
      refine bel9_is (by omega) (by omega) fun f hf g hg => hV f.v g.v ?_ ?_
      · have := mem_sz hf; omega
      · have := mem_sz hg; omega
    refine ⟨hT', fun v w hv hw => ?_⟩
    have hl := szV_len w
    have hl' := szV_len v
    refine under9_is (by omega) (by omega) fun t ht u hu => hT' t u ?_ ?_
    · have := mem_szT ht; omega
    · have := mem_szT hu; omega
mutual
theorem li_rnT : ∀ (t : Tm) (d : Int), liT Rn d t = true → rnT t = true
  | .mk k lo hi s a m o fs, d, h => by
    rw [rnT]
    by_cases h4 : k = 4
    · rw [liT, if_neg (by omega), if_pos h4, Bool.and_eq_true] at h
      rw [if_pos h4, Bool.and_eq_true]
      refine ⟨?_, li_rnF fs _ h.2⟩
      have := h.1
      rw [bareT] at this
      simp only [Bool.and_eq_true] at this
      exact this.2
    · rw [if_neg h4]
theorem li_rnF : ∀ (fs : List Fd) (d : Int), liF Rn d fs = true → rnF fs = true
  | [], d, h => rfl
  | .mk n v :: r, d, h => by
    rw [liF] at h
    simp only [Bool.and_eq_true] at h
    rw [rnF, Bool.and_eq_true]
    exact ⟨li_rnL v d h.1.2.1.1.2, li_rnF r d h.2⟩
theorem li_rnL : ∀ (v : List Tm) (d : Int), liL Rn d v = true → rnL v = true
  | [], d, h => rfl
  | t :: r, d, h => by
    rw [liL, Bool.and_eq_true] at h
    rw [rnL, Bool.and_eq_true]
    exact ⟨li_rnT t d h.1, li_rnL r d h.2⟩
end
def anyTm : Tm := .mk 5 0 0 [] false false false []
theorem fst0_zero {a b : Int} : fst0 a b = 0 ↔ a = 0 ∧ b = 0 := by unfold fst0; split <;> omega
theorem flag_zero (b : Bool) : flag b - flag false = 0 ↔ b = false := by cases b <;> decide
theorem any_is {t : Tm} (h : t.k = 5) : decide (cmpT t anyTm = 0) = anyT t := by
  obtain ⟨k, lo, hi, s, a, m, o, fs⟩ := t
  rw [cmpT_eq]
  simp only [anyTm, anyT, fst0_zero, Tm.k, Tm.lo, Tm.hi, Tm.s, Tm.a, Tm.m, Tm.o, Tm.fs, cmpI_0, cmpS_0, flag_zero] at h ⊢
  rw [Bool.eq_iff_iff]
  have hF : cmpF fs [] = 0 ↔ fs = [] := by
    cases fs with
    | nil => simp [cmpF]
    | cons f r => obtain ⟨n, v⟩ := f; simp [cmpF]
  simp [h, hF]
  constructor <;> intro hh <;> simp_all
theorem enc_any : encT anyTm = [AV.int .i64 5, AV.int .i64 0, AV.int .i64 0, AV.str [], AV.bool false, AV.bool false, AV.bool false, AV.sl 2 []] := rfl
/-- The terms rise. -/
def srtP : Option Tm → List Tm → Bool
  | _, [] => true
  | none, t :: r => srtP (some t) r
  | some p, t :: r => decide (cmpT p t < 0) && srtP (some t) r
theorem srtP_some : ∀ (r : List Tm) (t : Tm), srtV (t :: r) = srtP (some t) r
  | [], t => rfl
  | u :: r, t => by rw [srtV, srtP, srtP_some r u]
theorem srtP_is : ∀ v : List Tm, srtV v = srtP none v
  | [] => rfl
  | t :: r => by rw [srtP, srtP_some]
def prevT (v : List Tm) (i : Nat) : Option Tm := if i = 0 then none else v[i - 1]?
theorem prevT_succ {v : List Tm} {i : Nat} {t : Tm} (h : v[i]? = some t) : prevT v (i + 1) = some t := by
  unfold prevT
  rw [if_neg (by omega), Nat.add_sub_cancel, h]
/-- No two of which one is below the other. -/
def indQ (v : List Tm) (i k : Nat) : Bool := decide (i = k) || (match v[i]?, v[k]? with | some t, some u => !undT t u | _, _ => true)
theorem ind_def (v : List Tm) : indV v = (List.range v.length).all fun i => (List.range v.length).all fun k => indQ v i k := rfl
theorem range_drop {n k : Nat} (h : k < n) : (List.range n).drop k = k :: (List.range n).drop (k + 1) := by
  rw [dropCons (l := List.range n) (i := k) (by rw [List.length_range]; exact h), List.getElem_range]
theorem liT_eq (R : Bs → Bool) (D : Int) (t : Tm) : liT R D t = if t.k = 5 then anyT t else if t.k = 4 then bareT R t && liF R (D - 1) t.fs else scal t := by cases t; rw [liT]; rfl
theorem okT_eq (R : Bs → Bool) (t : Tm) : okT R t = if t.k = 5 then anyT t else if t.k = 4 then bareT R t && okF R t.fs else scal t := by cases t; rw [okT]; rfl
theorem bareT_eq (R : Bs → Bool) (t : Tm) : bareT R t = (decide (t.lo = 0 ∧ t.hi = 0 ∧ t.s = []) && !t.a && !t.m && decide (t.fs.length ≤ 32) && risF R none t.fs) := by cases t; rw [bareT]; rfl
theorem liF_cons (R : Bs → Bool) (D : Int) (f : Fd) (r : List Fd) : liF R D (f :: r) = (!f.v.isEmpty && liV R D f.v && liF R D r) := by cases f; rw [liF]; rfl
theorem okF_cons (R : Bs → Bool) (f : Fd) (r : List Fd) : okF R (f :: r) = (!f.v.isEmpty && okV R f.v && okF R r) := by cases f; rw [okF]; rfl
theorem len0 {β : Type} (v : List β) : decide ((v.length : Int) = 0) = v.isEmpty := by cases v <;> simp <;> omega
theorem bare3 (a b : Int) (s : Bs) : decide (a = 0 ∧ b = 0 ∧ s = []) = (decide (a = 0) && decide (b = 0) && decide (s = [])) := by rw [Bool.eq_iff_iff]; simp [and_assoc]
/-! The program -/
theorem ls_l2 (v : List Tm) (i : Nat) (t : Tm) (ht : v[i]? = some t) (hl : v.length ≤ 1073741824) (h : ∀ u ∈ v, lat_below (.agg 8 (encT t)) (.agg 8 (encT u)) = some (.bool (undT t u)))
    (X : Option AV) (next : lat_listed.l1 (.boxv 1 [.sl 8 (encV v)] []) (.sl 8 (encV v)) (.int .i64 (v.length : Int)) (.int .i64 ((i + 1 : Nat) : Int)) = X) :
    ∀ (d k : Nat), k + d = v.length → lat_listed.l2 (.boxv 1 [.sl 8 (encV v)] []) (.int .i64 (i : Int)) (.boxv 8 (encT t) []) (.sl 8 (encV v)) (.int .i64 (v.length : Int)) (.int .i64 (i : Int)) (.sl 8 (encV v)) (.int .i64 (v.length : Int)) (.int .i64 (k : Int)) = if ((List.range v.length).drop k).all (fun k => indQ v i k) = true then X else some (.bool false)
  | 0, k, hk => by
    have hi : i < v.length := (List.getElem?_eq_some_iff.1 ht).1
    rw [lat_listed.l2_eq, decide_eq_false (by omega), ifF, w64_succ (by omega), next, dropNil (by rw [List.length_range]; omega)]; rfl
  | d + 1, k, hk => by
    have h1' : k < v.length := by omega
    have e1 : v[k]? = some v[k] := List.getElem?_eq_getElem h1'
    have ih := ls_l2 v i t ht hl h X next d (k + 1) (by omega)
    rw [lat_listed.l2_eq, decide_eq_true (by omega), ifT, range_drop h1', List.all_cons]
    simp only [idx_at (encT_at e1), h _ (List.getElem_mem h1'), someB, asB_, andK]
    rw [w64_succ (by omega), ih]
    have hq : indQ v i k = (decide (i = k) || !undT t v[k]) := by unfold indQ; rw [ht, e1]
    have hc : decide ((i : Int) = (k : Int)) = decide (i = k) := by rw [Bool.eq_iff_iff]; simp <;> omega
    rw [hq, hc]
    cases decide (i = k) <;> cases undT t v[k] <;> simp [ifT, ifF]
theorem ls_l1 (v : List Tm) (hl : v.length ≤ 1073741824) (h : ∀ t ∈ v, ∀ u ∈ v, lat_below (.agg 8 (encT t)) (.agg 8 (encT u)) = some (.bool (undT t u))) :
    ∀ (d i : Nat), i + d = v.length → lat_listed.l1 (.boxv 1 [.sl 8 (encV v)] []) (.sl 8 (encV v)) (.int .i64 (v.length : Int)) (.int .i64 (i : Int)) = some (.bool (((List.range v.length).drop i).all fun i => (List.range v.length).all fun k => indQ v i k))
  | 0, i, hi => by
    rw [lat_listed.l1_eq, decide_eq_false (by omega), ifF, dropNil (by rw [List.length_range]; omega)]; rfl
  | d + 1, i, hi => by
    have h1' : i < v.length := by omega
    have e1 : v[i]? = some v[i] := List.getElem?_eq_getElem h1'
    have h2 := ls_l2 v i v[i] e1 hl (h _ (List.getElem_mem h1')) _ (ls_l1 v hl h d (i + 1) (by omega)) v.length 0 (by omega)
    rw [e00, List.drop_zero] at h2
    rw [lat_listed.l1_eq, decide_eq_true (by omega), ifT, range_drop h1', List.all_cons]
    simp only [idx_at (encT_at e1), v0, asL8, encV_len]
    rw [h2]
    cases (List.range v.length).all fun k => indQ v i k <;> simp
theorem ls_l0 (v : List Tm) (D : Int) (hl : szV v ≤ 1073741824) (h : ∀ t ∈ v, lat_shaped (.agg 8 (encT t)) (.int .i64 D) = some (.bool (liT Rn D t)))
    (X : Option AV) (next : lat_listed.l1 (.boxv 1 [.sl 8 (encV v)] []) (.sl 8 (encV v)) (.int .i64 (v.length : Int)) (.int .i64 0) = X) :
    ∀ (d i : Nat), i + d = v.length → lat_listed.l0 (.int .i64 D) (.boxv 1 [.sl 8 (encV v)] []) (.sl 8 (encV v)) (.int .i64 (v.length : Int)) (.int .i64 (i : Int)) = if (liL Rn D (v.drop i) && srtP (prevT v i) (v.drop i)) = true then X else some (.bool false)
  | 0, i, hi => by
    rw [lat_listed.l0_eq, decide_eq_false (by omega), ifF]
    simp only [v0, asL8, encV_len]
    rw [next, dropNil (by omega), liL]; cases prevT v i <;> simp [srtP]
  | d + 1, i, hi => by
    have h1' : i < v.length := by omega
    have e1 : v[i]? = some v[i] := List.getElem?_eq_getElem h1'
    have hlen := szV_len v
    have ih := ls_l0 v D hl h X next d (i + 1) (by omega)
    rw [prevT_succ e1] at ih
    rw [lat_listed.l0_eq, decide_eq_true (by omega), ifT, dropCons h1', liL]
    simp only [idx_at (encT_at e1), h _ (List.getElem_mem h1'), someB, asB_]
    rw [w64_succ (by omega), ih]
    by_cases hi0 : i = 0
    · subst hi0
      rw [e00, decide_eq_false (by omega), ifF]
      simp only [orK, someB]
      have : prevT v 0 = none := rfl
      rw [this, srtP]
      cases liT Rn D v[0] <;> simp [ifT, ifF]
    · have e2 : v[i - 1]? = some v[i - 1] := List.getElem?_eq_getElem (by omega)
      have hs := szT_get e2
      rw [decide_eq_true (by omega), ifT, w64_pred (by omega) (by omega)]
      simp only [v0, asL8, idx_at (encT_at e2), rankT_is (t := v[i - 1]) (u := v[i]) (by omega), someB, asI_, orK]
      have : prevT v i = some v[i - 1] := by unfold prevT; rw [if_neg hi0, e2]
      rw [this, srtP]
      have hc : decide (0 ≤ cmpT v[i - 1] v[i]) = !decide (cmpT v[i - 1] v[i] < 0) := by rw [Bool.eq_iff_iff]; simp
      rw [hc]
      cases liT Rn D v[i] <;> cases decide (cmpT v[i - 1] v[i] < 0) <;> simp [ifT, ifF]
theorem listed_is (v : List Tm) (D : Int) (hl : szV v ≤ 1073741824) (hD : 1 ≤ D → ∀ t ∈ v, lat_shaped (.agg 8 (encT t)) (.int .i64 D) = some (.bool (liT Rn D t))) :
    lat_listed (.agg 1 [.sl 8 (encV v)]) (.int .i64 D) = some (.bool (liV Rn D v)) := by
  rw [lat_listed.f_eq]
  simp only [v0, asL8, encV_len, orK, someB]
  have hlen := szV_len v
  unfold liV
  by_cases h1 : D < 1
  · rw [decide_eq_true h1, Bool.true_or, ifT, decide_eq_false (p := 1 ≤ D) (by omega)]; simp
  by_cases h2 : 512 < v.length
  · rw [decide_eq_true (p := (512 : Int) < (v.length : Int)) (by omega), Bool.or_true, ifT, decide_eq_false (p := v.length ≤ 512) (by omega)]; simp
  rw [decide_eq_false h1, decide_eq_false (p := (512 : Int) < (v.length : Int)) (by omega), Bool.or_self, ifF, decide_eq_true (p := 1 ≤ D) (by omega), decide_eq_true (p := v.length ≤ 512) (by omega), Bool.true_and, Bool.true_and]
  have h0 := ls_l0 v D hl (hD (by omega)) _ rfl v.length 0 (by omega)
  rw [e00, List.drop_zero] at h0
  rw [h0, srtP_is]
  have : prevT v 0 = none := rfl
  rw [this]
  cases hli : liL Rn D v with
  | false => simp
  | true =>
    have rn := li_rnL v D hli
    have hb := ls_l1 v (by omega) (fun t ht u hu => (undP_is 1073741824 (Nat.le_refl _)).1 t u (by have := mem_szT ht; omega) (by have := mem_szT hu; omega) (rnL_mem v rn t ht) (rnL_mem v rn u hu)) v.length 0 (by omega)
    rw [e00, List.drop_zero, ← ind_def] at hb
    rw [hb]
    cases srtP none v <;> simp
theorem fields_l (fs : List Fd) (D : Int) (hD : -1000 ≤ D ∧ D ≤ 1000) (hl : fs.length ≤ 1073741824) (h : ∀ f ∈ fs, lat_listed (.agg 1 [.sl 8 (encV f.v)]) (.int .i64 (D - 1)) = some (.bool (liV Rn (D - 1) f.v))) :
    ∀ (d i : Nat), i + d = fs.length → lat_shaped.l0 (.int .i64 D) (.sl 2 (encF fs)) (.int .i64 (fs.length : Int)) (.int .i64 (i : Int)) = some (.bool (liF Rn (D - 1) (fs.drop i)))
  | 0, i, hi => by rw [lat_shaped.l0_eq, decide_eq_false (by omega), ifF, dropNil (by omega)]; rfl
  | d + 1, i, hi => by
    have h1' : i < fs.length := by omega
    have e1 : fs[i]? = some fs[i] := List.getElem?_eq_getElem h1'
    have hc := h _ (List.getElem_mem h1')
    rw [lat_shaped.l0_eq, decide_eq_true (by omega), ifT, dropCons h1']
    simp only [idx_at (encFd_at e1), h1, asL8, encV_len, frz]
    rw [w64_id (by omega), hc, w64_succ (by omega), fields_l fs D hD hl h d (i + 1) (by omega), liF_cons]
    simp only [someB, asB_, orK, len0]
    cases fs[i].v.isEmpty <;> cases liV Rn (D - 1) fs[i].v <;> simp [ifT, ifF]
theorem bareP_is (t : Tm) : lat_bare (.agg 8 (encT t)) = some (.bool (decide (t.lo = 0 ∧ t.hi = 0 ∧ t.s = []) && !t.a && !t.m)) := by
  rw [lat_bare.f_eq]
  simp only [g1, g2, g3, g4, g5, asI_, asS_, asB_, andK, someB]
  rw [bare3]
theorem shaped_is (t : Tm) (D : Int) (hD : 1 ≤ D ∧ D ≤ 1000) (hl : szT t ≤ 1073741824) (h : ∀ f ∈ t.fs, lat_listed (.agg 1 [.sl 8 (encV f.v)]) (.int .i64 (D - 1)) = some (.bool (liV Rn (D - 1) f.v))) :
    lat_shaped (.agg 8 (encT t)) (.int .i64 D) = some (.bool (liT Rn D t)) := by
  rw [szT_fs] at hl
  have hlen := szF_len t.fs
  have hf := fields_l t.fs D (by omega) (by omega) h t.fs.length 0 (by omega)
  rw [e00, List.drop_zero] at hf
  rw [lat_shaped.f_eq]
  simp only [g0, g7, asI_, asL2, bareP_is, encF_len, risP_is t.fs (by omega), scalR_is, someB, asB_, orK, hf]
  have ha : lat_anything (.agg 8 (encT t)) = some (.bool (decide (cmpT t anyTm = 0))) := by
    rw [lat_anything.f_eq, ← enc_any, rankT_is (by rw [szT_fs]; omega)]; rfl
  rw [ha]
  rw [liT_eq]
  by_cases h5 : t.k = 5
  · rw [decide_eq_true h5, ifT, if_pos h5, any_is h5]; rfl
  rw [decide_eq_false h5, ifF, if_neg h5]
  by_cases h4 : t.k = 4
  · rw [decide_eq_true h4, ifT, if_pos h4, bareT_eq]
    have hc : decide ((32 : Int) < (t.fs.length : Int)) = !decide (t.fs.length ≤ 32) := by rw [Bool.eq_iff_iff]; simp <;> omega
    rw [hc]
    cases decide (t.lo = 0 ∧ t.hi = 0 ∧ t.s = []) <;> cases t.a <;> cases t.m <;> cases decide (t.fs.length ≤ 32) <;> cases risF Nam.rightV none t.fs <;> cases liF Rn (D - 1) t.fs <;> rfl
  · rw [decide_eq_false h4, ifF, if_neg h4]
theorem liP_is : ∀ (n : Nat), n ≤ 1073741824 → ∀ (v : List Tm) (D : Int), D ≤ 1000 → szV v ≤ n → lat_listed (.agg 1 [.sl 8 (encV v)]) (.int .i64 D) = some (.bool (liV Rn D v))
  | n, hn, v, D, hD, hv => listed_is v D (by omega) fun h1 t ht => shaped_is t D ⟨h1, hD⟩ (by have := mem_szT ht; omega) fun f hf => liP_is n hn f.v (D - 1) (by omega) (by have := szV_dp ht hf; omega)
termination_by n hn v => szV v
decreasing_by have := szV_dp ht hf; omega
theorem rightP_is (v : List Tm) (hl : szV v ≤ 1073741824) : lat_Right (.agg 1 [.sl 8 (encV v)]) = some (.bool (okV Rn v)) := by
  rw [lat_Right.f_eq, liP_is 1073741824 (Nat.le_refl _) v 16 (by omega) hl, wtR_is 1073741824 v hl (Nat.le_refl _)]
  simp only [someB, asB_, asI_, andK]
  rw [← li_ok]
  congr 3
  rw [Bool.eq_iff_iff]; simp <;> omega
theorem r9_l2 (v : List Tm) (i : Nat) (t : Tm) (ht : v[i]? = some t) (hl : v.length ≤ 1073741824) (h : ∀ u ∈ v, ref09_under (.agg 8 (encT t)) (.agg 8 (encT u)) = some (.bool (undT t u)))
    (X : Option AV) (next : ref09_Right.l1 (.boxv 1 [.sl 8 (encV v)] []) (.int .i64 ((i + 1 : Nat) : Int)) = X) :
    ∀ (d k : Nat), k + d = v.length → ref09_Right.l2 (.boxv 1 [.sl 8 (encV v)] []) (.int .i64 (i : Int)) (.int .i64 (k : Int)) = if ((List.range v.length).drop k).all (fun k => indQ v i k) = true then X else some (.bool false)
  | 0, k, hk => by
    have hi : i < v.length := (List.getElem?_eq_some_iff.1 ht).1
    rw [ref09_Right.l2_eq]
    simp only [v0, asL8, encV_len]
    rw [decide_eq_false (by omega), ifF, w64_succ (by omega), next, dropNil (by rw [List.length_range]; omega)]; rfl
  | d + 1, k, hk => by
    have h1' : k < v.length := by omega
    have e1 : v[k]? = some v[k] := List.getElem?_eq_getElem h1'
    have ih := r9_l2 v i t ht hl h X next d (k + 1) (by omega)
    rw [ref09_Right.l2_eq, range_drop h1', List.all_cons]
    simp only [v0, asL8, encV_len, idx_at (encT_at ht), idx_at (encT_at e1), h _ (List.getElem_mem h1'), someB, asB_, andK]
    rw [decide_eq_true (by omega), ifT, w64_succ (by omega), ih]
    have hq : indQ v i k = (decide (i = k) || !undT t v[k]) := by unfold indQ; rw [ht, e1]
    have hc : decide ((i : Int) = (k : Int)) = decide (i = k) := by rw [Bool.eq_iff_iff]; simp <;> omega
    rw [hq, hc]
    cases decide (i = k) <;> cases undT t v[k] <;> simp [ifT, ifF]
theorem r9_l1 (v : List Tm) (hl : v.length ≤ 1073741824) (h : ∀ t ∈ v, ∀ u ∈ v, ref09_under (.agg 8 (encT t)) (.agg 8 (encT u)) = some (.bool (undT t u))) :
    ∀ (d i : Nat), i + d = v.length → ref09_Right.l1 (.boxv 1 [.sl 8 (encV v)] []) (.int .i64 (i : Int)) = some (.bool (((List.range v.length).drop i).all fun i => (List.range v.length).all fun k => indQ v i k))
  | 0, i, hi => by
    rw [ref09_Right.l1_eq]
    simp only [v0, asL8, encV_len]
    rw [decide_eq_false (by omega), ifF, dropNil (by rw [List.length_range]; omega)]; rfl
  | d + 1, i, hi => by
    have h1' : i < v.length := by omega
    have e1 : v[i]? = some v[i] := List.getElem?_eq_getElem h1'
    have h2 := r9_l2 v i v[i] e1 hl (h _ (List.getElem_mem h1')) _ (r9_l1 v hl h d (i + 1) (by omega)) v.length 0 (by omega)
    rw [e00, List.drop_zero] at h2
    rw [ref09_Right.l1_eq, range_drop h1', List.all_cons]
    simp only [v0, asL8, encV_len]
    rw [decide_eq_true (by omega), ifT, h2]
    cases (List.range v.length).all fun k => indQ v i k <;> simp
theorem r9_l0 (v : List Tm) (hl : szV v ≤ 1073741824) (h : ∀ t ∈ v, ref09_Term (.agg 8 (encT t)) = some (.bool (okT Rn t)))
    (X : Option AV) (next : ref09_Right.l1 (.boxv 1 [.sl 8 (encV v)] []) (.int .i64 0) = X) :
    ∀ (d i : Nat), i + d = v.length → ref09_Right.l0 (.boxv 1 [.sl 8 (encV v)] []) (.int .i64 (i : Int)) = if (okL Rn (v.drop i) && srtP (prevT v i) (v.drop i)) = true then X else some (.bool false)
  | 0, i, hi => by
    rw [ref09_Right.l0_eq]
    simp only [v0, asL8, encV_len]
    rw [decide_eq_false (by omega), ifF, next, dropNil (by omega), okL]; cases prevT v i <;> simp [srtP]
  | d + 1, i, hi => by
    have h1' : i < v.length := by omega
    have e1 : v[i]? = some v[i] := List.getElem?_eq_getElem h1'
    have hlen := szV_len v
    have ih := r9_l0 v hl h X next d (i + 1) (by omega)
    rw [prevT_succ e1] at ih
    rw [ref09_Right.l0_eq, dropCons h1', okL]
    simp only [v0, asL8, encV_len, idx_at (encT_at e1), h _ (List.getElem_mem h1'), someB, asB_]
    rw [decide_eq_true (by omega), ifT, w64_succ (by omega), ih]
    by_cases hi0 : i = 0
    · subst hi0
      rw [e00, decide_eq_false (by omega), ifF]
      simp only [orK, someB]
      have : prevT v 0 = none := rfl
      rw [this, srtP]
      cases okT Rn v[0] <;> simp [ifT, ifF]
    · have e2 : v[i - 1]? = some v[i - 1] := List.getElem?_eq_getElem (by omega)
      have hs := szT_get e2
      rw [decide_eq_true (by omega), ifT, w64_pred (by omega) (by omega)]
      simp only [idx_at (encT_at e2), ref8T_is (t := v[i - 1]) (u := v[i]) (by omega), someB, asI_, orK]
      have : prevT v i = some v[i - 1] := by unfold prevT; rw [if_neg hi0, e2]
      rw [this, srtP]
      have hc : decide (0 ≤ cmpT v[i - 1] v[i]) = !decide (cmpT v[i - 1] v[i] < 0) := by rw [Bool.eq_iff_iff]; simp
      rw [hc]
      cases okT Rn v[i] <;> cases decide (cmpT v[i - 1] v[i] < 0) <;> simp [ifT, ifF]
theorem right9_of (v : List Tm) (hl : szV v ≤ 1073741824) (h : ∀ t ∈ v, ref09_Term (.agg 8 (encT t)) = some (.bool (okT Rn t))) :
    ref09_Right (.agg 1 [.sl 8 (encV v)]) = some (.bool (okV Rn v)) := by
  rw [ref09_Right.f_eq, wt8_is 1073741824 v hl (Nat.le_refl _), dp8_is 1073741824 v hl (Nat.le_refl _)]
  simp only [someB, asI_, orK]
  have hlen := szV_len v
  unfold okV limV
  have c1 : decide ((512 : Int) < (wtV v : Int)) = !decide (wtV v ≤ 512) := by rw [Bool.eq_iff_iff]; simp <;> omega
  have c2 : decide ((16 : Int) < (depth v : Int)) = !decide (depth v ≤ 16) := by rw [Bool.eq_iff_iff]; simp <;> omega
  rw [c1, c2]
  have hb := r9_l1 v (by omega) (fun t ht u hu => (und9_is 1073741824 (Nat.le_refl _)).1 t u (by have := mem_szT ht; omega) (by have := mem_szT hu; omega)) v.length 0 (by omega)
  rw [e00, List.drop_zero, ← ind_def] at hb
  have h0 := r9_l0 v hl h _ hb v.length 0 (by omega)
  rw [e00, List.drop_zero, show prevT v 0 = none from rfl, ← srtP_is] at h0
  rw [h0]
  cases decide (wtV v ≤ 512) <;> cases decide (depth v ≤ 16) <;> cases okL Rn v <;> cases srtV v <;> simp [ifT, ifF]
theorem encV_emp (v : List Tm) : (encV v).isEmpty = v.isEmpty := by cases v <;> rfl
theorem term9_l (t : Tm) (hl : t.fs.length ≤ 1073741824) (h : ∀ f ∈ t.fs, ref09_Right (.agg 1 [.sl 8 (encV f.v)]) = some (.bool (okV Rn f.v))) :
    ∀ (d i : Nat), i + d = t.fs.length → ref09_Term.l0 (.boxv 8 (encT t) []) (.int .i64 (i : Int)) = some (.bool (okF Rn (t.fs.drop i)))
  | 0, i, hi => by
    rw [ref09_Term.l0_eq]
    simp only [g7, asL2, encF_len]
    rw [decide_eq_false (by omega), ifF, dropNil (by omega)]; rfl
  | d + 1, i, hi => by
    have h1' : i < t.fs.length := by omega
    have e1 : t.fs[i]? = some t.fs[i] := List.getElem?_eq_getElem h1'
    have hc := h _ (List.getElem_mem h1')
    have ih := term9_l t hl h d (i + 1) (by omega)
    rw [ref09_Term.l0_eq, dropCons h1', okF_cons]
    simp only [g7, asL2, encF_len, idx_at (encFd_at e1), h1, asL8, hc, someB, asB_, orK, len0, encV_emp]
    rw [decide_eq_true (by omega), ifT, w64_succ (by omega), ih]
    cases t.fs[i].v.isEmpty <;> cases okV Rn t.fs[i].v <;> simp [ifT, ifF]
theorem term9_of (t : Tm) (hl : szT t ≤ 1073741824) (h : ∀ f ∈ t.fs, ref09_Right (.agg 1 [.sl 8 (encV f.v)]) = some (.bool (okV Rn f.v))) :
    ref09_Term (.agg 8 (encT t)) = some (.bool (okT Rn t)) := by
  have hT := @ref8T_is t anyTm hl
  rw [szT_fs] at hl
  have hlen := szF_len t.fs
  have hf := term9_l t (by omega) h t.fs.length 0 (by omega)
  rw [e00, List.drop_zero] at hf
  rw [ref09_Term.f_eq, ← enc_any, hT]
  simp only [g0, g1, g2, g3, g4, g5, g7, asI_, asS_, asB_, asL2, encF_len, names_is t.fs (by omega), scal7_is, someB, orK, hf]
  rw [okT_eq]
  by_cases h5 : t.k = 5
  · rw [decide_eq_true h5, ifT, if_pos h5, any_is h5]
  rw [decide_eq_false h5, ifF, if_neg h5]
  by_cases h4 : t.k = 4
  · rw [decide_eq_true h4, if_pos h4, bareT_eq, bare3]
    have hc : decide ((32 : Int) < (t.fs.length : Int)) = !decide (t.fs.length ≤ 32) := by rw [Bool.eq_iff_iff]; simp <;> omega
    rw [hc]
    cases decide (t.lo = 0) <;> cases decide (t.hi = 0) <;> cases decide (t.s = []) <;> cases t.a <;> cases t.m <;> cases decide (t.fs.length ≤ 32) <;> cases risF Nam.rightV none t.fs <;> cases okF Rn t.fs <;> rfl
  · rw [decide_eq_false h4, if_neg h4]; rfl
theorem right9_is : ∀ (v : List Tm), szV v ≤ 1073741824 → ref09_Right (.agg 1 [.sl 8 (encV v)]) = some (.bool (okV Rn v))
  | v, hv => right9_of v hv fun t ht => term9_of t (by have := mem_szT ht; omega) fun f hf => right9_is f.v (by have := szV_dp ht hf; omega)
termination_by v => szV v
decreasing_by have := szV_dp ht hf; omega
/-! Settled -/
theorem seT_eq (w : Bool) (t : Tm) : seT w t = (decide (t.k ≠ 5) && (if t.k = 4 then seF w t.fs else single t || (w && t.m))) := by cases t; rw [seT]; rfl
theorem seF_cons (w : Bool) (f : Fd) (r : List Fd) : seF w (f :: r) = (seL w f.v && seF w r) := by cases f; rw [seF]; rfl
theorem idxV0 {α : Type} (t : Tm) (r : List Tm) (k : List AV → Option α) : idx (encV (t :: r)) 0 k = k (encT t) := idx_at (j := 0) (l := encV (t :: r)) (x := encT t) (by rw [encV_map]; rfl) k
theorem settled_l (w : Bool) (t : Tm) (hl : t.fs.length ≤ 1073741824) (h : ∀ f ∈ t.fs, ref11_settled (.agg 1 [.sl 8 (encV f.v)]) (.bool w) = some (.bool (seL w f.v))) :
    ∀ (d i : Nat), i + d = t.fs.length → ref11_settled.l0 (.bool w) (.boxv 8 (encT t) []) (.int .i64 (i : Int)) = some (.bool (seF w (t.fs.drop i)))
  | 0, i, hi => by
    rw [ref11_settled.l0_eq]
    simp only [g7, asL2, encF_len]
    rw [decide_eq_false (by omega), ifF, dropNil (by omega)]; rfl
  | d + 1, i, hi => by
    have h1' : i < t.fs.length := by omega
    have e1 : t.fs[i]? = some t.fs[i] := List.getElem?_eq_getElem h1'
    have ih := settled_l w t hl h d (i + 1) (by omega)
    rw [ref11_settled.l0_eq, dropCons h1', seF_cons]
    simp only [g7, asL2, encF_len, idx_at (encFd_at e1), h1, h _ (List.getElem_mem h1'), someB, asB_]
    rw [decide_eq_true (by omega), ifT, w64_succ (by omega), ih]
    cases seL w t.fs[i].v <;> rfl
theorem settled_of (w : Bool) (v : List Tm) (hl : szV v ≤ 1073741824) (h : ∀ t ∈ v, ∀ f ∈ t.fs, ref11_settled (.agg 1 [.sl 8 (encV f.v)]) (.bool w) = some (.bool (seL w f.v))) :
    ref11_settled (.agg 1 [.sl 8 (encV v)]) (.bool w) = some (.bool (seL w v)) := by
  rw [ref11_settled.f_eq]
  simp only [v0, asL8, encV_len]
  match v with
  | [] => rfl
  | t :: u :: r =>
    rw [decide_eq_false (by simp <;> omega)]; rfl
  | [t] =>
    have hs := mem_szT (v := [t]) (List.mem_cons_self ..)
    rw [szT_fs] at hs
    have hlen := szF_len t.fs
    have hf := settled_l w t (by omega) (h t (List.mem_cons_self ..)) t.fs.length 0 (by omega)
    rw [e00, List.drop_zero] at hf
    simp only [idxV0, g0, g5, asI_, asB_, single7_is, someB, hf]
    have e1 : decide ((([t] : List Tm).length : Int) = 1) = true := by simp
    rw [e1, Bool.not_true, ifF, seL, seT_eq]
    by_cases h5 : t.k = 5
    · simp [h5, someB, ifT]
    rw [decide_eq_false h5, someB, ifF, decide_eq_true (p := t.k ≠ 5) h5, Bool.true_and]
    by_cases h4 : t.k = 4
    · rw [decide_eq_true h4, Bool.not_true, ifF, if_pos h4]
    · rw [decide_eq_false h4, Bool.not_false, ifT, if_neg h4]
      cases single t <;> cases w <;> cases t.m <;> rfl
theorem settled_is (w : Bool) : ∀ (v : List Tm), szV v ≤ 1073741824 → ref11_settled (.agg 1 [.sl 8 (encV v)]) (.bool w) = some (.bool (seL w v))
  | v, hv => settled_of w v hv fun t ht f hf => settled_is w f.v (by have := szV_dp ht hf; omega)
termination_by v => szV v
decreasing_by have := szV_dp ht hf; omega
theorem settled11_is (v : List Tm) (hv : szV v ≤ 1073741824) : ref11_Settled (.agg 1 [.sl 8 (encV v)]) = some (.bool (okV Rn v && seL false v)) := by
  rw [ref11_Settled.f_eq, right9_is v hv, settled_is false v hv]
  simp only [someB, asB_, andK]
theorem okL_mem : ∀ (v : List Tm), okL Rn v = true → ∀ t ∈ v, okT Rn t = true
  | [], h, t, ht => by cases ht
  | x :: r, h, t, ht => by
    rw [okL, Bool.and_eq_true] at h
    rcases List.mem_cons.1 ht with rfl | ht
    · exact h.1
    · exact okL_mem r h.2 t ht
theorem okF_mem : ∀ (fs : List Fd), okF Rn fs = true → ∀ f ∈ fs, okV Rn f.v = true
  | [], h, f, hf => by cases hf
  | x :: r, h, f, hf => by
    rw [okF_cons] at h
    simp only [Bool.and_eq_true] at h
    rcases List.mem_cons.1 hf with rfl | hf
    · exact h.1.2
    · exact okF_mem r h.2 f hf
theorem okV_L {v : List Tm} (h : okV Rn v = true) : okL Rn v = true := by
  unfold okV at h
  simp only [Bool.and_eq_true] at h
  exact h.1.1.2
theorem asT2C {α : Type} (a b : AV) (k : AV → AV → Option α) : asT2 (.tup [a, b]) k = k a b := rfl
theorem seF_all (w : Bool) : ∀ fs : List Fd, seF w fs = fs.all fun f => seL w f.v
  | [] => rfl
  | f :: r => by rw [seF_cons, List.all_cons, seF_all w r]
theorem itoa_pos' (n : Int) (h0 : ¬ n < 0) : Lib.itoa n = Lib.decDigits n.toNat := by unfold Lib.itoa; rw [if_neg h0]
theorem itoa_neg' (n : Int) (h0 : n < 0) : Lib.itoa n = 45 :: Lib.decDigits n.natAbs := by unfold Lib.itoa; rw [if_pos h0]
theorem dec_small' {u : Nat} (h : u < 10) : Lib.decDigits u = [UInt8.ofNat (48 + u)] := by rw [Lib.decDigits, dif_pos h]
theorem dec_big' {u : Nat} (h : ¬ u < 10) : Lib.decDigits u = Lib.decDigits (u / 10) ++ [UInt8.ofNat (48 + u % 10)] := by rw [Lib.decDigits, dif_neg h]
theorem one_byte {α : Type} (u : Nat) (h : u < 10) (n : Int) (hn : n = ((48 + u : Nat) : Int)) (k : List UInt8 → Option α) : bytesK [[AV.int .u8 (IntKind.wrap .u8 n)]] k = k [UInt8.ofNat (48 + u)] := by
  have : IntKind.wrap .u8 n = ((48 + u : Nat) : Int) := by
    subst hn; simp [IntKind.wrap, IntKind.bits, IntKind.signed]; omega
  rw [this]
  rfl
theorem dec_len (u : Nat) (h : u < 9223372036854775809) : (Lib.decDigits u).length ≤ 20 := by
  rw [Lib.decDigits_length]; exact Lib.nDigits_le20 u (by omega)
theorem text1_is (m : Nat) : ∀ (n : Int), n.natAbs ≤ m → -9223372036854775808 ≤ n → n ≤ 9223372036854775807 → ref01_Text (.int .i64 n) = some (.str (Lib.itoa n)) := by
  induction m using Nat.strongRecOn with
  | _ m ih =>
    intro n hm h0 h1
    rw [ref01_Text.f_eq]
    simp only [andK, someB]
    by_cases hp : 0 ≤ n
    · obtain ⟨u, rfl⟩ := Int.eq_ofNat_of_zero_le hp
      rw [itoa_pos' _ (by omega), Int.toNat_natCast]
      by_cases h10 : u < 10
      · rw [decide_eq_true hp, decide_eq_true (p := (u : Int) < 10) (by omega), Bool.and_self, ifT, one_byte u h10 _ (by rw [w64_id (by omega)]; omega), dec_small' h10]
      · rw [decide_eq_true hp, decide_eq_false (p := (u : Int) < 10) (by omega), Bool.and_false, ifF, decide_eq_true (by omega), ifT]
        have e : w64 (Int.tdiv (u : Int) 10) = ((u / 10 : Nat) : Int) := by rw [Int.tdiv_eq_ediv_of_nonneg hp, w64_id (by omega)]; omega
        rw [e, ih (u / 10) (by omega) _ (by omega) (by omega) (by omega)]
        simp only [someB, asS_]
        have e2 : w64 (48 + Int.tmod (u : Int) 10) = ((48 + u % 10 : Nat) : Int) := by
          rw [Int.tmod_eq_emod_of_nonneg hp, w64_id (by omega)]; omega
        rw [one_byte (u % 10) (by omega) _ e2, itoa_pos' _ (by omega), Int.toNat_natCast]
        have := dec_len (u / 10) (by omega)
        rw [show Nat.ble ((Lib.decDigits (u / 10)).length + [UInt8.ofNat (48 + u % 10)].length) lim = true by rw [Nat.ble_eq]; simp only [lim, List.length_cons, List.length_nil]; omega, guT, dec_big' h10]
    · obtain ⟨u, hu⟩ : ∃ u : Nat, n = -(u : Int) := ⟨n.natAbs, by omega⟩
      subst hu
      have hu0 : 0 < u := by omega
      rw [itoa_neg' _ (by omega), show (-(u : Int)).natAbs = u by omega]
      have em : w64 (48 + w64 (0 - Int.tmod (-(u : Int)) 10)) = ((48 + u % 10 : Nat) : Int) := by
        rw [Int.neg_tmod, show (0 : Int) - -Int.tmod (u : Int) 10 = Int.tmod (u : Int) 10 by omega, Int.tmod_eq_emod_of_nonneg (by omega), w64_id (n := (u : Int) % 10) (by omega), w64_id (by omega)]; omega
      rw [decide_eq_false (p := 0 ≤ -(u : Int)) (by omega), Bool.false_and, ifF, decide_eq_false (by omega), ifF, one_byte (u % 10) (by omega) _ em]
      by_cases h10 : u < 10
      · rw [decide_eq_true (by omega), ifT, dec_small' h10, Nat.mod_eq_of_lt h10]; rfl
      · have ed : w64 (Int.tdiv (-(u : Int)) 10) = -((u / 10 : Nat) : Int) := by
          rw [Int.neg_tdiv, Int.tdiv_eq_ediv_of_nonneg (by omega), w64_id (by omega)]; omega
        rw [decide_eq_false (by omega), ifF, ed, ih (u / 10) (by omega) _ (by omega) (by omega) (by omega)]
        simp only [someB, asS_]
        rw [one_byte (u % 10) (by omega) _ em]
        rw [itoa_neg' _ (by omega), show (-((u / 10 : Nat) : Int)).natAbs = u / 10 by omega]
        have := dec_len (u / 10) (by omega)
        rw [show Nat.ble ((45 :: Lib.decDigits (u / 10)).length + [UInt8.ofNat (48 + u % 10)].length) lim = true by rw [Nat.ble_eq]; simp only [lim, List.length_cons, List.length_nil]; omega, guT, dec_big' h10]
        rfl
def inI (n : Int) : Prop := -9223372036854775808 ≤ n ∧ n ≤ 9223372036854775807
theorem textR_is {n : Int} (h : inI n) : ref01_Text (.int .i64 n) = some (.str (Lib.itoa n)) := text1_is n.natAbs n (Nat.le_refl _) h.1 h.2
theorem textP_is {n : Int} (h : inI n) : num_Text (.int .i64 n) = some (.str (Lib.itoa n)) := by
  have : ωκ S 183 [.int .i64 n] = oNumText [.int .i64 n] := oracle_is (f := 183) rfl _
  rw [show num_Text (.int .i64 n) = ωκ S 183 [.int .i64 n] from rfl, this]
  exact if_pos h
end Go.Proofs.YtmdimhcjogjcgaaGreatDoor.Lat
