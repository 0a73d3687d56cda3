/- Cutting a text at its dots and joining names by dots: plain lists. -/
import Derived.Test.YteonbgknmpobpaaDoorNS
import Derived.Lib.SplitLaws
import Derived.Lib.Join
import Derived.Lib.Split
import Derived.Lib.IndexBytes
namespace Go.Proofs.YteonbgknmpobpaaDoor.NC
open Go.RowKit Go.Proofs.YteonbgknmpobpaaDoorW.PrintWords Go.Proofs.YteonbgknmpobpaaDoorW.PrintLast Go.Proofs.YteonbgknmpobpaaDoorW.PrintMore
open Go.Proofs.YteonbgknmpobpaaDoor.NX Go.Proofs.YteonbgknmpobpaaDoor.NW Go.Proofs.YteonbgknmpobpaaDoor.NR Go.Proofs.YteonbgknmpobpaaDoor.NP Go.Proofs.YteonbgknmpobpaaDoor.NQ Go.Proofs.YteonbgknmpobpaaDoor.NS
set_option linter.unusedVariables false

abbrev L8 := List UInt8
def pre (x : L8) : List L8 → List L8
  | [] => [x]
  | h :: r => (x ++ h) :: r
def cutD : L8 → List L8
  | [] => [[]]
  | c :: r => if c = 46 then [] :: cutD r else pre [c] (cutD r)
theorem pre_nil (l : List L8) (h : l ≠ []) : pre [] l = l := by cases l with | nil => exact absurd rfl h | cons a r => rfl
theorem cutD_ne (l : L8) : cutD l ≠ [] := by
  cases l with
  | nil => simp [cutD]
  | cons c r => unfold cutD; split; · simp
                · cases cutD r <;> simp [pre]
theorem pre_pre (x y : L8) (l : List L8) (h : l ≠ []) : pre x (pre y l) = pre (x ++ y) l := by
  cases l with | nil => exact absurd rfl h | cons a r => simp [pre]

theorem splitK_cut : ∀ s : L8, Lib.splitK [46] 0 (Lib.count s [46]) s = cutD s
  | [] => by rfl
  | c :: r => by
    have ih := splitK_cut r
    unfold cutD
    by_cases hc : c = 46
    · subst hc
      rw [if_pos rfl, Lib.count_cons_eq, Nat.add_comm, Lib.splitK]
      have hi : Lib.index (46 :: r) [46] = 0 := by rw [Lib.index_one]; simp [Lib.indexByte]
      rw [hi, if_neg (by decide)]
      simpa using ih
    · rw [if_neg hc, Lib.count_cons_ne _ _ _ hc, ← ih]
      cases hk : Lib.count r [46] with
      | zero => rfl
      | succ k =>
        have hi : Lib.index (c :: r) [46] = if Lib.index r [46] == -1 then -1 else Lib.index r [46] + 1 := by
          rw [Lib.index_one, Lib.index_one, Lib.indexByte, if_neg (by simpa using hc)]
        have hge := Lib.index_ge r [46]
        unfold Lib.splitK
        by_cases hm : Lib.index r [46] = -1
        · rw [hi, hm]; rfl
        · obtain ⟨i, e⟩ : ∃ i : Nat, Lib.index r [46] = i := ⟨(Lib.index r [46]).toNat, by omega⟩
          rw [hi, e, if_neg (by simp <;> omega), if_neg (by simp <;> omega), if_neg (by simp <;> omega)]
          rw [show ((i : Int) + 1).toNat = i + 1 from by omega, Int.toNat_natCast]
          rfl

theorem join_cc (x y : L8) (r : List L8) (sep : L8) : Lib.join (x :: y :: r) sep = x ++ sep ++ Lib.join (y :: r) sep := by
  rw [Lib.join_cons, Lib.join_cons]
  simp [Lib.joinTail]
theorem join_cut : ∀ s : L8, Lib.join (cutD s) [46] = s
  | [] => by rfl
  | c :: r => by
    have ih := join_cut r
    unfold cutD
    cases hd : cutD r with
    | nil => exact absurd hd (cutD_ne r)
    | cons h t =>
      rw [hd] at ih
      split
      · rename_i hc; rw [join_cc, ih, hc]; rfl
      · rw [pre, Lib.join_cons]
        rw [Lib.join_cons] at ih
        rw [← ih]; simp
theorem cut_one : ∀ x : L8, (46 : UInt8) ∉ x → cutD x = [x]
  | [], _ => rfl
  | c :: r, h => by
    rw [List.mem_cons, not_or] at h
    unfold cutD
    rw [if_neg (fun e => h.1 e.symm), cut_one r h.2]; rfl
theorem cut_app : ∀ (x t : L8), (46 : UInt8) ∉ x → cutD (x ++ 46 :: t) = x :: cutD t
  | [], t, _ => by rw [List.nil_append, cutD, if_pos rfl]
  | c :: r, t, h => by
    rw [List.mem_cons, not_or] at h
    rw [List.cons_append, cutD, if_neg (fun e => h.1 e.symm), cut_app r t h.2]; rfl
theorem cut_join : ∀ l : List L8, l ≠ [] → (∀ x ∈ l, (46 : UInt8) ∉ x) → cutD (Lib.join l [46]) = l
  | [], h, _ => absurd rfl h
  | [x], _, h => by rw [Lib.join_one]; exact cut_one x (h x (by simp))
  | x :: y :: r, _, h => by
    rw [join_cc, List.append_assoc]
    have := cut_app x (Lib.join (y :: r) [46]) (h x (by simp))
    rw [List.singleton_append, this, cut_join (y :: r) (by simp) (fun z hz => h z (by simp [List.mem_cons] at hz ⊢; exact .inr hz))]
theorem cut_len : ∀ s : L8, (cutD s).length ≤ s.length + 1
  | [] => by simp [cutD]
  | c :: r => by
    have ih := cut_len r
    unfold cutD
    split
    · simp; omega
    · cases hd : cutD r with
      | nil => exact absurd hd (cutD_ne r)
      | cons h t => rw [hd] at ih; simp [pre] at ih ⊢; omega
theorem cut_mem : ∀ (s : L8), ∀ x ∈ cutD s, x.length ≤ s.length
  | [], x, h => by simp [cutD] at h; simp [h]
  | c :: r, x, h => by
    have ih := cut_mem r
    unfold cutD at h
    split at h
    · rw [List.mem_cons] at h
      rcases h with rfl | h
      · simp
      · have := ih x h; simp; omega
    · cases hd : cutD r with
      | nil => exact absurd hd (cutD_ne r)
      | cons y t =>
        rw [hd] at h ih
        rw [pre, List.mem_cons] at h
        rcases h with rfl | h
        · have := ih y (by simp); simp; omega
        · have := ih x (by simp [h]); simp; omega

/-! ### Bytes and lists -/
def dat (l : List B) : List L8 := l.map (·.data.toList)
def toB (l : List L8) : List B := l.map fun x => ⟨x.toArray⟩
theorem dat_toB (l : List L8) : dat (toB l) = l := by unfold dat toB; rw [List.map_map]; simp [Function.comp_def]
theorem mk_data (x : B) : (⟨x.data.toList.toArray⟩ : B) = x := by cases x; simp
theorem toB_dat (l : List B) : toB (dat l) = l := by
  unfold dat toB; rw [List.map_map]
  have : ((fun x : L8 => (⟨x.toArray⟩ : B)) ∘ fun x : B => x.data.toList) = id := by funext x; exact mk_data x
  rw [this, List.map_id]
theorem toB_append (a b : List L8) : toB (a ++ b) = toB a ++ toB b := List.map_append
def pathL (l : List L8) : Bool := decide (1 ≤ l.length) && decide (l.length ≤ 16) && l.all rightV
theorem nth_get (l : List B) (i : Nat) (h : i < l.length) : nth l i = l[i] := by unfold nth; rw [List.getD_eq_getElem?_getD, List.getElem?_eq_getElem h]; rfl
theorem pathV_L (l : List B) : pathV l = pathL (dat l) := by
  unfold pathV pathL dat
  rw [List.length_map]
  congr 1
  unfold upTo
  rw [List.all_map, Bool.eq_iff_iff, List.all_eq_true, List.all_eq_true]
  constructor
  · intro h x hx
    obtain ⟨i, hi, rfl⟩ := List.mem_iff_getElem.1 hx
    have := h i (List.mem_range.2 hi)
    unfold pathF at this
    rw [nth_get l i hi] at this
    exact this
  · intro h i hi
    rw [List.mem_range] at hi
    unfold pathF
    rw [nth_get l i hi]
    exact h _ (List.getElem_mem hi)
theorem right_len (x : L8) (h : rightV x = true) : x.length ≤ 16 := by
  unfold rightV at h
  simp only [Bool.and_eq_true, decide_eq_true_eq] at h
  exact h.1.1.2
theorem ch_dot (b : Bool) : chB b 46 = false := by cases b <;> decide
theorem right_dot (x : L8) (h : rightV x = true) : (46 : UInt8) ∉ x := by
  unfold rightV at h
  simp only [Bool.and_eq_true] at h
  have hb := h.2
  intro hm
  cases x with
  | nil => simp at hm
  | cons c r =>
    rw [bodyB, Bool.and_eq_true] at hb
    rw [List.mem_cons] at hm
    rcases hm with e | hm
    · subst e; rw [show (46 : UInt8).toNat = 46 from rfl, ch_dot] at hb; exact absurd hb.1 (by simp)
    · have := List.all_eq_true.1 hb.2 46 hm
      rw [show (46 : UInt8).toNat = 46 from rfl, ch_dot] at this
      cases this
theorem pathL_parts (l : List L8) (h : pathL l = true) : 1 ≤ l.length ∧ l.length ≤ 16 ∧ ∀ x ∈ l, rightV x = true := by
  unfold pathL at h
  simp only [Bool.and_eq_true, decide_eq_true_eq, List.all_eq_true] at h
  exact ⟨h.1.1, h.1.2, h.2⟩
theorem tail_le (r : List L8) (h : ∀ x ∈ r, x.length ≤ 16) : (Lib.joinTail [46] r).length ≤ 17 * r.length := by
  induction r with
  | nil => simp [Lib.joinTail]
  | cons x r ih =>
    have h1 := h x (by simp)
    have h2 := ih (fun y hy => h y (by simp [hy]))
    unfold Lib.joinTail at h2 ⊢
    simp only [List.map_cons, List.flatten_cons, List.length_append, List.length_cons, List.length_nil]
    omega
theorem join_le (l : List L8) (h : pathL l = true) : (Lib.join l [46]).length ≤ 271 := by
  obtain ⟨h1, h2, h3⟩ := pathL_parts l h
  cases l with
  | nil => simp at h1
  | cons x r =>
    rw [Lib.join_cons, List.length_append]
    have := tail_le r (fun y hy => right_len y (h3 y (by simp [hy])))
    have := right_len x (h3 x (by simp))
    simp only [List.length_cons] at h2
    omega
theorem join_ne (l : List L8) (h : pathL l = true) : Lib.join l [46] ≠ [] := by
  obtain ⟨h1, h2, h3⟩ := pathL_parts l h
  cases l with
  | nil => simp at h1
  | cons x r =>
    rw [Lib.join_cons]
    have := h3 x (by simp)
    unfold rightV at this
    simp only [Bool.and_eq_true, decide_eq_true_eq] at this
    intro e
    rw [List.append_eq_nil_iff] at e
    rw [e.1] at this
    simp at this
/-- A long text has no path. -/
theorem long_no (s : L8) (h : 272 < s.length) : pathL (cutD s) = false := by
  rw [Bool.eq_false_iff]
  intro e
  have := join_le _ e
  rw [join_cut] at this
  omega
end Go.Proofs.YteonbgknmpobpaaDoor.NC
