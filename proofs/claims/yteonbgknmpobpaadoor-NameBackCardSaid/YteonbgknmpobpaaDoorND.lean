/- The document's Split and Text: what they answer. -/
import Derived.Test.YteonbgknmpobpaaDoorNC
namespace Go.Proofs.YteonbgknmpobpaaDoor.ND
open Go.RowKit Go.Proofs.YteonbgknmpobpaaDoorW.PrintWords Go.Proofs.YteonbgknmpobpaaDoorW.PrintLast Go.Proofs.YteonbgknmpobpaaDoorW.PrintMore
open Go.Proofs.YteonbgknmpobpaaDoor.NX Go.Proofs.YteonbgknmpobpaaDoor.NW Go.Proofs.YteonbgknmpobpaaDoor.NR Go.Proofs.YteonbgknmpobpaaDoor.NP Go.Proofs.YteonbgknmpobpaaDoor.NQ Go.Proofs.YteonbgknmpobpaaDoor.NS Go.Proofs.YteonbgknmpobpaaDoor.NC
set_option linter.unusedVariables false

def fin (p : List B) : List B := if pathV p = true then p else []
def splitV (s : B) : List B := fin (toB (cutD s.data.toList))
theorem app_data (a b : B) : (a ++ b).data.toList = a.data.toList ++ b.data.toList := by
  rw [show (a ++ b).data = a.data ++ b.data from ByteArray.data_append ..]; simp
theorem one_data (s : B) (i : Nat) (h : i < s.size) : ∃ c, (s.extract i (i + 1)).data.toList = [c] ∧ s.data.toList.drop i = c :: s.data.toList.drop (i + 1) ∧ bt s (i : Int) = (c.toNat : Int) := by
  obtain ⟨c, hc, hb⟩ := drop_cons s i h
  refine ⟨c, ?_, hc, hb⟩
  rw [Lib.extract_data]
  first
    | (rw [hc]; simp; done)
    | (rw [List.drop_take, hc]; simp; done)
theorem toB_cons (x : B) (r : List L8) : toB (x.data.toList :: r) = x :: toB r := by unfold toB; rw [List.map_cons, mk_data]
theorem split_loop (s : B) (hs : s.size ≤ 400) (d : Nat) : ∀ (k i : Nat) (acc : List B) (part : B), i + d = s.size → d + 900 < k → acc.length ≤ i → part.size ≤ i → (∀ j, j < acc.length → (nth acc j).size ≤ 400) →
    treillageref02_Split.l0 k s acc part (i : Int) = some (fin (acc ++ toB (pre part.data.toList (cutD (s.data.toList.drop i))))) := by
  induction d with
  | zero =>
    intro k i acc part hi hk ha hp hall
    obtain ⟨k, rfl⟩ : ∃ m, k = m + 1 := ⟨k - 1, by omega⟩
    have hlast : ∀ j, j < (acc ++ [part]).length → (nth (acc ++ [part]) j).size ≤ 400 := by
      intro j hj
      rw [List.length_append, List.length_singleton] at hj
      by_cases h : j < acc.length
      · have := hall j h
        unfold nth at this ⊢
        rw [List.getD_eq_getElem?_getD, List.getElem?_append_left h, ← List.getD_eq_getElem?_getD]
        exact this
      · have e : j = acc.length := by omega
        subst e
        unfold nth
        rw [List.getD_eq_getElem?_getD, List.getElem?_append_right (Nat.le_refl _)]
        simp; omega
    simp only [treillageref02_Split.l0]
    rw [if_neg (by omega), if_pos (by omega), List.drop_eq_nil_of_le (by rw [sizeL]; omega)]
    simp only [Option.bind_some]
    rw [refPath_is _ hlast (by rw [List.length_append, List.length_singleton]; omega) k (by rw [List.length_append, List.length_singleton]; omega)]
    simp only [Option.bind_some]
    have e : toB (pre part.data.toList (cutD [])) = [part] := by
      rw [cutD, pre, List.append_nil, toB_cons]; rfl
    rw [e]
    unfold fin
    split <;> rfl
  | succ d ih =>
    intro k i acc part hi hk ha hp hall
    obtain ⟨k, rfl⟩ : ∃ m, k = m + 1 := ⟨k - 1, by omega⟩
    obtain ⟨c, h1, h2, h3⟩ := one_data s i (by omega)
    simp only [treillageref02_Split.l0]
    rw [if_pos (by omega), if_pos (by omega), wrapS (n := s.size) (by omega) (by omega), h3, h2]
    have hnd : cutD (s.data.toList.drop (i + 1)) ≠ [] := cutD_ne _
    by_cases hc : c = 46
    · subst hc
      rw [if_pos (by rfl), if_pos (by omega)]
      rw [ih k (i + 1) (acc ++ [part]) ⟨#[]⟩ (by omega) (by omega) (by rw [List.length_append, List.length_singleton]; omega) (by simp [ByteArray.size]) ?_]
      · rw [cutD, if_pos rfl, pre, List.append_nil, toB_cons]
        rw [show (⟨#[]⟩ : B).data.toList = [] from rfl, pre_nil _ hnd, List.append_assoc]; rfl
      · intro j hj
        rw [List.length_append, List.length_singleton] at hj
        by_cases h : j < acc.length
        · have := hall j h
          unfold nth at this ⊢
          rw [List.getD_eq_getElem?_getD, List.getElem?_append_left h, ← List.getD_eq_getElem?_getD]
          exact this
        · have e : j = acc.length := by omega
          subst e
          unfold nth
          rw [List.getD_eq_getElem?_getD, List.getElem?_append_right (Nat.le_refl _)]
          simp; omega
    · have hcn : ¬ ((c.toNat : Int) = 46) := fun e => hc (UInt8.toNat_inj.1 (show c.toNat = 46 from by omega))
      have hsz : (s.extract i (i + 1)).size = 1 := by rw [← sizeL, h1]; rfl
      rw [if_neg hcn, if_pos (by omega), if_pos (by omega), Int.toNat_natCast, Int.toNat_natCast, if_pos (by omega)]
      rw [ih k (i + 1) acc (part ++ s.extract i (i + 1)) (by omega) (by omega) (by omega) (by rw [← sizeL, app_data, List.length_append, sizeL, h1]; simp; omega) hall]
      rw [app_data, h1, cutD, if_neg hc, pre_pre _ _ _ hnd]
theorem refSplit_is (s : B) (hs : s.size ≤ 400) : treillageref02_Split.f (s.size + 901) s = some (splitV s) := by
  have := split_loop s hs s.size (s.size + 901) 0 [] ⟨#[]⟩ (by omega) (by omega) (by simp) (by simp [ByteArray.size]) (fun j hj => by simp at hj)
  unfold treillageref02_Split.f
  rw [show (0 : Int) = ((0 : Nat) : Int) from rfl, this, List.drop_zero, show (⟨#[]⟩ : B).data.toList = [] from rfl, pre_nil _ (cutD_ne _), List.nil_append]
  rfl

/-! ### Text -/
def textV (l : List B) : B := if pathV l = true then ⟨(Lib.join (dat l) [46]).toArray⟩ else ⟨#[]⟩
theorem dat_drop (l : List B) (i : Nat) (h : i < l.length) : (dat l).drop i = (nth l i).data.toList :: (dat l).drop (i + 1) := by
  unfold dat
  rw [← List.map_drop, ← List.map_drop, List.drop_eq_getElem_cons h, List.map_cons, nth_get l i h]
theorem tail_cons (x : L8) (r : List L8) : Lib.joinTail [46] (x :: r) = [46] ++ x ++ Lib.joinTail [46] r := by unfold Lib.joinTail; simp
theorem text_loop (l : List B) (hs : ∀ i, i < l.length → (nth l i).size ≤ 400) (hl : l.length ≤ 400) (d : Nat) : ∀ (k i : Nat) (acc : B), i + d = l.length → d < k → acc.size + 401 * d ≤ 1000000 →
    treillageref02_Text.l0 k l acc (i : Int) = some ⟨(acc.data.toList ++ Lib.joinTail [46] ((dat l).drop i)).toArray⟩ := by
  induction d with
  | zero =>
    intro k i acc hi hk ha
    obtain ⟨k, rfl⟩ : ∃ m, k = m + 1 := ⟨k - 1, by omega⟩
    simp only [treillageref02_Text.l0]
    rw [if_neg (by omega), List.drop_eq_nil_of_le (by unfold dat; rw [List.length_map]; omega)]
    simp only [Lib.joinTail, List.map_nil, List.flatten_nil, List.append_nil]
  | succ d ih =>
    intro k i acc hi hk ha
    obtain ⟨k, rfl⟩ : ∃ m, k = m + 1 := ⟨k - 1, by omega⟩
    have hz := hs i (by omega)
    have e1 : (acc ++ (⟨#[46]⟩ : B)).size = acc.size + 1 := by rw [← sizeL, app_data, List.length_append, sizeL]; rfl
    have e2 : ((acc ++ (⟨#[46]⟩ : B)) ++ nth l i).size = acc.size + 1 + (nth l i).size := by rw [← sizeL, app_data, List.length_append, sizeL, sizeL, e1]
    simp only [treillageref02_Text.l0]
    rw [if_pos (by omega), if_pos (by omega), if_pos (by omega), rd_n, if_pos (by rw [e1]; omega), wrapS (n := l.length) (by omega) (by omega)]
    rw [ih k (i + 1) _ (by omega) (by omega) (by rw [e2]; omega), dat_drop l i (by omega), tail_cons, app_data, app_data]
    simp only [List.append_assoc]
theorem refText_is (l : List B) (hs : ∀ i, i < l.length → (nth l i).size ≤ 400) (hl : l.length ≤ 400) : treillageref02_Text.f (l.length + 405) l = some (textV l) := by
  unfold treillageref02_Text.f textV
  rw [refPath_is l hs (by omega) _ (by omega)]
  simp only [Option.bind_some]
  cases hp : pathV l
  · rfl
  · have h1 : 1 ≤ l.length := by
      unfold pathV at hp
      simp only [Bool.and_eq_true, decide_eq_true_eq] at hp
      exact hp.1.1
    rw [if_pos rfl, if_pos (by omega), if_pos rfl]
    have h0 := hs 0 (by omega)
    have := text_loop l hs hl (l.length - 1) (l.length + 405) 1 (nth l 0) (by omega) (by omega) (by omega)
    rw [show (1 : Int) = ((1 : Nat) : Int) from rfl, show (0 : Int) = ((0 : Nat) : Int) from rfl, rd_n, this]
    congr 2
    have e := dat_drop l 0 (by omega)
    rw [List.drop_zero] at e
    have e2 : Lib.join (dat l) [46] = (nth l 0).data.toList ++ Lib.joinTail [46] ((dat l).drop 1) := by
      generalize dat l = q at e
      rw [e, Lib.join_cons]
      rfl
    rw [e2]
end Go.Proofs.YteonbgknmpobpaaDoor.ND
