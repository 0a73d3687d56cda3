/- Several texts of mine in one (merge.py). -/
import Derived.Test.YtffojfcinkihnaaGreatDoorIA
import Derived.Test.YtffojfcinkihnaaGreatDoorSA
import Derived.Test.YtffojfcinkihnaaGreatDoorPu
set_option linter.unusedVariables false
set_option linter.unusedSimpArgs false
set_option linter.unusedSectionVars false
set_option linter.deprecated false
set_option linter.unnecessarySimpa false
/- slices.Insert of one thing, told of cells. -/
namespace Go.Proofs.YtffojfcinkihnaaGreatDoor.Th
open Go.RowKit Go.Lib Go.Proofs.YtffojfcinkihnaaGreatDoor.Abs Go.Proofs.YtffojfcinkihnaaGreatDoor.Lat Go.Proofs.YtffojfcinkihnaaGreatDoor.Lat.Cp Go.Proofs.YtffojfcinkihnaaGreatDoor.Gr
set_option linter.unusedVariables false
set_option linter.unusedSimpArgs false
theorem ins_raw {w : World} {B : Nat} {v : Value} {n : Nat} {xs : List Value} (hown : w.ownsRow B 28 3 v n xs) (hB : B ≤ w.heap.size) (hl : n ≤ 1073741824) (i : Nat) (hi : i ≤ n) (vb : Nat) (tb : TypeId) (x y z : Value)
    (hvb : w.heap[vb]? = some (.cells #[x, y, z] tb (0, 0))) (hne : ∀ g, v.ownBlock = some g → vb ≠ g) (h1 : ∀ u ∈ [x, y, z], u.oneCell' = true) (h1c : ∀ u ∈ xs, u.oneCell' = true) :
    Calls Tryz.prog 30 #[v, .int .i64 i, .slice (some ⟨vb, 0, none⟩) 1 1] w fun e w' => ∃ v', e = .returned v' ∧ w'.ownsRow B 28 3 v' (n + 1) (cut3 xs [x, y, z] (i * 3)) ∧ w.grownBy w' v.ownBlock ∧ (v'.ownBlock = v.ownBlock ∨ v'.ownBlock = some w.heap.size) := by
  have hxl := hown.1
  have fin : ∀ {e w'} (v' : Value), e = Ending.returned v' → w'.ownsRow B 28 3 v' (n + 1) (cut3 xs [x, y, z] (i * 3)) → w.grownBy w' v.ownBlock → (v'.ownBlock = v.ownBlock ∨ v'.ownBlock = some w.heap.size) →
      ∃ v', e = .returned v' ∧ w'.ownsRow B 28 3 v' (n + 1) (cut3 xs [x, y, z] (i * 3)) ∧ w.grownBy w' v.ownBlock ∧ (v'.ownBlock = v.ownBlock ∨ v'.ownBlock = some w.heap.size) := fun {e w'} v' he ho hg hat => ⟨v', he, ho, hg, hat⟩
  by_cases hin : i = n
  · obtain rfl : n = i := hin.symm
    refine (ins_end w B v n xs hown hB hl vb tb x y z h1 hvb).mono fun e w' ⟨v', he, ho, hg, hat⟩ => fin v' he ?_ hg hat
    have : cut3 xs [x, y, z] (n * 3) = xs ++ [x, y, z] := by
      unfold cut3
      rw [List.take_of_length_le (by omega), List.drop_of_length_le (by omega), List.append_nil]
    rw [this]; exact ho
  · have hil : i < n := by omega
    obtain ⟨_, ⟨rfl, h2⟩ | ⟨g, cap, cur, rfl, hBg, hg, hnc, hcm, hcz, hcs⟩⟩ := hown
    · omega
    · have hin3 : i * 3 ≤ xs.length := by omega
      have hdl : (xs.drop (i * 3)).length = xs.length - i * 3 := List.length_drop ..
      by_cases hroom : n + 1 ≤ cap
      · refine (ins_shift w g n cap i xs hil hroom hcm vb tb 28 x y z (hne g rfl) h1 h1c cur hg hcz hcs hvb).mono fun e w' ⟨he, hw⟩ => fin _ he ?_ ?_ (.inl rfl)
        · subst hw
          obtain ⟨cur', c1, c2, c3⟩ := setCells_row (xs.drop (i * 3)) ((i + 1) * 3) w.drew cur hg (by omega)
          obtain ⟨cur2, d1, d2, d3⟩ := setCells_row [x, y, z] (i * 3) _ cur' c1 (by simp only [List.length_cons, List.length_nil]; omega)
          refine ⟨by rw [cut3_len]; simp only [List.length_cons, List.length_nil]; omega, .inr ⟨g, cap, cur2, rfl, hBg, d1, hroom, hcm, d2.trans (c2.trans hcz), ?_⟩⟩
          apply List.ext_getElem?
          intro k
          rw [cut3_get _ _ _ hin3, List.getElem?_take]
          simp only [List.length_cons, List.length_nil]
          by_cases hk : k < (n + 1) * 3
          · rw [if_pos hk, Array.getElem?_toList, d3 k]
            simp only [List.length_cons, List.length_nil]
            have hx : ∀ q, q < n * 3 → cur[q]? = xs[q]? := fun q hq => by
              rw [← hcs, List.getElem?_take, if_pos hq, Array.getElem?_toList]
            by_cases ha : k < i * 3
            · rw [if_neg (by omega), if_pos ha, c3 k, if_neg (by omega), hx k (by omega)]
            · rw [if_neg ha]
              by_cases hb : k < i * 3 + 3
              · rw [if_pos (by omega), if_pos (by omega)]
              · rw [if_neg (by omega), if_neg (by omega), c3 k, if_pos (by omega), List.getElem?_drop]
                congr 1; omega
          · rw [if_neg hk, if_neg (by omega), if_neg (by omega), List.getElem?_eq_none (by omega)]
        · subst hw
          obtain ⟨s1, s2, s3, s4⟩ := setCells_same (b := g) (xs.drop (i * 3)) ((i + 1) * 3) w.drew
          obtain ⟨t1, t2, t3, t4⟩ := setCells_same (b := g) [x, y, z] (i * 3) (w.drew.setCells g ((i + 1) * 3) (xs.drop (i * 3)))
          refine ⟨t1.trans s1, t2.trans s2, t3.trans s3, by rw [t4, s4]; exact Nat.le_refl _, fun k hk hr => ?_⟩
          have hkg : k ≠ g := fun e => hr (by subst e; rfl)
          rw [setCells_else _ _ _ k hkg, setCells_else _ _ _ k hkg]; rfl
      · refine (ins_grow w g n cap i xs hil hnc hroom hl vb tb 28 x y z h1 h1c cur hg hcz hcs hvb).mono fun e w' ⟨G, ROW, hG1, hG2, hRs, hRt, he, hw⟩ => fin _ he ?_ ?_ (.inr rfl)
        · subst hw
          have hnew : (w.alloc (.cells ROW 28)).drew.heap[w.heap.size]? = some (.cells ROW 28 (0, 0)) := heap_alloc_new w _
          obtain ⟨cur', c1, c2, c3⟩ := setCells_row [x, y, z] (i * 3) _ ROW hnew (by simp only [List.length_cons, List.length_nil]; omega)
          obtain ⟨cur2, d1, d2, d3⟩ := setCells_row (xs.drop (i * 3)) ((i + 1) * 3) ((w.alloc (.cells ROW 28)).drew.setCells w.heap.size (i * 3) [x, y, z]).drew cur' c1 (by omega)
          refine ⟨by rw [cut3_len]; simp only [List.length_cons, List.length_nil]; omega, .inr ⟨w.heap.size, G, cur2, rfl, hB, d1, hG1, hG2, d2.trans (c2.trans hRs), ?_⟩⟩
          apply List.ext_getElem?
          intro k
          rw [cut3_get _ _ _ hin3, List.getElem?_take]
          simp only [List.length_cons, List.length_nil]
          by_cases hk : k < (n + 1) * 3
          · rw [if_pos hk, Array.getElem?_toList, d3 k]
            have hx : ∀ q, q < i * 3 → ROW[q]? = xs[q]? := fun q hq => by
              have := congrArg (fun l => l[q]?) hRt
              simp only [List.getElem?_take, if_pos hq, Array.getElem?_toList] at this
              exact this
            by_cases ha : k < i * 3
            · rw [if_neg (by omega), if_pos ha, c3 k, if_neg (by omega), hx k (by omega)]
            · rw [if_neg ha]
              by_cases hb : k < i * 3 + 3
              · rw [if_neg (by omega), if_pos (by omega), c3 k]
                simp only [List.length_cons, List.length_nil]
                rw [if_pos (by omega)]
              · rw [if_pos (by omega), if_neg (by omega), List.getElem?_drop]
                congr 1; omega
          · rw [if_neg hk, if_neg (by omega), if_neg (by omega), List.getElem?_eq_none (by omega)]
        · subst hw
          obtain ⟨s1, s2, s3, s4⟩ := setCells_same (b := w.heap.size) [x, y, z] (i * 3) (w.alloc (.cells ROW 28)).drew
          obtain ⟨t1, t2, t3, t4⟩ := setCells_same (b := w.heap.size) (xs.drop (i * 3)) ((i + 1) * 3) ((w.alloc (.cells ROW 28)).drew.setCells w.heap.size (i * 3) [x, y, z]).drew
          have hal := (Below.refl _ w).alloc (Nat.le_refl _) (.cells ROW 28)
          refine ⟨t1.trans (s1.trans hal.os), t2.trans (s2.trans hal.tape), t3.trans (s3.trans hal.output), by rw [t4]; show _ ≤ ((w.alloc (.cells ROW 28)).drew.setCells w.heap.size (i * 3) [x, y, z]).heap.size; rw [s4]; exact hal.size, fun k hk hr => ?_⟩
          rw [setCells_else _ _ _ k (by omega)]
          show ((w.alloc (.cells ROW 28)).drew.setCells w.heap.size (i * 3) [x, y, z]).heap[k]? = _
          rw [setCells_else _ _ _ k (by omega)]
          exact hal.block k hk
end Go.Proofs.YtffojfcinkihnaaGreatDoor.Th
/- Rows of things with the blocks that they own. -/
namespace Go.Proofs.YtffojfcinkihnaaGreatDoor.Th
open Go.RowKit Go.Lib Go.Proofs.YtffojfcinkihnaaGreatDoor.Abs Go.Proofs.YtffojfcinkihnaaGreatDoor.Lat Go.Proofs.YtffojfcinkihnaaGreatDoor.Lat.Cp Go.Proofs.YtffojfcinkihnaaGreatDoor.Gr
set_option linter.unusedVariables false
/-- The k-th cells are a thing's. -/
def El (w : World) (B : Nat) (xs : List Value) (k : Nat) (t : Th) (fp : List Nat) : Prop := ∃ s b1 n1 c1 b2 n2 c2, xs[k]? = some (.string s) ∧ xs[k + 1]? = some (.slice b1 n1 c1) ∧ xs[k + 2]? = some (.slice b2 n2 c2) ∧ ThE w B s (.slice b1 n1 c1) (.slice b2 n2 c2) t fp
structure TO (w : World) (B : Nat) (v : Value) (l : List Th) : Prop where
  ex : ∃ (xs : List Value) (fps : List (List Nat)), w.ownsRow B 28 3 v l.length xs ∧ fps.length = l.length ∧ (own1 v ++ fps.flatten).Nodup ∧ ∀ i t fp, l[i]? = some t → fps[i]? = some fp → El w B xs (i * 3) t fp
theorem mem_own1 {v : Value} {g : Nat} : g ∈ own1 v ↔ v.ownBlock = some g := by
  unfold own1
  cases v.ownBlock with
  | none => simp
  | some a => simp; exact eq_comm
theorem El.frame {w w' : World} {B : Nat} {xs xs' : List Value} {k k' : Nat} {t : Th} {fp : List Nat} (h : El w B xs k t fp) (hf : ∀ b ∈ fp, w'.heap[b]? = w.heap[b]?) (hx : ∀ j, j < 3 → xs'[k' + j]? = xs[k + j]?) : El w' B xs' k' t fp := by
  obtain ⟨s, b1, n1, c1, b2, n2, c2, e0, e1, e2, h⟩ := h
  exact ⟨s, b1, n1, c1, b2, n2, c2, (hx 0 (by omega)).trans e0, (hx 1 (by omega)).trans e1, (hx 2 (by omega)).trans e2, h.frame hf⟩
theorem El.bd {w : World} {B : Nat} {xs : List Value} {k : Nat} {t : Th} {fp : List Nat} (h : El w B xs k t fp) : ∀ b ∈ fp, B ≤ b ∧ b < w.heap.size := by
  obtain ⟨s, b1, n1, c1, b2, n2, c2, _, _, _, h⟩ := h
  exact h.bd
theorem TO.nil (w : World) (B : Nat) : TO w B (.slice none 0 0) [] := ⟨[], [], ⟨rfl, .inl ⟨rfl, rfl⟩⟩, rfl, by simp [own1, Value.ownBlock], fun i t fp h => by simp at h⟩
theorem to_shape {w : World} {B : Nat} {v : Value} {l : List Th} (h : TO w B v l) : ∃ A cap, v = .slice A l.length cap := by
  obtain ⟨xs, fps, ⟨h1, ⟨rfl, h2⟩ | ⟨g, cap, cur, rfl, _⟩⟩, _⟩ := h.ex
  · exact ⟨none, 0, by rw [h2]⟩
  · exact ⟨_, _, rfl⟩
theorem to_blk {w : World} {B : Nat} {v : Value} {l : List Th} (h : TO w B v l) : ∀ g, v.ownBlock = some g → B ≤ g ∧ g < w.heap.size := fun g e => by
  obtain ⟨xs, fps, ⟨h1, ⟨rfl, h2⟩ | ⟨g', cap, cur, rfl, h3, h4, _⟩⟩, _⟩ := h.ex
  · cases e
  · cases e; exact ⟨h3, blk_lt' h4⟩
/-- One thing more, at any place: what is said of the cells. -/
theorem to_more {w w' : World} {B : Nat} {v v' : Value} {l : List Th} {xs us : List Value} {fps : List (List Nat)} {t : Th} {fp : List Nat} {i : Nat} (hi : i ≤ l.length) (hfl : fps.length = l.length) (hnd : (own1 v ++ fps.flatten).Nodup)
    (hE : ∀ i t fp, l[i]? = some t → fps[i]? = some fp → El w B xs (i * 3) t fp) (hxs : xs.length = l.length * 3) (hul : us.length = 3) (hn : El w B us 0 t fp) (hfp : fp.Nodup) (hdis : ∀ b ∈ fp, b ∉ own1 v ∧ b ∉ fps.flatten)
    (hown : w'.ownsRow B 28 3 v' (l.length + 1) (cut3 xs us (i * 3))) (hg : w.grownBy w' v.ownBlock) (hat : v'.ownBlock = v.ownBlock ∨ v'.ownBlock = some w.heap.size) : TO w' B v' (l.take i ++ t :: l.drop i) := by
  have hlen : (l.take i ++ t :: l.drop i).length = l.length + 1 := by simp; omega
  have hall : ∀ q f, fps[q]? = some f → ∀ b ∈ f, b < w.heap.size ∧ v.ownBlock ≠ some b := fun q f hq b hb => by
    have hql : q < l.length := by have := (List.getElem?_eq_some_iff.1 hq).1; omega
    refine ⟨((hE q _ f (List.getElem?_eq_getElem hql) hq).bd b hb).2, fun e => ?_⟩
    exact (List.nodup_append.1 hnd).2.2 b (mem_own1.2 e) b (List.mem_flatten.2 ⟨f, List.mem_of_getElem? hq, hb⟩) rfl
  have hnew : ∀ b ∈ fp, b < w.heap.size ∧ v.ownBlock ≠ some b := fun b hb => ⟨(hn.bd b hb).2, fun e => (hdis b hb).1 (mem_own1.2 e)⟩
  have hfr : ∀ b, b < w.heap.size → v.ownBlock ≠ some b → w'.heap[b]? = w.heap[b]? := fun b h1 h2 => hg.block b h1 fun e => h2 e.symm
  refine ⟨cut3 xs us (i * 3), fps.take i ++ fp :: fps.drop i, by rw [hlen]; exact hown, by rw [hlen]; simp; omega, ?_, fun q t' f hq hf => ?_⟩
  · have hperm : (fps.take i ++ fp :: fps.drop i).flatten.Perm (fp ++ fps.flatten) := by
      have h1 : (fps.take i ++ fp :: fps.drop i).Perm (fp :: fps) := by
        have := List.perm_middle (a := fp) (l₁ := fps.take i) (l₂ := fps.drop i)
        rw [List.take_append_drop] at this
        exact this
      simpa using h1.flatten
    have hp2 : (own1 v' ++ (fps.take i ++ fp :: fps.drop i).flatten).Perm (own1 v' ++ (fp ++ fps.flatten)) := List.Perm.append_left _ hperm
    rw [hp2.nodup_iff]
    have hn2 := List.nodup_append.1 hnd
    rw [List.nodup_append]
    refine ⟨by unfold own1; cases v'.ownBlock <;> simp, ?_, fun a ha b hb e => ?_⟩
    · rw [List.nodup_append]
      exact ⟨hfp, hn2.2.1, fun a ha b hb e => (hdis a ha).2 (by rw [e]; exact hb)⟩
    · subst e
      rw [mem_own1] at ha
      have hlt : a < w.heap.size ∧ v.ownBlock ≠ some a := by
        rcases List.mem_append.1 hb with hb | hb
        · exact hnew a hb
        · obtain ⟨f, hf, hb⟩ := List.mem_flatten.1 hb
          obtain ⟨q, hq, e⟩ := List.mem_iff_getElem.1 hf
          exact hall q f (by rw [List.getElem?_eq_getElem hq, e]) a hb
      rcases hat with h | h
      · exact hlt.2 (h.symm.trans ha)
      · rw [h] at ha; cases ha; omega
  · rw [insT_get l i t hi] at hq
    rw [insT_get fps i fp (by omega)] at hf
    by_cases h : q < i
    · rw [if_pos h] at hq hf
      refine (hE q t' f hq hf).frame (fun b hb => hfr b (hall q f hf b hb).1 (hall q f hf b hb).2) fun j hj => ?_
      rw [cut3_get xs us _ (by omega), if_pos (by omega)]
    · rw [if_neg h] at hq hf
      by_cases h2 : q = i
      · rw [if_pos h2] at hq hf
        cases hq; cases hf; subst h2
        refine hn.frame (fun b hb => hfr b (hnew b hb).1 (hnew b hb).2) fun j hj => ?_
        rw [cut3_get xs us _ (by omega), if_neg (by omega), if_pos (by omega), Nat.add_sub_cancel_left, Nat.zero_add]
      · rw [if_neg h2] at hq hf
        refine (hE (q - 1) t' f hq hf).frame (fun b hb => hfr b (hall _ f hf b hb).1 (hall _ f hf b hb).2) fun j hj => ?_
        rw [cut3_get xs us _ (by omega), if_neg (by omega), if_neg (by omega), hul]
        congr 1; omega
end Go.Proofs.YtffojfcinkihnaaGreatDoor.Th
/- state.Drop, told with the blocks that are owned. -/
namespace Go.Proofs.YtffojfcinkihnaaGreatDoor.Th
open Go.RowKit Go.Lib Go.Proofs.YtffojfcinkihnaaGreatDoor.Abs Go.Proofs.YtffojfcinkihnaaGreatDoor.Lat Go.Proofs.YtffojfcinkihnaaGreatDoor.Lat.Cp Go.Proofs.YtffojfcinkihnaaGreatDoor.Gr
set_option linter.unusedVariables false
theorem row3_kept {w w' : World} {B : Nat} {v : Value} {n : Nat} {xs : List Value} (h : w.ownsRow B 28 3 v n xs) (hB : Below w.heap.size w w') : w'.ownsRow B 28 3 v n xs := by
  obtain ⟨h1, h2 | ⟨g, cap, cur, e, h4, h5, h6⟩⟩ := h
  · exact ⟨h1, .inl h2⟩
  · exact ⟨h1, .inr ⟨g, cap, cur, e, h4, (hB.block g (blk_lt' h5)).trans h5, h6⟩⟩
theorem TO.below {w w' : World} {B : Nat} {v : Value} {l : List Th} (h : TO w B v l) (hB : Below w.heap.size w w') : TO w' B v l := by
  obtain ⟨xs, fps, h1, h2, h3, h4⟩ := h.ex
  exact ⟨xs, fps, row3_kept h1 hB, h2, h3, fun i t fp hi hf => (h4 i t fp hi hf).frame (fun b hb => hB.block b ((h4 i t fp hi hf).bd b hb).2) fun j hj => rfl⟩
theorem to_put {W w1 : World} {B : Nat} {v : Value} {l : List Th} {s' : ByteArray} {b1 b2 : Option Addr} {n1 c1 n2 c2 : Nat} {t : Th} {fp : List Nat} {cs : Array Value} {ty : TypeId} (h : TO W B v l) (hB : B ≤ W.heap.size) (hB1 : Below W.heap.size W w1)
    (hn : ThE w1 W.heap.size s' (.slice b1 n1 c1) (.slice b2 n2 c2) t fp) (i : Nat) (hi : i ≤ l.length) :
    ∃ xs, (w1.alloc (.cells cs ty)).ownsRow B 28 3 v l.length xs ∧ (∀ u ∈ xs, u.oneCell' = true) ∧ ∀ v' w3, w3.ownsRow B 28 3 v' (l.length + 1) (cut3 xs [.string s', .slice b1 n1 c1, .slice b2 n2 c2] (i * 3)) → (w1.alloc (.cells cs ty)).grownBy w3 v.ownBlock →
      (v'.ownBlock = v.ownBlock ∨ v'.ownBlock = some (w1.alloc (.cells cs ty)).heap.size) → TO w3 B v' (l.take i ++ t :: l.drop i) := by
  have hal : Below w1.heap.size w1 (w1.alloc (.cells cs ty)) := (Below.refl _ w1).alloc (Nat.le_refl _) _
  have hBa := below_upG hB1 (Nat.le_refl _) hal
  obtain ⟨xs, fps, h1, h2, h3, h4⟩ := h.ex
  have hlow : ∀ b ∈ fps.flatten, b < W.heap.size := fun b hb => by
    obtain ⟨f, hf, hb⟩ := List.mem_flatten.1 hb
    obtain ⟨q, hq, e⟩ := List.mem_iff_getElem.1 hf
    exact ((h4 q _ f (List.getElem?_eq_getElem (by omega)) (by rw [List.getElem?_eq_getElem hq, e])).bd b hb).2
  refine ⟨xs, row3_kept h1 hBa, fun u hm => ?_, fun v' w3 ho hg hat => ?_⟩
  · obtain ⟨k, hk, e⟩ := List.mem_iff_getElem.1 hm
    have hxl := h1.1
    have hk3 : k / 3 < l.length := by omega
    obtain ⟨s, a1, m1, d1, a2, m2, d2, e0, e1, e2, _⟩ := h4 (k / 3) _ _ (List.getElem?_eq_getElem hk3) (List.getElem?_eq_getElem (by omega))
    rcases (by omega : k = k / 3 * 3 ∨ k = k / 3 * 3 + 1 ∨ k = k / 3 * 3 + 2) with q | q | q
    · rw [← q, List.getElem?_eq_getElem hk, e] at e0; cases e0; rfl
    · rw [← q, List.getElem?_eq_getElem hk, e] at e1; cases e1; rfl
    · rw [← q, List.getElem?_eq_getElem hk, e] at e2; cases e2; rfl
  · refine to_more (w := w1.alloc (.cells cs ty)) hi h2 h3 (fun i t fp hi hf => (h4 i t fp hi hf).frame (fun b hb => hBa.block b ((h4 i t fp hi hf).bd b hb).2) fun j hj => rfl) h1.1 rfl
      ⟨s', b1, n1, c1, b2, n2, c2, rfl, rfl, rfl, (hn.frame fun b hb => hal.block b (hn.bd b hb).2).base hB⟩ hn.nd (fun b hb => ⟨fun hc => ?_, fun hc => ?_⟩) ho hg hat
    · have := (hn.bd b hb).1
      have := (to_blk h b (mem_own1.1 hc)).2
      omega
    · have := (hn.bd b hb).1
      have := hlow b hc
      omega
/-- What Drop has so far. -/
structure DropJ (w : World) (l : List Th) (s : Bs) (i : Nat) (v : Value) (W : World) : Prop where
  row : TO W w.heap.size v (dropT (l.take i) s)
  bel : Below w.heap.size w W
set_option maxHeartbeats 4000000 in
set_option maxRecDepth 100000 in
theorem drop2_any (w : World) (c : Cls) (v : Value) (l : List Th) (ss : ByteArray) (hR : Rep w c v (.sl 3 (encTs l))) (hok : TsOK l) :
    Calls Tryz.prog 12 #[v, .string ss] w fun e w' => ∃ A n cap, e = .returned (.slice A n cap) ∧ Gr.Ax (DropJ w l ss.data.toList l.length (.slice A n cap) w') := by
  obtain ⟨A, cap, rfl, hA⟩ := things_at hR
  obtain ⟨i0, hi, hz0, hz1, hz2⟩ := info_parts info28
  have hl := hok.1
  replace hok := Lib.hid hok
  replace hA := Lib.hid hA
  clear hR
  go_enter Tryz.func12, Tryz.ntmps12
  go_wp2_with fail
  have h0 : DropJ w l ss.data.toList 0 (.slice none 0 0) w := ⟨TO.nil _ _, Below.refl _ _⟩
  replace h0 := Lib.hid h0
  go_loopg [10, 5] l.length (fun gk v10 v5 W => ∃ i : Nat, i + gk = l.length ∧ v10 = .int .i64 i ∧ Gr.Ax (DropJ w l ss.data.toList i v5 W))
  case atStart => exact ⟨0, by omega, rfl, ⟨h0.out⟩⟩
  case round =>
    clear h0
    obtain ⟨i, hig, rfl, HM⟩ := hrel
    by_cases hil : i < l.length
    · obtain ⟨g1, rfl⟩ : ∃ j, gk = j + 1 := ⟨gk - 1, by omega⟩
      obtain ⟨t, hk⟩ : ∃ x, l[i]? = some x := ⟨l[i], List.getElem?_eq_getElem hil⟩
      have hAt := (hA.out i t hk).below (show Below w.heap.size w wr from HM.out.bel)
      obtain ⟨g, o, s, b1, n1, c1, b2, n2, c2, rfl, hs, q1, q2, q3, hr1, hr2⟩ := hAt.ex
      have hoki := hok.out.2 t (List.mem_of_getElem? hk)
      have hBa : Below wr.heap.size wr (wr.alloc (Obj.cells #[.string s, .slice b1 n1 c1, .slice b2 n2 c2] 28)) := (Below.refl _ wr).alloc (Nat.le_refl _) _
      have CO := Lib.hid (own2_any (wr.alloc (Obj.cells #[.string s, .slice b1 n1 c1, .slice b2 n2 c2] 28)) _ t s b1 b2 n1 c1 n2 c2 hs (hr1.ext (Cp.ext_cut _ hBa)) (hr2.ext (Cp.ext_cut _ hBa)) hoki.1 hoki.2)
      replace hBa := Lib.hid hBa
      clear hr1 hr2 hAt
      have z0 : (wr.alloc (Obj.cells #[.string s, .slice b1 n1 c1, .slice b2 n2 c2] 28)).cell? ⟨wr.heap.size, 0, none⟩ = some (.string s) := by rw [cell_of (heap_alloc_new wr _)]; rfl
      by_cases hn : s = ss
      · have hnx := Lib.hid (show DropJ w l ss.data.toList (i + 1) u5 (wr.alloc (Obj.cells #[.string s, .slice b1 n1 c1, .slice b2 n2 c2] 28)) from by
          refine ⟨?_, below_upG HM.out.bel (Nat.le_refl _) hBa.out⟩
          rw [dropT_snoc hk, if_neg (by rw [← hs, hn]; simp)]
          exact HM.out.row.below hBa.out)
        subst hn
        clear CO hBa HM hoki
        go_wp2_with fail
        go_roundg g1
        case measure => omega
        case rel => exact ⟨i + 1, by omega, by go_num, ⟨hnx.out⟩⟩
      · have hn' := Lib.hid (show t.n ≠ ss.data.toList from fun e => hn (by
          rw [← hs] at e
          cases s; cases ss; congr; exact Array.toList_inj.1 e))
        have hbn : (s.toList == ss.toList) = false := by
          rw [Lib.toList_data, Lib.toList_data, hs]
          exact beq_eq_false_iff_ne.2 hn'.out
        replace HM := Lib.hid HM
        replace hoki := Lib.hid hoki
        replace hs := Lib.hid hs
        have hi' := Lib.hid (And.intro hi (And.intro hz0 (And.intro hz1 hz2)))
        clear hi hz0 hz1 hz2
        go_wp2_with fail
        refine CO.out.mono ?_
        generalize hwD : (wr.alloc (Obj.cells #[.string s, .slice b1 n1 c1, .slice b2 n2 c2] 28)) = wD at *
        rintro e w1 ⟨s', bo1, bo2, no1, co1, no2, co2, fpn, rfl, hB1, hE1⟩
        have hBW : Below wr.heap.size wr w1 := below_upG hBa.out (Nat.le_refl _) hB1
        have hE2 := hE1.base (show wr.heap.size ≤ wD.heap.size from hBa.out.size)
        obtain ⟨xs, hownA, hone, hmore⟩ := to_put (cs := #[.string s', .slice bo1 no1 co1, .slice bo2 no2 co2]) (ty := 28) HM.out.out.row HM.out.out.bel.size hBW hE2 (dropT (l.take i) ss.data.toList).length (Nat.le_refl _)
        have hdl : (dropT (l.take i) ss.data.toList).length ≤ i := Nat.le_trans (dropT_len _ _) (by rw [List.length_take]; omega)
        have hwD' : w.heap.size ≤ wD.heap.size := Nat.le_trans HM.out.out.bel.size hBa.out.size
        have hw1 : wD.heap.size ≤ w1.heap.size := hB1.size
        replace hB1 := Lib.hid hB1
        replace hBW := Lib.hid hBW
        replace hmore := Lib.hid hmore
        have hxl := hownA.1
        clear hE1 hE2 hone CO
        have b1' : (dropT (l.take i) ss.data.toList).length + 1 ≤ maxLen := by unfold maxLen; omega
        have b2' : ((dropT (l.take i) ss.data.toList).length + 1) * 64 ≤ 140737488355328 := by omega
        have b3' : w.heap.size ≤ (w1.alloc (.cells #[.string s', .slice bo1 no1 co1, .slice bo2 no2 co2] 28)).heap.size := by simp; omega
        go_wp2_with (at_builtin; refine wpList_append_own_at _ rfl _ _ 22 rfl w.heap.size 28 i0 _ 3 64 Tryz.underlying22 hi'.out.1 hi'.out.2.1 hi'.out.2.2.1 hi'.out.2.2.2 rfl (by decide) u5 (dropT (l.take i) ss.data.toList).length xs rfl hownA ⟨w1.heap.size, 0, none⟩ 1 1 [.string s', .slice bo1 no1 co1, .slice bo2 no2 co2] rfl rfl (cells_three _ _ _ _ _) (by simp [Value.oneCell']) b1' b2' b3' ?_; intro v' w6 hown' hgrow hnil hloc)
        have hnx := Lib.hid (show DropJ w l ss.data.toList (i + 1) v' w6 from by
          have e1 : cut3 xs [.string s', .slice bo1 no1 co1, .slice bo2 no2 co2] ((dropT (l.take i) ss.data.toList).length * 3) = xs ++ [.string s', .slice bo1 no1 co1, .slice bo2 no2 co2] := by
            unfold cut3
            rw [List.take_of_length_le (by omega), List.drop_of_length_le (by omega), List.append_nil]
          have hT := hmore.out v' w6 (by rw [e1]; exact hown') hgrow hloc
          rw [List.take_length, List.drop_length] at hT
          have h1 := below_upG (below_upG HM.out.out.bel (Nat.le_refl _) hBW.out) (Nat.le_refl _) ((Below.refl _ w1).alloc (Nat.le_refl _) (.cells #[.string s', .slice bo1 no1 co1, .slice bo2 no2 co2] 28))
          refine ⟨by rw [dropT_snoc hk, if_pos hn'.out]; exact hT, hgrow.os.trans h1.os, hgrow.tape.trans h1.tape, hgrow.output.trans h1.output, Nat.le_trans h1.size hgrow.size, fun k hk' => (hgrow.block k (Nat.lt_of_lt_of_le hk' h1.size) fun e => ?_).trans (h1.block k hk')⟩
          have := (to_blk HM.out.out.row k e.symm).1
          omega)
        clear hown' hgrow hnil hloc hownA
        go_roundg g1
        case measure => omega
        case rel => exact ⟨i + 1, by omega, by go_num, ⟨hnx.out⟩⟩
    · obtain rfl : gk = 0 := by omega
      obtain rfl : i = l.length := by omega
      obtain ⟨A5, cap5, hA5⟩ := to_shape HM.out.row
      subst hA5
      go_wp2_with fail
      go_ret
      exact ⟨_, _, _, rfl, ⟨HM.out⟩⟩
end Go.Proofs.YtffojfcinkihnaaGreatDoor.Th
/- state.Put, told with the blocks that are owned. -/
namespace Go.Proofs.YtffojfcinkihnaaGreatDoor.Th
open Go.RowKit Go.Lib Go.Proofs.YtffojfcinkihnaaGreatDoor.Abs Go.Proofs.YtffojfcinkihnaaGreatDoor.Lat Go.Proofs.YtffojfcinkihnaaGreatDoor.Lat.Cp Go.Proofs.YtffojfcinkihnaaGreatDoor.Gr
set_option linter.unusedVariables false
theorem TO.base {w : World} {B B' : Nat} {v : Value} {l : List Th} (h : TO w B v l) (hB : B' ≤ B) : TO w B' v l := by
  obtain ⟨xs, fps, ⟨h1, h2⟩, h3, h4, h5⟩ := h.ex
  refine ⟨xs, fps, ⟨h1, ?_⟩, h3, h4, fun i t fp hi hf => ?_⟩
  · rcases h2 with h2 | ⟨g, cap, cur, e, h4, h5⟩
    · exact .inl h2
    · exact .inr ⟨g, cap, cur, e, Nat.le_trans hB h4, h5⟩
  · obtain ⟨s, b1, n1, c1, b2, n2, c2, e0, e1, e2, h⟩ := h5 i t fp hi hf
    exact ⟨s, b1, n1, c1, b2, n2, c2, e0, e1, e2, h.base hB⟩
theorem TO.rep {w : World} {B : Nat} {v : Value} {l : List Th} (h : TO w B v l) : Rep w (Kb B) v (.sl 3 (encTs l)) := by
  have hk : ∀ b, B ≤ b → Kb B b = .frz := fun b hb => by unfold Kb; rw [if_neg (by omega)]
  obtain ⟨xs, fps, ⟨h1, h2⟩, hfl, hnd, hE⟩ := h.ex
  rcases h2 with ⟨rfl, h2⟩ | ⟨g, cap, cur, rfl, h4, h5, h6, h7, h8, h9⟩
  · obtain rfl := List.eq_nil_of_length_eq_zero h2
    exact .nil _
  · have hl := encTs_len l
    rw [← hl]
    have hcell : ∀ i t j a, l[i]? = some t → (encTh t)[j]? = some a → ∃ u, cur[i * 3 + j]? = some u ∧ Rep w (Kb B) u a := fun i t j a hi hj => by
      have hil := (List.getElem?_eq_some_iff.1 hi).1
      obtain ⟨s, b1, n1, c1, b2, n2, c2, e0, e1, e2, hT⟩ := hE i t _ hi (List.getElem?_eq_getElem (by omega))
      obtain ⟨f1, _, hO, hD⟩ := hT.ex
      have up : ∀ {k u}, xs[k]? = some u → cur[k]? = some u := fun {k u} e => by
        rw [← h9, List.getElem?_take] at e
        split at e
        · simpa using e
        · cases e
      have hj3 := (List.getElem?_eq_some_iff.1 hj).1
      rcases (by simpa [encTh] using hj3 : j < 3) |> fun h => (by omega : j = 0 ∨ j = 1 ∨ j = 2) with rfl | rfl | rfl
      · cases hj; exact ⟨_, up e0, by rw [← hT.n]; exact .str _⟩
      · cases hj; exact ⟨_, up e1, hO.rep hk⟩
      · cases hj; exact ⟨_, up e2, row_rep hk hD⟩
    refine Rep.sl g 0 cap 3 _ (fun i j => cur.getD (i * 3 + j) undef) (by omega) (fun i cs hi => ?_) (fun i j hi hj => ?_) (fun i j hi hj => stab_Kb.2 h4) (fun i j cs a hi hj => ?_)
    · rw [encTs, List.getElem?_map] at hi
      cases hx : l[i]? with
      | none => rw [hx] at hi; cases hi
      | some f => rw [hx] at hi; cases hi; rfl
    · rw [cell_of h5, Nat.zero_add]
      have : i * 3 + j < cur.size := by omega
      simp [Array.getD_eq_getD_getElem?, this]
    · rw [encTs, List.getElem?_map] at hi
      cases hx : l[i]? with
      | none => rw [hx] at hi; cases hi
      | some t =>
        rw [hx] at hi; cases hi
        obtain ⟨u, e, hr⟩ := hcell i t j a hx hj
        show Rep w _ (cur.getD (i * 3 + j) undef) a
        simp only [Array.getD_eq_getD_getElem?, e, Option.getD_some]; exact hr
set_option maxHeartbeats 4000000 in
set_option maxRecDepth 100000 in
theorem index2_any (w : World) (c : Cls) (v : Value) (l : List Th) (h : Rep w c v (.sl 3 (encTs l))) (hl : l.length ≤ 1073741824) (s : ByteArray) (bx : Nat) (hb : w.cell? ⟨bx, 0, none⟩ = some (.string s)) :
    Calls Tryz.prog 28 #[v, .func (.func 29) #[] #[.pointer (some ⟨bx, 0, none⟩)]] w fun e w' => e = .returned (.int .i64 (if gtAt s.data.toList l < l.length then (gtAt s.data.toList l : Int) else -1)) ∧ Below w.heap.size w w' := by
  obtain ⟨A, cap, rfl, hA⟩ := things_at h
  replace hA := Lib.hid hA
  clear h
  obtain ⟨r, hr⟩ : ∃ r : Int, r = if gtAt s.data.toList l < l.length then (gtAt s.data.toList l : Int) else -1 := ⟨_, rfl⟩
  rw [← hr]
  replace hr := Lib.hid hr
  go_enter Tryz.func28, Tryz.ntmps28
  go_wp2_with fail
  go_loopg [8] l.length (fun gk v8 W => ∃ i : Nat, i + gk = l.length ∧ v8 = .int .i64 i ∧ Gr.Ax (Below w.heap.size w W ∧ ∀ j x, j < i → l[j]? = some x → bytesLt s.data.toList x.n = false))
  case atStart => exact ⟨0, by omega, rfl, ⟨Below.refl _ _, fun j x hj => by omega⟩⟩
  case round =>
    obtain ⟨i, hig, rfl, HM⟩ := hrel
    by_cases hil : i < l.length
    · obtain ⟨g1, rfl⟩ : ∃ j, gk = j + 1 := ⟨gk - 1, by omega⟩
      obtain ⟨t, hk⟩ : ∃ x, l[i]? = some x := ⟨l[i], List.getElem?_eq_getElem hil⟩
      have hAt := (hA.out i t hk).below (show Below w.heap.size w wr from HM.out.1)
      obtain ⟨g, o, x, b1, n1, c1, b2, n2, c2, rfl, hs, q1, q2, q3, hr1, hr2⟩ := hAt.ex
      have CL := Lib.hid (later_any wr s x b1 b2 n1 c1 n2 c2 bx (cell_below HM.out.1 hb))
      clear hr1 hr2 hAt
      go_wp2_with fail
      refine CL.out.mono ?_
      rintro e w1 ⟨rfl, hB1⟩
      clear CL
      cases hc : bytesLt s.data.toList x.data.toList with
      | true =>
        have hgt := gtAt_at s.data.toList l i t HM.out.2 hk (by rw [← hs]; exact hc)
        go_wp2_with fail
        go_ret
        refine ⟨?_, below_upG HM.out.1 (Nat.le_refl _) hB1⟩
        rw [hr.out, hgt, if_pos hil]; rfl
      | false =>
        have hnx := Lib.hid (show Below w.heap.size w w1 ∧ ∀ j y, j < i + 1 → l[j]? = some y → bytesLt s.data.toList y.n = false from
          ⟨below_upG HM.out.1 (Nat.le_refl _) hB1, fun j y hj hy => by
            by_cases hji : j = i
            · subst hji; rw [hk] at hy; cases hy; rw [← hs]; exact hc
            · exact HM.out.2 j y (by omega) hy⟩)
        clear HM hB1
        go_wp2_with fail
        go_roundg g1
        case measure => omega
        case rel => exact ⟨i + 1, by omega, by go_num, ⟨hnx.out⟩⟩
    · obtain rfl : gk = 0 := by omega
      obtain rfl : i = l.length := by omega
      have hgt := gtAt_none s.data.toList l fun j x hx => HM.out.2 j x (List.getElem?_eq_some_iff.1 hx).1 hx
      go_wp2_with fail
      go_ret
      refine ⟨?_, HM.out.1⟩
      rw [hr.out, hgt, if_neg (by omega)]; rfl
set_option maxHeartbeats 4000000 in
set_option maxRecDepth 100000 in
theorem put2_any (w : World) (c : Cls) (v : Value) (l : List Th) (t : Th) (s : ByteArray) (b1 b2 : Option Addr) (n1 c1 n2 c2 : Nat) (hR : Rep w c v (.sl 3 (encTs l))) (hok : TsOK l) (hs : s.data.toList = t.n) (h1 : Rep w c (.slice b1 n1 c1) (.sl 8 (encV t.v))) (h2 : Rep w c (.slice b2 n2 c2) (.sl 1 (encD t.d)))
    (hv : szV t.v ≤ 1073741824) (hd : t.d.length ≤ 1073741824) :
    Calls Tryz.prog 11 #[v, .agg #[.string s, .slice b1 n1 c1, .slice b2 n2 c2]] w fun e w' => ∃ A n cap, e = .returned (.slice A n cap) ∧ Gr.Ax (TO w' w.heap.size (.slice A n cap) (putT l t) ∧ Below w.heap.size w w') := by
  have hA : Below w.heap.size w (w.alloc (.cells #[.string s, .slice b1 n1 c1, .slice b2 n2 c2] 28)) := (Below.refl _ w).alloc (Nat.le_refl _) _
  have hAb := heap_alloc_new w (.cells #[.string s, .slice b1 n1 c1, .slice b2 n2 c2] 28)
  have hAs : (w.alloc (.cells #[.string s, .slice b1 n1 c1, .slice b2 n2 c2] 28)).heap.size = w.heap.size + 1 := by simp
  have CD := Lib.hid (drop2_any _ _ v l s (hR.ext (Cp.ext_cut c hA)) hok)
  have CO := Lib.hid fun W (hB : Below w.heap.size w W) => own2_any W _ t s b1 b2 n1 c1 n2 c2 hs (h1.ext (Cp.ext_cut c hB)) (h2.ext (Cp.ext_cut c hB)) hv hd
  obtain ⟨A, cap, rfl, _⟩ := things_at hR
  replace hs := Lib.hid hs
  have hl := Nat.le_trans (dropT_len l t.n) hok.1
  clear hR h1 h2
  go_enter Tryz.func11, Tryz.ntmps11
  have q0 : (w.alloc (.cells #[.string s, .slice b1 n1 c1, .slice b2 n2 c2] 28)).cell? ⟨w.heap.size, 0, none⟩ = some (.string s) := by rw [cell_of hAb]; rfl
  have q1 : (w.alloc (.cells #[.string s, .slice b1 n1 c1, .slice b2 n2 c2] 28)).cell? ⟨w.heap.size, 1, none⟩ = some (.slice b1 n1 c1) := by rw [cell_of hAb]; rfl
  have q2 : (w.alloc (.cells #[.string s, .slice b1 n1 c1, .slice b2 n2 c2] 28)).cell? ⟨w.heap.size, 2, none⟩ = some (.slice b2 n2 c2) := by rw [cell_of hAb]; rfl
  replace hA := Lib.hid hA
  go_wp2_with fail
  refine CD.out.mono ?_
  clear CD
  generalize (w.alloc (.cells #[.string s, .slice b1 n1 c1, .slice b2 n2 c2] 28)) = wA at *
  rintro e w1 ⟨A1, no, cap1, rfl, hx⟩
  have hrow1 : TO w1 wA.heap.size (.slice A1 no cap1) (dropT l t.n) := by
    have := hx.out.row
    rw [List.take_length, hs.out] at this; exact this
  have hB1 : Below wA.heap.size wA w1 := hx.out.bel
  obtain ⟨_, _, hsh⟩ := to_shape hrow1
  obtain rfl : no = (dropT l t.n).length := by injection hsh
  clear hsh
  have CI := Lib.hid (index2_any w1 _ _ _ hrow1.rep hl s w.heap.size (cell_below hB1 q0))
  rw [hs.out] at CI
  have hle := gtAt_le t.n (dropT l t.n)
  generalize hout : dropT l t.n = out at *
  generalize hat : gtAt t.n out = at_ at *
  have q0 := cell_below hB1 q0
  have q1 := cell_below hB1 q1
  have q2 := cell_below hB1 q2
  replace hrow1 := Lib.hid hrow1
  replace hB1 := Lib.hid hB1
  clear hx hAb
  have go : ∀ (w2 w3 : World) (s' : ByteArray) (bo1 bo2 : Option Addr) (no1 co1 no2 co2 : Nat) (fpn : List Nat), Below w1.heap.size w1 w2 → Below w2.heap.size w2 w3 → ThE w3 w2.heap.size s' (.slice bo1 no1 co1) (.slice bo2 no2 co2) t fpn →
      Calls Tryz.prog 30 #[.slice A1 out.length cap1, .int .i64 at_, .slice (some ⟨w3.heap.size, 0, none⟩) 1 1] (w3.alloc (.cells #[.string s', .slice bo1 no1 co1, .slice bo2 no2 co2] 28)) fun e w' =>
        ∃ A n cap, e = .returned (.slice A n cap) ∧ Gr.Ax (TO w' w.heap.size (.slice A n cap) (putT l t) ∧ Below w.heap.size w w') := by
    intro w2 w3 s' bo1 bo2 no1 co1 no2 co2 fpn hB2 hB3 hE
    have hal : Below w3.heap.size w3 (w3.alloc (.cells #[.string s', .slice bo1 no1 co1, .slice bo2 no2 co2] 28)) := (Below.refl _ w3).alloc (Nat.le_refl _) _
    have hblk := to_blk hrow1.out
    have z1 := hB1.out.size
    have z2 := hB2.size
    have z3 := hB3.size
    obtain ⟨xs, hownA, hone, hmore⟩ := to_put (cs := #[.string s', .slice bo1 no1 co1, .slice bo2 no2 co2]) (ty := 28) (hrow1.out.below hB2) (by omega) hB3 hE at_ hle
    refine (ins_raw hownA (by simp; omega) hl at_ hle w3.heap.size 28 _ _ _ (heap_alloc_new w3 _) (fun g e => by have := hblk g e; omega) (by simp [Value.oneCell']) hone).mono fun e w' ⟨v', he, ho, hg, hat'⟩ => ?_
    have hT' := hmore v' w' ho hg hat'
    obtain ⟨A, cap, rfl⟩ := to_shape hT'
    refine ⟨_, _, _, he, ⟨?_, ?_⟩⟩
    · have : putT l t = out.take at_ ++ t :: out.drop at_ := by unfold putT; rw [hout, hat]
      rw [this]
      exact hT'.base (by omega)
    · have h1 := below_upG (below_upG (below_upG (below_upG hA.out (Nat.le_refl _) hB1.out) (Nat.le_refl _) hB2) (Nat.le_refl _) hB3) (Nat.le_refl _) hal
      refine ⟨hg.os.trans h1.os, hg.tape.trans h1.tape, hg.output.trans h1.output, Nat.le_trans h1.size hg.size, fun k hk => (hg.block k (Nat.lt_of_lt_of_le hk h1.size) fun e => ?_).trans (h1.block k hk)⟩
      have := (hblk k e.symm).1
      omega
  replace go := Lib.hid go
  go_wp2_with fail
  refine CI.out.mono ?_
  clear CI
  rintro e w2 ⟨rfl, hB2⟩
  have CO := Lib.hid (CO.out w2 (below_upG (below_upG hA.out (Nat.le_refl _) hB1.out) (Nat.le_refl _) hB2))
  have q0 := cell_below hB2 q0
  have q1 := cell_below hB2 q1
  have q2 := cell_below hB2 q2
  by_cases hlt : at_ < out.length
  · rw [if_pos hlt]
    have hneg : ¬ ((at_ : Int) < 0) := by omega
    replace hB2 := Lib.hid hB2
    go_wp2_with fail
    refine CO.out.mono ?_
    rintro e w3 ⟨s', bo1, bo2, no1, co1, no2, co2, fpn, rfl, hB3, hE3⟩
    have CG := Lib.hid (go.out w2 w3 s' bo1 bo2 no1 co1 no2 co2 fpn hB2.out hB3 hE3)
    clear hB3 hE3 CO
    go_wp2_with fail
    refine CG.out.mono ?_
    rintro e w4 ⟨A4, n4, cap4, rfl, hz⟩
    go_wp2_with fail
    go_ret
    exact ⟨_, _, _, rfl, hz⟩
  · rw [if_neg hlt]
    obtain rfl : at_ = out.length := by omega
    replace hB2 := Lib.hid hB2
    go_wp2_with fail
    refine CO.out.mono ?_
    rintro e w3 ⟨s', bo1, bo2, no1, co1, no2, co2, fpn, rfl, hB3, hE3⟩
    have CG := Lib.hid (go.out w2 w3 s' bo1 bo2 no1 co1 no2 co2 fpn hB2.out hB3 hE3)
    clear hB3 hE3 CO
    go_wp2_with fail
    refine CG.out.mono ?_
    rintro e w4 ⟨A4, n4, cap4, rfl, hz⟩
    go_wp2_with fail
    go_ret
    exact ⟨_, _, _, rfl, hz⟩
end Go.Proofs.YtffojfcinkihnaaGreatDoor.Th
