/- Graphs, plainly: rising lists of texts, points and lines. -/
import Derived.Test.YtmdimhcjogjcgaaGreatDoorMp
import Derived.Test.YtmdimhcjogjcgaaGreatDoorTA
import Derived.Shelf.Spec.SearchS
import Derived.Test.YtmdimhcjogjcgaaGreatDoorSh
import Derived.RegionTactic
import Derived.Deep.RegionHeld3
import Derived.Deep.MidRow
import Derived.Maps.OwnOps
import Derived.Lib.Hide
set_option linter.unusedVariables false
set_option linter.unusedSimpArgs false
set_option linter.unusedSectionVars false
set_option linter.deprecated false
set_option linter.unnecessarySimpa false
namespace Go.Proofs.YtmdimhcjogjcgaaGreatDoor.Gr
open Go.Proofs.YtmdimhcjogjcgaaGreatDoor.Lat Go.Proofs.YtmdimhcjogjcgaaGreatDoor.Mp
open Go.Proofs.YtmdimhcjogjcgaaGreatDoor.Abs (bytesLt)
abbrev Ris (l : List Bs) : Prop := l.Pairwise fun x y => bytesLt x y = true
theorem Ris.nodup {l : List Bs} (h : Ris l) : l.Nodup := h.imp fun {a b} h e => by subst e; rw [blt_irr] at h; cases h
/-- Two rising lists with the same elements are one. -/
theorem ris_unique : ∀ {l m : List Bs}, Ris l → Ris m → (∀ x, x ∈ l ↔ x ∈ m) → l = m
  | [], [], _, _, _ => rfl
  | [], b :: m, _, _, h => by simpa using (h b).2 (by simp)
  | a :: l, [], _, _, h => by simpa using (h a).1 (by simp)
  | a :: l, b :: m, h1, h2, h => by
    have h1' := List.pairwise_cons.1 h1
    have h2' := List.pairwise_cons.1 h2
    have hab : a = b := by
      rcases List.mem_cons.1 ((h a).1 (by simp)) with e | ha
      · exact e
      · rcases List.mem_cons.1 ((h b).2 (by simp)) with e | hb
        · exact e.symm
        · have x1 := h2'.1 a ha
          have x2 := h1'.1 b hb
          rw [blt_asym _ _ x1] at x2; cases x2
    subst hab
    rw [ris_unique h1'.2 h2'.2 fun x => ?_]
    constructor
    · intro hx
      rcases List.mem_cons.1 ((h x).1 (List.mem_cons_of_mem _ hx)) with e | hx'
      · subst e; have := h1'.1 x hx; rw [blt_irr] at this; cases this
      · exact hx'
    · intro hx
      rcases List.mem_cons.1 ((h x).2 (List.mem_cons_of_mem _ hx)) with e | hx'
      · subst e; have := h2'.1 x hx; rw [blt_irr] at this; cases this
      · exact hx'
theorem blt_list : ∀ x y : Bs, bytesLt x y = true ↔ x < y
  | [], [] => by simp [bytesLt]
  | [], b :: y => by simp [bytesLt]
  | a :: x, [] => by simp [bytesLt]
  | a :: x, b :: y => by
    rw [bytesLt, List.cons_lt_cons_iff, ← blt_list x y]
    simp
/-- The keys, sorted. -/
theorem ris_sorted {l : List Bs} (h : l.Nodup) : Ris (l.mergeSort fun x y => decide (x ≤ y)) := by
  have h1 : (l.mergeSort fun x y => decide (x ≤ y)).Pairwise fun x y => decide (x ≤ y) = true := List.pairwise_mergeSort (fun a b c h1 h2 => by simp only [decide_eq_true_eq] at *; exact List.le_trans h1 h2) (fun a b => by simp only [Bool.or_eq_true, decide_eq_true_eq]; exact List.le_total a b) l
  have h2 : (l.mergeSort fun x y => decide (x ≤ y)).Nodup := (List.mergeSort_perm l _).nodup_iff.2 h
  refine List.Pairwise.imp₂ (fun a b h1 h2 => ?_) h1 h2
  rw [blt_list]
  simp only [decide_eq_true_eq] at h1
  rcases List.le_iff_lt_or_eq.1 h1 with h | h
  · exact h
  · exact absurd h h2
/-- How many are less: where a text belongs. -/
def pos (l : List Bs) (x : Bs) : Nat := (l.takeWhile fun y => bytesLt y x).length
def insB (l : List Bs) (x : Bs) : List Bs := l.take (pos l x) ++ x :: l.drop (pos l x)
theorem pos_le (l : List Bs) (x : Bs) : pos l x ≤ l.length := (List.takeWhile_sublist _).length_le
theorem pos_cons (a : Bs) (l : List Bs) (x : Bs) : pos (a :: l) x = if bytesLt a x then pos l x + 1 else 0 := by
  unfold pos
  rw [List.takeWhile_cons]
  split <;> simp
theorem pos_less : ∀ (l : List Bs) (x : Bs) (t : Nat) (y : Bs), t < pos l x → l[t]? = some y → bytesLt y x = true
  | [], x, t, y, h, _ => by simp [pos] at h
  | a :: l, x, 0, y, h, hy => by
    rw [pos_cons] at h
    simp at hy; subst hy
    split at h
    · assumption
    · omega
  | a :: l, x, t + 1, y, h, hy => by
    rw [pos_cons] at h
    split at h
    · exact pos_less l x t y (by omega) (by simpa using hy)
    · omega
theorem pos_geq : ∀ (l : List Bs) (x : Bs), Ris l → ∀ (t : Nat) (y : Bs), pos l x ≤ t → l[t]? = some y → bytesLt y x = false
  | [], x, _, t, y, h, hy => by simp at hy
  | a :: l, x, hr, t, y, h, hy => by
    rw [pos_cons] at h
    have hr' := List.pairwise_cons.1 hr
    split at h
    · rename_i ha
      cases t with
      | zero => omega
      | succ t => exact pos_geq l x hr'.2 t y (by omega) (by simpa using hy)
    · rename_i ha
      cases t with
      | zero => simp at hy; subst hy; simpa using ha
      | succ t =>
        have hm : y ∈ l := List.mem_of_getElem? (i := t) (by simpa using hy)
        have h1 := hr'.1 y hm
        cases hb : bytesLt y x with
        | false => rfl
        | true => exact absurd (blt_trans _ _ _ h1 hb) ha
theorem mem_insB {l : List Bs} {x y : Bs} : y ∈ insB l x ↔ y = x ∨ y ∈ l := by
  unfold insB
  rw [List.mem_append, List.mem_cons]
  conv => rhs; rw [← List.take_append_drop (pos l x) l, List.mem_append]
  constructor
  · rintro (h | rfl | h)
    · exact .inr (.inl h)
    · exact .inl rfl
    · exact .inr (.inr h)
  · rintro (rfl | h | h)
    · exact .inr (.inl rfl)
    · exact .inl h
    · exact .inr (.inr h)
theorem ris_insB : ∀ {l : List Bs} {x : Bs}, Ris l → x ∉ l → Ris (insB l x)
  | [], x, _, _ => by simp [insB, pos]
  | a :: l, x, h, hx => by
    have h' := List.pairwise_cons.1 h
    unfold insB
    rw [pos_cons]
    split
    · rename_i ha
      rw [List.take_succ_cons, List.drop_succ_cons, List.cons_append]
      refine List.pairwise_cons.2 ⟨fun y hy => ?_, ris_insB h'.2 fun c => hx (List.mem_cons_of_mem _ c)⟩
      rcases mem_insB.1 hy with rfl | hy
      · exact ha
      · exact h'.1 y hy
    · rename_i ha
      have hax : bytesLt x a = true := by
        cases hb : bytesLt x a with
        | true => rfl
        | false => exact absurd (blt_total a x (by simpa using ha) hb) (fun e => hx (by simp [e]))
      simp only [List.take_zero, List.drop_zero, List.nil_append]
      refine List.pairwise_cons.2 ⟨fun y hy => ?_, h⟩
      rcases List.mem_cons.1 hy with rfl | hy
      · exact hax
      · exact blt_trans _ _ _ hax (h'.1 y hy)
theorem pos_found {l : List Bs} {x : Bs} (h : Ris l) : (l[pos l x]? = some x) ↔ x ∈ l := by
  constructor
  · exact fun h => List.mem_of_getElem? h
  · intro hx
    obtain ⟨i, hi, he⟩ := List.getElem_of_mem hx
    have h1 : l[i]? = some x := by rw [List.getElem?_eq_getElem hi, he]
    by_cases hp : i < pos l x
    · have := pos_less l x i x hp h1
      rw [blt_irr] at this; cases this
    · by_cases hq : pos l x < i
      · have hlt : pos l x < l.length := by omega
        have h2 := pos_geq l x h (pos l x) l[pos l x] (Nat.le_refl _) (List.getElem?_eq_getElem hlt)
        have h3 : bytesLt l[pos l x] l[i] = true := List.pairwise_iff_getElem.1 h _ _ hlt hi hq
        rw [he, h2] at h3; cases h3
      · rw [show pos l x = i by omega]; exact h1
/-- The program's search. -/
theorem bs_is {l : List Bs} {x : Bs} (h : Ris l) (S : Nat → Bool) (h1 : ∀ t y, l[t]? = some y → S t = bytesLt y x) (h2 : ∀ t, l.length ≤ t → S t = false) : Lib.bsGo S l.length 0 l.length = pos l x := by
  refine Lib.bsGo_spec S (pos l x) (fun t ht => ?_) (fun t ht => ?_) _ _ _ (by omega) (Nat.zero_le _) (pos_le l x)
  · have hl : t < l.length := Nat.lt_of_lt_of_le ht (pos_le l x)
    rw [h1 t _ (List.getElem?_eq_getElem hl)]
    exact pos_less l x t _ ht (List.getElem?_eq_getElem hl)
  · by_cases hl : t < l.length
    · rw [h1 t _ (List.getElem?_eq_getElem hl)]
      exact pos_geq l x h t _ ht (List.getElem?_eq_getElem hl)
    · exact h2 t (by omega)
/-! ### graphs -/
abbrev Gr := Bs → Option (List Bs)
def addG (f : Gr) (k : Bs) : Gr := upd f k (some ((f k).getD []))
theorem addG_old {f : Gr} {k : Bs} {l : List Bs} (h : f k = some l) : addG f k = f := by
  funext x
  unfold addG upd
  split
  · rename_i e; subst e; rw [h]; rfl
  · rfl
def linkG (f : Gr) (a b : Bs) : Gr :=
  let f1 := addG (addG f a) b
  let l := (f1 a).getD []
  if b ∈ l then f1 else upd f1 a (some (insB l b))
/-- There is a line. -/
def Line (f : Gr) (a b : Bs) : Prop := ∃ l, f a = some l ∧ b ∈ l
/-- Rising lists; lines go to points. -/
structure GrOK (f : Gr) : Prop where
  ris : ∀ k l, f k = some l → Ris l
  pt : ∀ k l y, f k = some l → y ∈ l → f y ≠ none
theorem ok_new : GrOK fun _ => none := ⟨fun _ _ h => (nomatch h), fun _ _ _ h => (nomatch h)⟩
theorem addG_pt {f : Gr} {k x : Bs} : addG f k x ≠ none ↔ x = k ∨ f x ≠ none := by
  unfold addG upd
  split
  · rename_i e; simp [e]
  · rename_i e; simp [e]
theorem addG_line {f : Gr} {k a b : Bs} : Line (addG f k) a b ↔ Line f a b := by
  unfold Line addG upd
  by_cases h : a = k
  · subst h
    rw [if_pos rfl]
    cases hf : f a with
    | none => simp
    | some l => simp
  · rw [if_neg h]
theorem ok_add {f : Gr} (h : GrOK f) (k : Bs) : GrOK (addG f k) := by
  refine ⟨fun x l hx => ?_, fun x l y hx hy => ?_⟩
  · unfold addG upd at hx
    split at hx
    · cases hf : f k with
      | none => rw [hf] at hx; cases hx; exact List.Pairwise.nil
      | some m => rw [hf] at hx; cases hx; exact h.ris _ _ hf
    · exact h.ris _ _ hx
  · rw [addG_pt]
    obtain ⟨m, hm, hy'⟩ := addG_line.1 ⟨l, hx, hy⟩
    exact .inr (h.pt _ _ _ hm hy')
theorem link_pt {f : Gr} {a b x : Bs} : linkG f a b x ≠ none ↔ x = a ∨ x = b ∨ f x ≠ none := by
  have h1 : addG (addG f a) b x ≠ none ↔ x = a ∨ x = b ∨ f x ≠ none := by rw [addG_pt, addG_pt]; constructor <;> (rintro (h | h | h) <;> simp [h])
  unfold linkG
  try simp only
  split
  · exact h1
  · unfold upd
    split
    · rename_i e; simp [e]
    · exact h1
theorem link_line {f : Gr} {a b x y : Bs} : Line (linkG f a b) x y ↔ (x = a ∧ y = b) ∨ Line f x y := by
  have h1 : Line (addG (addG f a) b) x y ↔ Line f x y := by rw [addG_line, addG_line]
  have ha : addG (addG f a) b a ≠ none := by rw [addG_pt, addG_pt]; simp
  obtain ⟨l, hl⟩ := Option.ne_none_iff_exists'.1 ha
  unfold linkG
  simp only [hl, Option.getD_some]
  split
  · rename_i hb
    rw [h1]
    constructor
    · exact .inr
    · rintro (⟨rfl, rfl⟩ | h)
      · rw [← h1]; exact ⟨l, hl, hb⟩
      · exact h
  · rename_i hb
    rw [← h1]
    unfold Line upd
    by_cases hx : x = a
    · subst hx
      simp only [if_true, Option.some.injEq, exists_eq_left', hl, mem_insB, true_and]
    · simp [hx]
theorem ok_link {f : Gr} (h : GrOK f) (a b : Bs) : GrOK (linkG f a b) := by
  have h1 := ok_add (ok_add h a) b
  refine ⟨fun x l hx => ?_, fun x l y hx hy => ?_⟩
  · unfold linkG at hx
    try simp only at hx
    split at hx
    · exact h1.ris _ _ hx
    · rename_i hb
      unfold upd at hx
      split at hx
      · cases hx
        refine ris_insB ?_ hb
        cases hf : addG (addG f a) b a with
        | none => exact List.Pairwise.nil
        | some m => exact h1.ris _ _ hf
      · exact h1.ris _ _ hx
  · rw [link_pt]
    rcases link_line.1 ⟨l, hx, hy⟩ with ⟨_, rfl⟩ | ⟨m, hm, hy⟩
    · exact .inr (.inl rfl)
    · exact .inr (.inr (h.pt _ _ _ hm hy))
end Go.Proofs.YtmdimhcjogjcgaaGreatDoor.Gr
namespace Go.Proofs.YtmdimhcjogjcgaaGreatDoor.Gr
open Go.RowKit Go.Lib Go.Proofs.YtmdimhcjogjcgaaGreatDoor.Lat Go.Proofs.YtmdimhcjogjcgaaGreatDoor.Mp Go.Maps
/-- A graph in memory of one's own. -/
structure IsG (w : World) (B bg bm n : Nat) (f : Gr) : Prop where
  hB : B ≤ bg
  hBm : B ≤ bm
  blk : w.heap[bg]? = some (.cells #[.map (some bm)] 213 (0, 0))
  map : ∃ F, MapF Tryz.prog 9 w bm n F ∧ ∀ k, (F k = none ↔ f k = none) ∧ ∀ v l, F k = some v → f k = some l → w.ownsRow B 9 1 v l.length (l.map encStr)
theorem row_kept {w w' : World} {B : Nat} {v : Value} {n : Nat} {xs : List Value} (h : w.ownsRow B 9 1 v n xs) (hb : ∀ b cs t fr, w.heap[b]? = some (.cells cs t fr) → b ≥ B → t = 9 → w'.heap[b]? = w.heap[b]?) : w'.ownsRow B 9 1 v n xs := by
  obtain ⟨h1, h2 | ⟨g, cap, cur, h2, h3, h4, h5, h6, h7, h8⟩⟩ := h
  · exact ⟨h1, .inl h2⟩
  · exact ⟨h1, .inr ⟨g, cap, cur, h2, h3, (hb _ _ _ _ h4 h3 rfl).trans h4, h5, h6, h7, h8⟩⟩
theorem row_base {w : World} {B B' : Nat} {v : Value} {n : Nat} {xs : List Value} (h : w.ownsRow B 9 1 v n xs) (hb : B' ≤ B) : w.ownsRow B' 9 1 v n xs := by
  obtain ⟨h1, h2 | ⟨g, cap, cur, h2, h3, h4⟩⟩ := h
  · exact ⟨h1, .inl h2⟩
  · exact ⟨h1, .inr ⟨g, cap, cur, h2, Nat.le_trans hb h3, h4⟩⟩
theorem blk_lt' {w : World} {b : Nat} {o : Obj} (h : w.heap[b]? = some o) : b < w.heap.size := (Array.getElem?_eq_some_iff.1 h).1
/-- Nothing of it has changed. -/
theorem IsG.kept {w w' : World} {B bg bm n : Nat} {f : Gr} (h : IsG w B bg bm n f) (hk : ∀ b, b < w.heap.size → B ≤ b → w'.heap[b]? = w.heap[b]?) : IsG w' B bg bm n f := by
  obtain ⟨F, h1, h2⟩ := h.map
  refine ⟨h.hB, h.hBm, (hk _ (blk_lt' h.blk) h.hB).trans h.blk, F, h1.keptB (hk _ h1.lt h.hBm), fun k => ⟨(h2 k).1, fun v l hv hl => row_kept ((h2 k).2 v l hv hl) fun b cs t fr hb hB _ => hk b (blk_lt' hb) hB⟩⟩
theorem IsG.below {w w' : World} {B bg bm n : Nat} {f : Gr} (h : IsG w B bg bm n f) (hk : Below w.heap.size w w') : IsG w' B bg bm n f := h.kept fun b hb _ => hk.block b hb
/-- Another map has changed. -/
theorem IsG.other {w w' : World} {B bg bm n m : Nat} {f : Gr} (h : IsG w B bg bm n f) (hk : w.grownBy w' (some m)) {es : Array MapEntry} {c : Nat} (hm : w.heap[m]? = some (.map es c)) (hne : m ≠ bm) : IsG w' B bg bm n f := by
  obtain ⟨F, h1, h2⟩ := h.map
  have ne : ∀ b cs t fr, w.heap[b]? = some (.cells cs t fr) → some b ≠ some m := fun b cs t fr hb e => by cases e; rw [hb] at hm; cases hm
  refine ⟨h.hB, h.hBm, (hk.block _ (blk_lt' h.blk) (ne _ _ _ _ h.blk)).trans h.blk, F, h1.keptB (hk.block _ h1.lt fun e => by cases e; exact hne rfl), fun k => ⟨(h2 k).1, fun v l hv hl => row_kept ((h2 k).2 v l hv hl) fun b cs t fr hb hB _ => hk.block b (blk_lt' hb) (ne _ _ _ _ hb)⟩⟩
theorem IsG.mono {w : World} {B bg bm n m : Nat} {f : Gr} (h : IsG w B bg bm n f) (hm : n ≤ m) : IsG w B bg bm m f := by
  obtain ⟨F, h1, h2⟩ := h.map
  exact ⟨h.hB, h.hBm, h.blk, F, h1.mono hm, h2⟩
theorem IsG.cell {w : World} {B bg bm n : Nat} {f : Gr} (h : IsG w B bg bm n f) : w.cell? ⟨bg, 0, none⟩ = some (.map (some bm)) := by rw [Abs.cell_of h.blk]; rfl
set_option maxHeartbeats 4000000 in
theorem has_any {w : World} {B bg bm n : Nat} {f : Gr} (h : IsG w B bg bm n f) (k : ByteArray) (hk : k.size ≤ maxLen) :
    Calls Tryz.prog 157 #[.pointer (some ⟨bg, 0, none⟩), .string k] w fun e w' => e = .returned (.bool (f k.data.toList).isSome) ∧ w' = w := by
  obtain ⟨F, h1, h2⟩ := h.map
  have hl := h1.look Tryz.underlying9 Tryz.underlying211 (Tryz.zeroValue37 w) k hk
  have hc := h.cell
  have hs : (F k.data.toList).isSome = (f k.data.toList).isSome := by
    have := (h2 k.data.toList).1
    cases hF : F k.data.toList <;> cases hf : f k.data.toList <;> simp [hF, hf] at this ⊢
  rw [hs] at hl
  generalize (f k.data.toList).isSome = r at *
  generalize (F k.data.toList).getD _ = u at *
  clear h h1 h2 hs
  go_enter Tryz.func157, Tryz.ntmps157
  go_wp2_with fail
  go_ret
  exact ⟨rfl, rfl⟩
theorem grown_refl (w : World) (r : Option Nat) : w.grownBy w r := ⟨rfl, rfl, rfl, Nat.le_refl _, fun _ _ _ => rfl⟩
theorem grown_trans {a b c : World} {r : Option Nat} (h : a.grownBy b r) (k : b.grownBy c r) : a.grownBy c r :=
  ⟨k.os.trans h.os, k.tape.trans h.tape, k.output.trans h.output, Nat.le_trans h.size k.size, fun i hi hr => (k.block i (Nat.lt_of_lt_of_le hi h.size) hr).trans (h.block i hi hr)⟩
theorem grown_below {w w' : World} (r : Option Nat) (h : Below w.heap.size w w') : w.grownBy w' r := ⟨h.os, h.tape, h.output, h.size, fun i hi _ => h.block i hi⟩
/-- A store into its map. -/
theorem IsG.put {w w1 : World} {B bg bm n m : Nat} {f : Gr} {F : Ks → Option Value} {k : Bs} {v : Value} {l : List Bs} (h : IsG w B bg bm n f) (hF : MapF Tryz.prog 9 w1 bm m (upd F k (some v))) (hg : w.grownBy w1 (some bm))
    (h2 : ∀ k, (F k = none ↔ f k = none) ∧ ∀ v l, F k = some v → f k = some l → w.ownsRow B 9 1 v l.length (l.map encStr)) (hv : w1.ownsRow B 9 1 v l.length (l.map encStr)) : IsG w1 B bg bm m (upd f k (some l)) := by
  obtain ⟨es, c, hm⟩ : ∃ es c, w.heap[bm]? = some (.map es c) := by obtain ⟨F, h1, _⟩ := h.map; exact h1.blk
  have ne : ∀ b cs t fr, w.heap[b]? = some (.cells cs t fr) → some b ≠ some bm := fun b cs t fr hb e => by cases e; rw [hb] at hm; cases hm
  refine ⟨h.hB, h.hBm, (hg.block _ (blk_lt' h.blk) (ne _ _ _ _ h.blk)).trans h.blk, _, hF, fun x => ?_⟩
  by_cases hx : x = k
  · subst hx
    rw [upd_same, upd_same]
    refine ⟨by simp, fun v' l' e e' => ?_⟩
    cases e; cases e'
    exact hv
  · rw [upd_ne _ _ hx, upd_ne _ _ hx]
    exact ⟨(h2 x).1, fun v' l' hv' hl' => row_kept ((h2 x).2 v' l' hv' hl') fun b cs t fr hb hB _ => hg.block b (blk_lt' hb) (ne _ _ _ _ hb)⟩
set_option maxHeartbeats 4000000 in
theorem add_any {w : World} {B bg bm n : Nat} {f : Gr} (h : IsG w B bg bm n f) (k : ByteArray) (hk : k.size ≤ maxLen) (hn : n < maxLen) :
    Calls Tryz.prog 116 #[.pointer (some ⟨bg, 0, none⟩), .string k] w fun e w' => e = .returned (.tuple #[]) ∧ IsG w' B bg bm (n + 1) (addG f k.data.toList) ∧ w.grownBy w' (some bm) := by
  obtain ⟨F, h1, h2⟩ := h.map
  obtain ⟨w1, hrun, hF, hturn⟩ := h1.store Tryz.underlying9 Tryz.underlying211 hn k hk (.slice none 0 0)
  have hc := h.cell
  have C := Lib.hid (has_any h k hk)
  have hgr := Lib.hid hturn.grown
  have hI := Lib.hid h
  have hFF := Lib.hid hF
  have h22 := Lib.hid h2
  clear h h1 h2 hF hturn
  cases hf : f k.data.toList with
  | some l =>
    rw [hf] at C
    clear hrun hgr hFF
    go_enter Tryz.func116, Tryz.ntmps116
    go_wp2_with fail
    refine C.out.mono ?_
    rintro e w' ⟨rfl, rfl⟩
    go_wp2_with fail
    go_end0
    refine ⟨rfl, ?_, grown_refl _ _⟩
    rw [addG_old hf]
    exact hI.out.mono (Nat.le_succ _)
  | none =>
    rw [hf] at C
    go_enter Tryz.func116, Tryz.ntmps116
    go_wp2_with fail
    refine C.out.mono ?_
    rintro e w' ⟨rfl, rfl⟩
    go_wp2_with fail
    go_end0
    refine ⟨rfl, ?_, hgr.out⟩
    have := hI.out.put (l := []) hFF.out hgr.out h22.out ⟨rfl, .inl ⟨rfl, rfl⟩⟩
    have e : addG f k.data.toList = upd f k.data.toList (some []) := by unfold addG; rw [hf]; rfl
    rw [e]
    exact this
theorem size_mk (x : Bs) : (⟨x.toArray⟩ : ByteArray).size = x.length := by show x.toArray.size = _; simp
structure Ax (p : Prop) : Prop where
  out : p
theorem row_read {w : World} {B : Nat} {v : Value} {l : List Bs} (h : w.ownsRow B 9 1 v l.length (l.map encStr)) :
    ∃ A cap, v = .slice A l.length cap ∧ ∀ i x, l[i]? = some x → ∃ g, A = some ⟨g, 0, none⟩ ∧ g < w.heap.size ∧ B ≤ g ∧ w.cell? ⟨g, i, none⟩ = some (encStr x) := by
  obtain ⟨h1, ⟨rfl, h2⟩ | ⟨g, cap, cur, rfl, h3, h4, h5, h6, h7, h8⟩⟩ := h
  · obtain rfl := List.eq_nil_of_length_eq_zero h2
    exact ⟨none, 0, rfl, fun i x hx => by simp at hx⟩
  · refine ⟨_, cap, rfl, fun i x hx => ⟨g, rfl, blk_lt' h4, h3, ?_⟩⟩
    rw [Abs.cell_of h4]
    have e : (l.map encStr)[i]? = some (encStr x) := by rw [List.getElem?_map, hx]; rfl
    rw [← h8, List.getElem?_take] at e
    split at e
    · simpa using e
    · cases e
theorem row_below {w w' : World} {B : Nat} {v : Value} {n : Nat} {xs : List Value} (h : w.ownsRow B 9 1 v n xs) (hk : Below w.heap.size w w') : w'.ownsRow B 9 1 v n xs :=
  row_kept h fun b cs t fr hb _ _ => hk.block b (blk_lt' hb)
def newG (l : List Bs) : Gr := l.foldl addG fun _ => none
theorem newG_succ {l : List Bs} {i : Nat} {x : Bs} (h : l[i]? = some x) : newG (l.take (i + 1)) = addG (newG (l.take i)) x := by
  have hi := (List.getElem?_eq_some_iff.1 h).1
  have e : l.take (i + 1) = l.take i ++ [x] := by rw [List.take_add_one, h]; rfl
  rw [e]
  unfold newG
  rw [List.foldl_append]; rfl
theorem below_upG {wA W W' : World} {B : Nat} (h : Below B wA W) (hB : B ≤ wA.heap.size) (k : Below W.heap.size W W') : Below B wA W' :=
  ⟨k.os.trans h.os, k.tape.trans h.tape, k.output.trans h.output, Nat.le_trans h.size k.size, fun i hi => (k.block i (by have := h.size; omega)).trans (h.block i hi)⟩
theorem below_grown {wA W W' : World} {B m : Nat} (h : Below B wA W) (hB : B ≤ wA.heap.size) (k : W.grownBy W' (some m)) (hm : B ≤ m) : Below B wA W' :=
  ⟨k.os.trans h.os, k.tape.trans h.tape, k.output.trans h.output, Nat.le_trans h.size k.size, fun i hi => (k.block i (by have := h.size; omega) (by simp; omega)).trans (h.block i hi)⟩
theorem made_any (w : World) : IsG ((w.alloc (.map #[] 0)).alloc (.cells #[.map (some w.heap.size)] 213)) w.heap.size (w.heap.size + 1) w.heap.size 0 fun _ => none := by
  refine ⟨Nat.le_succ _, Nat.le_refl _, ?_, fun _ => none, ?_, fun k => ⟨by simp, fun v l h => by cases h⟩⟩
  · have := heap_alloc_new (w.alloc (.map #[] 0)) (.cells #[.map (some w.heap.size)] 213)
    simpa using this
  · exact (MapF.made Tryz.prog 9 w).keptB (Below.heap_alloc _ _ _ (by simp))
set_option maxHeartbeats 4000000 in
theorem new_any {w : World} {B : Nat} {v : Value} {l : List Bs} (hv : w.ownsRow B 9 1 v l.length (l.map encStr)) (hl : ∀ x ∈ l, x.length ≤ maxLen) (hn : l.length ≤ 1073741824) :
    Calls Tryz.prog 115 #[v] w fun e w' => ∃ bg bm, e = .returned (.pointer (some ⟨bg, 0, none⟩)) ∧ IsG w' w.heap.size bg bm l.length (newG l) ∧ Below w.heap.size w w' := by
  obtain ⟨A, cap, rfl, hA⟩ := row_read hv
  have hA := Lib.hid hA
  have hI := made_any w
  have hmm := @run_makeMap Tryz.prog
  have hB0 : Below w.heap.size w ((w.alloc (.map #[] 0)).alloc (.cells #[.map (some w.heap.size)] 213)) := ((Below.refl _ w).alloc (Nat.le_refl _) _).alloc (by simp) _
  have hI := Lib.hid hI
  have hB0 := Lib.hid hB0
  clear hv
  go_enter Tryz.func115, Tryz.ntmps115
  go_wp2_with fail
  go_loopg [11] l.length (fun gk v11 W => ∃ i : Nat, i + gk = l.length ∧ v11 = .int .i64 i ∧ Ax (IsG W w.heap.size (w.heap.size + 1) w.heap.size i (newG (l.take i)) ∧ Below w.heap.size w W))
  case atStart => exact ⟨0, by omega, rfl, ⟨by simpa [newG] using hI.out, hB0.out⟩⟩
  case round =>
    clear hI hB0 hmm
    obtain ⟨i, hig, rfl, HM⟩ := hrel
    by_cases hi : i < l.length
    · obtain ⟨g1, rfl⟩ : ∃ j, gk = j + 1 := ⟨gk - 1, by omega⟩
      obtain ⟨x, hx⟩ : ∃ x, l[i]? = some x := ⟨l[i], List.getElem?_eq_getElem hi⟩
      obtain ⟨g, rfl, hg, _, hcell⟩ := hA.out i x hx
      have hc : wr.cell? ⟨g, i, none⟩ = some (.string ⟨x.toArray⟩) := by rw [World.cell?_of_block (HM.out.2.block g hg)]; exact hcell
      have hxl : (⟨x.toArray⟩ : ByteArray).size ≤ maxLen := by rw [size_mk]; exact hl x (List.mem_of_getElem? hx)
      have C := Lib.hid (add_any HM.out.1 ⟨x.toArray⟩ hxl (by unfold maxLen; omega))
      clear hcell
      go_wp2_with fail
      refine C.out.mono ?_
      rintro e w1 ⟨rfl, hI1, hg1⟩
      have hrel1 := Lib.hid (show Ax (IsG w1 w.heap.size (w.heap.size + 1) w.heap.size (i + 1) (newG (l.take (i + 1))) ∧ Below w.heap.size w w1) from ⟨by rw [newG_succ hx]; simpa using hI1, below_grown HM.out.2 (Nat.le_refl _) hg1 (Nat.le_refl _)⟩)
      clear hI1 hg1 C
      go_wp2_with fail
      go_roundg g1
      case measure => omega
      case rel => exact ⟨i + 1, by omega, by go_num, hrel1.out⟩
    · obtain rfl : gk = 0 := by omega
      obtain rfl : i = l.length := by omega
      go_wp2_with fail
      go_ret
      exact ⟨_, _, rfl, by simpa using HM.out.1, HM.out.2⟩
/-- A list of all points, that rises. -/
structure PtsOf (f : Gr) (n : Nat) (l : List Bs) : Prop where
  ris : Ris l
  mem : ∀ k, k ∈ l ↔ f k ≠ none
  len : l.length ≤ n
  small : ∀ k ∈ l, k.length ≤ maxLen
set_option maxHeartbeats 4000000 in
theorem points_any {w : World} {B bg bm n : Nat} {f : Gr} (h : IsG w B bg bm n f) (hn : n ≤ 1073741824) :
    Calls Tryz.prog 162 #[.pointer (some ⟨bg, 0, none⟩)] w fun e w' => ∃ v l, e = .returned v ∧ PtsOf f n l ∧ w'.ownsRow w.heap.size 9 1 v l.length (l.map encStr) ∧ Below w.heap.size w w' := by
  obtain ⟨F, ⟨D, hown, rfl⟩, h2⟩ := h.map
  have hc := h.cell
  have hlen := len_keys (k := 9) Tryz.underlying9 hown
  have hnd := nodup_keys (k := 9) Tryz.underlying9 hown
  have hmem := mem_keys (k := 9) Tryz.underlying9 hown
  have hsm := strKeys_le hown Tryz.underlying9
  have hsz := hown.size_le
  have hmax : Maps.size D ≤ maxLen := by unfold maxLen; omega
  have hbytes : Maps.size D * 16 ≤ 140737488355328 := by omega
  have hfK : Fence.wide.fn 204 := trivial
  have hfS : Fence.wide.fn 165 := trivial
  have KS := Lib.hid fun W (hW : W = w) => Tryz.slices_Sorted_keys_106_138 bm n D rawR w hown hmax hbytes
  have hkm : ∀ k, k ∈ strKeys D ↔ f k ≠ none := fun k => by
    rw [hmem k]
    exact not_congr (h2 k).1
  have hP : ∀ ss : List Bs, ss.Perm (strKeys D) → PtsOf f n (ss.mergeSort fun x y => decide (x ≤ y)) := fun ss hp => by
    have hp' := (List.mergeSort_perm ss fun x y => decide (x ≤ y)).trans hp
    exact ⟨ris_sorted (hp.nodup_iff.2 hnd), fun k => by rw [hp'.mem_iff]; exact hkm k, by rw [hp'.length_eq]; exact hlen, fun k hk => hsm k (hp'.mem_iff.1 hk)⟩
  have hP := Lib.hid hP
  clear h h2 hlen hnd hmem hsm hsz hmax hbytes hkm hown
  refine (callsIn_wide (n := 6)).1 ?_
  refine callsIn_of_wp Tryz.func162 rfl trivial ?_ rfl
  simp only [Tryz.ntmps162, List.size_toArray, List.length_cons, List.length_nil, Nat.reduceAdd, Nat.reduceSub, Array.replicate_succ, Array.replicate_zero, List.push_toArray, List.append_toArray, List.nil_append, List.cons_append]
  gi_wp2_with (first
    | (gi_at_call 204; refine (Tryz.maps_Keys_138 _ _).mono ?_; rintro e w' ⟨rfl, rfl⟩)
    | (gi_at_call 165; refine (KS.out w rfl).mono ?_; rintro e w' ⟨v, ss, rfl, hS, hrow, hnil, hb⟩))
  go_ret
  refine ⟨v, _, rfl, hP.out ss hS, ?_, ((Below.refl _ w).alloc (Nat.le_refl _) _).trans (hb.mono (by simp))⟩
  rw [List.length_mergeSort]
  exact row_base hrow (by simp)
set_option maxHeartbeats 4000000 in
theorem to_any {w : World} {B bg bm n : Nat} {f : Gr} (h : IsG w B bg bm n f) (k : ByteArray) (hk : k.size ≤ maxLen) (hb : ∀ l, f k.data.toList = some l → l.length ≤ 1073741824) :
    Calls Tryz.prog 163 #[.pointer (some ⟨bg, 0, none⟩), .string k] w fun e w' => ∃ v, e = .returned v ∧ w'.ownsRow w.heap.size 9 1 v ((f k.data.toList).getD []).length (((f k.data.toList).getD []).map encStr) ∧ Below w.heap.size w w' := by
  obtain ⟨F, h1, h2⟩ := h.map
  have hl := h1.look0 Tryz.underlying9 Tryz.underlying211 (Tryz.zeroValue37 w) k hk
  have hc := h.cell
  have hrow : ∃ u, (F k.data.toList).getD (.slice none 0 0) = u ∧ w.ownsRow B 9 1 u ((f k.data.toList).getD []).length (((f k.data.toList).getD []).map encStr) := by
    refine ⟨_, rfl, ?_⟩
    have h3 := h2 k.data.toList
    cases hF : F k.data.toList with
    | none => rw [h3.1.1 hF]; exact ⟨rfl, .inl ⟨rfl, rfl⟩⟩
    | some v =>
      cases hf : f k.data.toList with
      | none => rw [h3.1.2 hf] at hF; cases hF
      | some l => exact h3.2 v l hF hf
  have hbl : ((f k.data.toList).getD []).length ≤ 1073741824 := by
    cases hf : f k.data.toList with
    | none => simp
    | some l => exact hb l hf
  generalize (f k.data.toList).getD [] = l at *
  obtain ⟨u, hu, hrow⟩ := hrow
  rw [hu] at hl
  clear hu h h1 h2 hb
  have hC : Calls Tryz.prog 160 #[u] w fun e w' => ∃ v', e = .returned v' ∧ w'.ownsRow w.heap.size 9 1 v' l.length (l.map encStr) ∧ Below w.heap.size w w' := by
    obtain ⟨A, cap, rfl, hA⟩ := row_read hrow
    cases l with
    | nil =>
      cases A with
      | none => exact (Any.slices_Clone_string_nil Tryz.lays16 0 cap w).mono fun e w' ⟨he, hw⟩ => ⟨_, he, ⟨rfl, .inl ⟨rfl, rfl⟩⟩, by subst hw; exact Below.refl _ _⟩
      | some a => exact (Any.slices_Clone_string_zero Tryz.lays16 a cap w).mono fun e w' ⟨v', he, h1, _, h2⟩ => ⟨v', he, h1, h2⟩
    | cons x l =>
      obtain ⟨g, rfl, _, _, _⟩ := hA 0 x rfl
      refine (Any.slices_Clone_string Tryz.lays16 g 0 (x :: l).length cap ((x :: l).map fun y => ⟨y.toArray⟩) w (by simp) (by omega) fun j hj => ?_).mono fun e w' ⟨v', he, h1, _, h2⟩ => ⟨v', he, ?_, h2⟩
      · rw [List.length_map] at hj
        obtain ⟨g', e, _, _, hc⟩ := hA j _ (List.getElem?_eq_getElem hj)
        cases e
        rw [Nat.zero_add, hc]
        have : ((x :: l).map fun y => (⟨y.toArray⟩ : ByteArray)).getD j ByteArray.empty = ⟨((x :: l)[j]).toArray⟩ := by
          rw [List.getD_eq_getElem?_getD, List.getElem?_map, List.getElem?_eq_getElem hj]; rfl
        rw [this]
      · have e : ((List.map (fun y => (⟨y.toArray⟩ : ByteArray)) (x :: l)).take (x :: l).length).map Value.string = (x :: l).map encStr := by
          rw [List.take_of_length_le (by simp), List.map_map]; rfl
        rw [e] at h1
        exact h1
  have hC := Lib.hid hC
  go_enter Tryz.func163, Tryz.ntmps163
  go_wp2_with fail
  refine hC.out.mono ?_
  rintro e w' ⟨v, rfl, h1, h2⟩
  have h1 := Lib.hid h1
  have h2 := Lib.hid h2
  go_wp2_with fail
  go_ret
  exact ⟨v, rfl, h1.out, h2.out⟩
end Go.Proofs.YtmdimhcjogjcgaaGreatDoor.Gr
