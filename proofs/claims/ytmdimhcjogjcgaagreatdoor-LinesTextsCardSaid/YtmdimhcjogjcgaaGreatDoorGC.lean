/- The order of a graph's points, plainly. -/
import Derived.Test.YtmdimhcjogjcgaaGreatDoorGB
import Derived.Maps.AppendAt
import Derived.OwnWalk
set_option linter.unusedVariables false
set_option linter.unusedSimpArgs false
set_option linter.unusedSectionVars false
set_option linter.deprecated false
set_option linter.unnecessarySimpa false
set_option maxRecDepth 100000
namespace Go.Proofs.YtmdimhcjogjcgaaGreatDoor.Gr
open Go.Proofs.YtmdimhcjogjcgaaGreatDoor.Lat Go.Proofs.YtmdimhcjogjcgaaGreatDoor.Mp
open Go.Proofs.YtmdimhcjogjcgaaGreatDoor.Abs (bytesLt)
/-- How many lines go to points that are not out. -/
def cnt (f : Gr) (out : List Bs) (k : Bs) : Nat := ((f k).getD []).countP fun y => decide (y ∉ out)
theorem countP_snoc {out : List Bs} {k : Bs} (hk : k ∉ out) : ∀ (l : List Bs), l.Nodup → l.countP (fun y => decide (y ∉ out)) = l.countP (fun y => decide (y ∉ out ++ [k])) + if k ∈ l then 1 else 0
  | [], _ => by simp
  | x :: l, h => by
    have h' := List.nodup_cons.1 h
    rw [List.countP_cons, List.countP_cons, countP_snoc hk l h'.2]
    by_cases hx : x = k
    · subst hx
      simp [hk, h'.1]
    · have e : (x ∉ out ++ [k]) ↔ x ∉ out := by simp [hx]
      have e2 : k ∈ x :: l ↔ k ∈ l := by simp [Ne.symm hx]
      simp only [e, e2]
      omega
theorem mem_getD {f : Gr} {k y : Bs} : y ∈ (f k).getD [] ↔ Line f k y := by
  unfold Line
  cases f k with
  | none => simp
  | some l => simp
theorem cnt_zero {f : Gr} {out : List Bs} {k : Bs} : cnt f out k = 0 ↔ ∀ y, Line f k y → y ∈ out := by
  unfold cnt
  rw [List.countP_eq_zero]
  constructor
  · intro h y hy
    have := h y (mem_getD.2 hy)
    simpa using this
  · intro h y hy
    simpa using h y (mem_getD.1 hy)
theorem nodup_getD {f : Gr} (hok : GrOK f) (k : Bs) : ((f k).getD []).Nodup := by
  cases hf : f k with
  | none => exact List.nodup_nil
  | some l => exact (hok.ris k l hf).nodup
theorem cnt_snoc {f : Gr} (hok : GrOK f) {out : List Bs} {k : Bs} (hk : k ∉ out) (x : Bs) : (Line f x k → cnt f out x = cnt f (out ++ [k]) x + 1) ∧ (¬ Line f x k → cnt f out x = cnt f (out ++ [k]) x) := by
  have := countP_snoc hk _ (nodup_getD hok x)
  unfold cnt
  refine ⟨fun h => ?_, fun h => ?_⟩
  · rw [if_pos (mem_getD.2 h)] at this; exact this
  · rw [if_neg (fun c => h (mem_getD.1 c))] at this; exact this
/-- What holds between two points. -/
structure Inv (f : Gr) (out : List Bs) (C : Bs → Option Nat) (free : List Bs) : Prop where
  nd : out.Nodup
  pt : ∀ k ∈ out, f k ≠ none
  dom : ∀ k, C k ≠ none ↔ f k ≠ none ∧ k ∉ out
  val : ∀ k c, C k = some c → c = cnt f out k
  ris : Ris free
  fr : ∀ k, k ∈ free ↔ C k = some 0
  pre : ∀ (i : Nat) (k : Bs), out[i]? = some k → (∀ y, Line f k y → y ∈ out.take i) ∧ ∀ y, f y ≠ none → y ∉ out.take i → (∀ z, Line f y z → z ∈ out.take i) → y = k ∨ bytesLt k y = true
/-- What holds between two lines to the point k. -/
structure MidO (f : Gr) (out : List Bs) (k : Bs) (T : List Bs) (j : Nat) (C : Bs → Option Nat) (free : List Bs) : Prop where
  dom : ∀ x, C x ≠ none ↔ f x ≠ none ∧ x ∉ out ++ [k]
  val : ∀ x c, C x = some c → c = if x ∈ T.take j then cnt f (out ++ [k]) x else cnt f out x
  ris : Ris free
  fr : ∀ x, x ∈ free ↔ C x = some 0
theorem Inv.start {f : Gr} {n : Nat} {P : List Bs} (hP : PtsOf f n P) {C : Bs → Option Nat} (h1 : ∀ k, C k ≠ none ↔ k ∈ P) (h2 : ∀ k c, C k = some c → c = ((f k).getD []).length) {free : List Bs} (h3 : free = P.filter fun k => decide (((f k).getD []).length = 0)) : Inv f [] C free := by
  refine ⟨List.nodup_nil, by simp, fun k => by rw [h1, hP.mem]; simp, fun k c hc => ?_, ?_, fun k => ?_, fun i k h => by simp at h⟩
  · rw [h2 k c hc]
    unfold cnt
    rw [List.countP_eq_length.2]
    simp
  · rw [h3]; exact hP.ris.filter _
  · rw [h3, List.mem_filter, ← h1]
    constructor
    · rintro ⟨a, b⟩
      obtain ⟨c, hc⟩ := Option.ne_none_iff_exists'.1 a
      rw [hc, h2 k c hc]
      simpa using b
    · intro h
      exact ⟨by rw [h]; simp, by simpa using (h2 k 0 h).symm⟩
theorem Inv.head {f : Gr} {out r : List Bs} {C : Bs → Option Nat} {k : Bs} (h : Inv f out C (k :: r)) : f k ≠ none ∧ k ∉ out ∧ ∀ y, Line f k y → y ∈ out := by
  have h0 := (h.fr k).1 (List.mem_cons_self ..)
  have h1 := (h.dom k).1 (by rw [h0]; simp)
  exact ⟨h1.1, h1.2, cnt_zero.1 (h.val k 0 h0).symm⟩
theorem MidO.start {f : Gr} {out r : List Bs} {C : Bs → Option Nat} {k : Bs} (T : List Bs) (h : Inv f out C (k :: r)) : MidO f out k T 0 (upd C k none) r := by
  have hr := List.pairwise_cons.1 h.ris
  have hkr : k ∉ r := fun c => by have := hr.1 k c; rw [blt_irr] at this; cases this
  refine ⟨fun x => ?_, fun x c hc => ?_, hr.2, fun x => ?_⟩
  · by_cases hx : x = k
    · subst hx; simp [upd_same]
    · rw [upd_ne _ _ hx, h.dom]; simp [hx]
  · by_cases hx : x = k
    · subst hx; rw [upd_same] at hc; cases hc
    · rw [upd_ne _ _ hx] at hc
      simp [h.val x c hc]
  · by_cases hx : x = k
    · subst hx; simp [upd_same, hkr]
    · rw [upd_ne _ _ hx, ← h.fr x]; simp [hx]
theorem MidO.step {f : Gr} (hok : GrOK f) {out T free : List Bs} {C : Bs → Option Nat} {k x : Bs} {j : Nat} (hT : Ris T) (hTm : ∀ x, x ∈ T ↔ Line f x k) (hko : k ∉ out) (hkl : ∀ y, Line f k y → y ∈ out) (hcl : ∀ y ∈ out, ∀ z, Line f y z → z ∈ out)
    (h : MidO f out k T j C free) (hx : T[j]? = some x) : ∃ c, C x = some (c + 1) ∧ c + 1 ≤ ((f x).getD []).length ∧ f x ≠ none ∧ (c ≠ 0 → MidO f out k T (j + 1) (upd C x (some c)) free) ∧ (c = 0 → x ∉ free ∧ MidO f out k T (j + 1) (upd C x (some c)) (insB free x)) := by
  have hxk := (hTm x).1 (List.mem_of_getElem? hx)
  have hfx : f x ≠ none := by obtain ⟨l, hl, _⟩ := hxk; rw [hl]; simp
  have hxo : x ∉ out ++ [k] := by
    intro c
    rcases List.mem_append.1 c with c | c
    · exact hko (hcl x c k hxk)
    · have e : x = k := by simpa using c
      subst e
      exact hko (hkl x hxk)
  obtain ⟨d, hd⟩ := Option.ne_none_iff_exists'.1 ((h.dom x).2 ⟨hfx, hxo⟩)
  have hxt : x ∉ T.take j := by
    intro c
    obtain ⟨i, hi, he⟩ := List.getElem_of_mem c
    have hi' : i < j := by have := hi; simp at this; omega
    have hj := (List.getElem?_eq_some_iff.1 hx).1
    have h1 : bytesLt T[i] T[j] = true := List.pairwise_iff_getElem.1 hT _ _ _ hj hi'
    have e1 : T[i] = x := by simpa using he
    have e2 : T[j] = x := (List.getElem?_eq_some_iff.1 hx).2
    rw [e1, e2, blt_irr] at h1; cases h1
  have hv := h.val x d hd
  rw [if_neg hxt] at hv
  have hs := (cnt_snoc hok hko x).1 hxk
  refine ⟨cnt f (out ++ [k]) x, by rw [hd, hv, hs], ?_, hfx, ?_⟩
  · rw [← hs]; exact List.countP_le_length
  have hdom : ∀ y, upd C x (some (cnt f (out ++ [k]) x)) y ≠ none ↔ f y ≠ none ∧ y ∉ out ++ [k] := fun y => by
    by_cases hy : y = x
    · subst hy; rw [upd_same]; simp only [ne_eq, reduceCtorEq, not_false_eq_true, true_iff]; exact ⟨hfx, hxo⟩
    · rw [upd_ne _ _ hy]; exact h.dom y
  have hval : ∀ y c, upd C x (some (cnt f (out ++ [k]) x)) y = some c → c = if y ∈ T.take (j + 1) then cnt f (out ++ [k]) y else cnt f out y := fun y c hc => by
    by_cases hy : y = x
    · subst hy
      rw [upd_same] at hc; cases hc
      rw [if_pos ((take_mem hx).2 (.inr rfl))]
    · rw [upd_ne _ _ hy] at hc
      rw [h.val y c hc]
      have : y ∈ T.take (j + 1) ↔ y ∈ T.take j := by rw [take_mem hx]; simp [hy]
      simp only [this]
  have hnf : x ∉ free := fun c => by
    have := (h.fr x).1 c
    rw [hd, hv, hs] at this; cases this
  refine ⟨fun hc => ⟨hdom, hval, h.ris, fun y => ?_⟩, fun hc => ⟨hnf, hdom, hval, ris_insB h.ris hnf, fun y => ?_⟩⟩
  · by_cases hy : y = x
    · subst hy
      rw [upd_same]
      simp [hnf, hc]
    · rw [upd_ne _ _ hy]; exact h.fr y
  · rw [mem_insB]
    by_cases hy : y = x
    · subst hy
      rw [upd_same]
      simp [hc]
    · rw [upd_ne _ _ hy, ← h.fr y]
      simp [hy]
theorem Inv.closed {f : Gr} {out free : List Bs} {C : Bs → Option Nat} (h : Inv f out C free) : ∀ y ∈ out, ∀ z, Line f y z → z ∈ out := fun y hy z hz => by
  obtain ⟨i, hi, he⟩ := List.getElem_of_mem hy
  exact List.mem_of_mem_take ((h.pre i y (by rw [List.getElem?_eq_getElem hi, he])).1 z hz)
theorem MidO.stop {f : Gr} (hok : GrOK f) {out T free r : List Bs} {C C0 : Bs → Option Nat} {k : Bs} (hTm : ∀ x, x ∈ T ↔ Line f x k) (h0 : Inv f out C0 (k :: r)) (h : MidO f out k T T.length C free) : Inv f (out ++ [k]) C free := by
  obtain ⟨h1, h2, h3⟩ := h0.head
  refine ⟨?_, fun x hx => ?_, h.dom, fun x c hc => ?_, h.ris, h.fr, fun i x hx => ?_⟩
  · rw [List.nodup_append]
    exact ⟨h0.nd, by simp, fun a ha b hb e => by simp at hb; subst hb; subst e; exact h2 ha⟩
  · rcases List.mem_append.1 hx with hx | hx
    · exact h0.pt x hx
    · have e : x = k := by simpa using hx
      subst e; exact h1
  · rw [h.val x c hc, List.take_length]
    split
    · rfl
    · rename_i hx
      exact (cnt_snoc hok h2 x).2 fun hl => hx ((hTm x).2 hl)
  · rw [List.getElem?_append] at hx
    split at hx
    · rename_i hi
      rw [List.take_append_of_le_length (by omega)]
      exact h0.pre i x hx
    · rename_i hi
      have hi2 : i = out.length := by
        have := (List.getElem?_eq_some_iff.1 hx).1
        simp at this; omega
      subst hi2
      simp at hx
      subst hx
      rw [List.take_append_of_le_length (Nat.le_refl _), List.take_length]
      refine ⟨h3, fun y hy hyo hyl => ?_⟩
      have hc : C0 y ≠ none := (h0.dom y).2 ⟨hy, hyo⟩
      obtain ⟨c, hc⟩ := Option.ne_none_iff_exists'.1 hc
      have hc0 : c = 0 := by rw [h0.val y c hc]; exact cnt_zero.2 hyl
      subst hc0
      rcases List.mem_cons.1 ((h0.fr y).2 hc) with rfl | hm
      · exact .inl rfl
      · exact .inr ((List.pairwise_cons.1 h0.ris).1 y hm)
/-- The order, and what is bound. -/
structure OrdOf (f : Gr) (out bound : List Bs) : Prop where
  nd : out.Nodup
  ris : Ris bound
  all : ∀ k, f k ≠ none ↔ k ∈ out ∨ k ∈ bound
  apart : ∀ k ∈ out, k ∉ bound
  pre : ∀ (i : Nat) (k : Bs), out[i]? = some k → (∀ y, Line f k y → y ∈ out.take i) ∧ ∀ y, f y ≠ none → y ∉ out.take i → (∀ z, Line f y z → z ∈ out.take i) → y = k ∨ bytesLt k y = true
  back : ∀ k ∈ bound, ∃ y ∈ bound, Line f k y
theorem Inv.stop {f : Gr} (hok : GrOK f) {out bound : List Bs} {C : Bs → Option Nat} (h : Inv f out C []) (hb : Ris bound) (hm : ∀ k, k ∈ bound ↔ C k ≠ none) : OrdOf f out bound := by
  refine ⟨h.nd, hb, fun k => ?_, fun k hk c => ((h.dom k).1 ((hm k).1 c)).2 hk, h.pre, fun k hk => ?_⟩
  · rw [hm, h.dom]
    by_cases hk : k ∈ out
    · simp [hk, h.pt k hk]
    · simp [hk]
  · have hc := (hm k).1 hk
    obtain ⟨c, hc'⟩ := Option.ne_none_iff_exists'.1 hc
    have hne : cnt f out k ≠ 0 := fun e => by
      have h0 := h.val k c hc'
      rw [e] at h0; subst h0
      have := (h.fr k).2 hc'
      cases this
    have : ∃ y, Line f k y ∧ y ∉ out := Classical.byContradiction fun hn => hne (cnt_zero.2 fun y hy => Classical.byContradiction fun c => hn ⟨y, hy, c⟩)
    obtain ⟨y, hy, hyo⟩ := this
    obtain ⟨l, hl, hyl⟩ := id hy
    exact ⟨y, (hm y).2 ((h.dom y).2 ⟨hok.pt k l y hl hyl, hyo⟩), hy⟩
end Go.Proofs.YtmdimhcjogjcgaaGreatDoor.Gr
namespace Go.Proofs.YtmdimhcjogjcgaaGreatDoor.Gr
open Go.RowKit Go.Lib Go.Proofs.YtmdimhcjogjcgaaGreatDoor.Lat Go.Proofs.YtmdimhcjogjcgaaGreatDoor.Mp Go.Maps
open Go.Proofs.YtmdimhcjogjcgaaGreatDoor.Abs (bytesLt bytesLt_eq)
/-- A slice whose elements are L. -/
def RdS (w : World) (B : Nat) (v : Value) (L : List Bs) : Prop := ∃ A cap, v = .slice A L.length cap ∧ L.length ≤ cap ∧ (∀ a, A = some a → ∃ g o, a = ⟨g, o, none⟩ ∧ g < w.heap.size) ∧ ∀ i x, L[i]? = some x → ∃ g o, A = some ⟨g, o, none⟩ ∧ B ≤ g ∧ w.cell? ⟨g, o + i, none⟩ = some (encStr x)
theorem row_rd {w : World} {B : Nat} {v : Value} {l : List Bs} (h : w.ownsRow B 9 1 v l.length (l.map encStr)) : RdS w B v l := by
  obtain ⟨h1, ⟨rfl, h2⟩ | ⟨g, cap, cur, rfl, h3, h4, h5, h6, h7, h8⟩⟩ := id h
  · obtain rfl := List.eq_nil_of_length_eq_zero h2
    exact ⟨none, 0, rfl, Nat.le_refl _, fun a e => (nomatch e), fun i x hx => by simp at hx⟩
  · refine ⟨_, cap, rfl, h5, fun a e => by cases e; exact ⟨g, 0, rfl, blk_lt' h4⟩, fun i x hx => ?_⟩
    obtain ⟨A, cap', e, hA⟩ := row_read h
    cases e
    obtain ⟨g', e, _, h', hc⟩ := hA i x hx
    cases e
    exact ⟨g, 0, rfl, h', by rw [Nat.zero_add]; exact hc⟩
theorem RdS.kept {w w' : World} {B : Nat} {v : Value} {L : List Bs} (h : RdS w B v L) (hs : w.heap.size ≤ w'.heap.size) (hk : ∀ b cs t fr, w.heap[b]? = some (.cells cs t fr) → v.ownBlock = some b → w'.heap[b]? = w.heap[b]?) : RdS w' B v L := by
  obtain ⟨A, cap, rfl, hl, ha, hc⟩ := h
  refine ⟨A, cap, rfl, hl, fun a e => ?_, fun i x hx => ?_⟩
  · obtain ⟨g, o, h1, h2⟩ := ha a e
    exact ⟨g, o, h1, Nat.lt_of_lt_of_le h2 hs⟩
  · obtain ⟨g, o, rfl, h2, h3⟩ := hc i x hx
    refine ⟨g, o, rfl, h2, ?_⟩
    have hb : ∃ cs t fr, w.heap[g]? = some (.cells cs t fr) := by
      unfold World.cell? at h3
      cases hh : w.heap[g]? with
      | none => simp [hh] at h3
      | some ob =>
        cases ob with
        | cells cs t fr => exact ⟨cs, t, fr, rfl⟩
        | _ => simp [hh] at h3
    obtain ⟨cs, t, fr, hb⟩ := hb
    rw [World.cell?_of_block (hk g cs t fr hb rfl)]
    exact h3
theorem RdS.below {w w' : World} {B : Nat} {v : Value} {L : List Bs} (h : RdS w B v L) (hk : Below w.heap.size w w') : RdS w' B v L := h.kept hk.size fun b cs t fr hb _ => hk.block b (blk_lt' hb)
theorem RdS.map {w w' : World} {B m : Nat} {v : Value} {L : List Bs} (h : RdS w B v L) (hk : w.grownBy w' (some m)) {es : Array MapEntry} {c : Nat} (hm : w.heap[m]? = some (.map es c)) : RdS w' B v L :=
  h.kept hk.size fun b cs t fr hb _ => hk.block b (blk_lt' hb) fun e => by cases e; rw [hb] at hm; cases hm
theorem RdS.lt {w : World} {B : Nat} {v : Value} {L : List Bs} (h : RdS w B v L) {g : Nat} (hg : v.ownBlock = some g) : g < w.heap.size := by
  obtain ⟨A, cap, rfl, _, ha, _⟩ := h
  cases A with
  | none => cases hg
  | some a =>
    cases hg
    obtain ⟨g, o, rfl, h2⟩ := ha a rfl
    exact h2
theorem search_rd {w : World} {B : Nat} {v : Value} {l : List Bs} (hv : RdS w B v l) (hr : Ris l) (hl : l.length ≤ 1073741824) (x : Bs) :
    Calls Tryz.prog 158 #[v, .string ⟨x.toArray⟩] w fun e w' => e = .returned (.tuple #[.int .i64 (pos l x : Nat), .bool (decide (x ∈ l))]) ∧ Below w.heap.size w w' := by
  obtain ⟨A, cap, rfl, _, _, hA⟩ := hv
  cases l with
  | nil =>
    refine (Any2.slices_BinarySearch_string_empty Tryz.lays26 A cap ⟨x.toArray⟩ w).mono fun e w' ⟨he, hw⟩ => ⟨?_, by subst hw; exact Below.refl _ _⟩
    rw [he]; simp [pos]
  | cons y l =>
    obtain ⟨g, o, rfl, _, _⟩ := hA 0 y rfl
    have hS : ∀ t z, (y :: l)[t]? = some z → ((fun t => (⟨((y :: l).getD t x).toArray⟩ : ByteArray)) t) = ⟨z.toArray⟩ := fun t z hz => by
      simp only [List.getD_eq_getElem?_getD, hz, Option.getD_some]
    have hbs : Lib.bsGo (fun t => Op.bytesLess ((fun t => (⟨((y :: l).getD t x).toArray⟩ : ByteArray)) t).toList (⟨x.toArray⟩ : ByteArray).toList) (y :: l).length 0 (y :: l).length = pos (y :: l) x := by
      refine bs_is hr _ (fun t z hz => ?_) fun t ht => ?_
      · show Op.bytesLess ((fun t => (⟨((y :: l).getD t x).toArray⟩ : ByteArray)) t).toList _ = _
        rw [hS t z hz, toList_mk, toList_mk, bytesLt_eq]
      · show Op.bytesLess (⟨((y :: l).getD t x).toArray⟩ : ByteArray).toList _ = _
        rw [List.getD_eq_getElem?_getD, List.getElem?_eq_none ht, toList_mk, toList_mk]
        show Op.bytesLess x x = false
        rw [bytesLt_eq, blt_irr]
    refine (Any2.slices_BinarySearch_string Tryz.lays26 g o (y :: l).length cap (fun t => ⟨((y :: l).getD t x).toArray⟩) ⟨x.toArray⟩ w (by omega) fun j hj => ?_).mono fun e w' ⟨he, q, hw⟩ => ⟨?_, by subst hw; exact below_drewN w q⟩
    · obtain ⟨g', o', e, _, hc⟩ := hA j _ (List.getElem?_eq_getElem hj)
      cases e
      rw [hc]
      show _ = some (Value.string ((fun t => (⟨((y :: l).getD t x).toArray⟩ : ByteArray)) j))
      rw [hS j _ (List.getElem?_eq_getElem hj)]
    · rw [he, hbs]
      have hd : (pos (y :: l) x < (y :: l).length ∧ (⟨((y :: l).getD (pos (y :: l) x) x).toArray⟩ : ByteArray) = ⟨x.toArray⟩) ↔ x ∈ y :: l := ?_
      · rw [show decide (pos (y :: l) x < (y :: l).length ∧ (fun t => (⟨((y :: l).getD t x).toArray⟩ : ByteArray)) (pos (y :: l) x) = ⟨x.toArray⟩) = decide (x ∈ y :: l) from decide_eq_decide.2 hd]
      rw [← pos_found hr]
      constructor
      · rintro ⟨h1, h2⟩
        rw [mk_inj] at h2
        rw [List.getD_eq_getElem?_getD, List.getElem?_eq_getElem h1] at h2
        rw [List.getElem?_eq_getElem h1]
        exact congrArg some h2
      · intro h
        have h1 := (List.getElem?_eq_some_iff.1 h).1
        refine ⟨h1, ?_⟩
        rw [List.getD_eq_getElem?_getD, h]; rfl
theorem clone_rd {w : World} {B : Nat} {u : Value} {l : List Bs} (hrow : RdS w B u l) (hl : l.length ≤ 1073741824) :
    Calls Tryz.prog 160 #[u] w fun e w' => ∃ v', e = .returned v' ∧ Ax (w'.ownsRow w.heap.size 9 1 v' l.length (l.map encStr) ∧ Below w.heap.size w w') := by
  obtain ⟨A, cap, rfl, _, _, hA⟩ := hrow
  cases l with
  | nil =>
    cases A with
    | none => exact (Any.slices_Clone_string_nil Tryz.lays16 0 cap w).mono fun e w' ⟨he, hw⟩ => ⟨_, he, ⟨⟨rfl, .inl ⟨rfl, rfl⟩⟩, by subst hw; exact Below.refl _ _⟩⟩
    | some a => exact (Any.slices_Clone_string_zero Tryz.lays16 a cap w).mono fun e w' ⟨v', he, h1, _, h2⟩ => ⟨v', he, ⟨h1, h2⟩⟩
  | cons x l =>
    obtain ⟨g, o, rfl, _, _⟩ := hA 0 x rfl
    refine (Any.slices_Clone_string Tryz.lays16 g o (x :: l).length cap ((x :: l).map fun y => ⟨y.toArray⟩) w (by simp) (by omega) fun j hj => ?_).mono fun e w' ⟨v', he, h1, _, h2⟩ => ⟨v', he, ⟨?_, h2⟩⟩
    · rw [List.length_map] at hj
      obtain ⟨g', o', e, _, hc⟩ := hA j _ (List.getElem?_eq_getElem hj)
      cases e
      rw [hc]
      have : ((x :: l).map fun y => (⟨y.toArray⟩ : ByteArray)).getD j ByteArray.empty = ⟨((x :: l)[j]).toArray⟩ := by
        rw [List.getD_eq_getElem?_getD, List.getElem?_map, List.getElem?_eq_getElem hj]; rfl
      rw [this]
    · have e : ((List.map (fun y => (⟨y.toArray⟩ : ByteArray)) (x :: l)).take (x :: l).length).map Value.string = (x :: l).map encStr := by
        rw [List.take_of_length_le (by simp), List.map_map]; rfl
      rw [e] at h1
      exact h1
theorem least_any {w : World} {B : Nat} {v : Value} {k : Bs} {r : List Bs} (h : RdS w B v (k :: r)) (hl : r.length ≤ 1073741824) :
    Calls Tryz.prog 164 #[v] w fun e w' => ∃ v', e = .returned (.tuple #[.string ⟨k.toArray⟩, v']) ∧ RdS w' B v' r ∧ Below w.heap.size w w' ∧ v'.ownBlock = v.ownBlock := by
  obtain ⟨A, cap, rfl, hcap, ha, hA⟩ := h
  obtain ⟨g, o, rfl, hB, hc⟩ := hA 0 k rfl
  rw [Nat.add_zero] at hc
  have hg : g < w.heap.size := by obtain ⟨g', o', e, h⟩ := ha _ rfl; cases e; exact h
  simp only [List.length_cons] at hcap hA ⊢
  go_enter Tryz.func164, Tryz.ntmps164
  go_wp2_with fail
  have hA := Lib.hid hA
  clear ha
  go_region
  all_goals go_wp2_with fail
  · go_ret2
    obtain rfl : r = [] := List.eq_nil_of_length_eq_zero (by omega)
    exact ⟨_, rfl, ⟨_, 0, rfl, Nat.le_refl _, fun a e => by cases e; exact ⟨g, o, rfl, hg⟩, fun i x hx => by simp at hx⟩, (Below.refl _ w).drew, rfl⟩
  · go_ret2
    refine ⟨_, rfl, ⟨_, _, rfl, by omega, fun a e => by cases e; exact ⟨g, o + 1, rfl, hg⟩, fun i x hx => ?_⟩, (Below.refl _ w).drew, rfl⟩
    obtain ⟨g', o', e, h1, h2⟩ := hA.out (i + 1) x (by simpa using hx)
    cases e
    exact ⟨g, o + 1, rfl, h1, by rw [show o + 1 + i = o + (i + 1) by omega]; exact h2⟩
end Go.Proofs.YtmdimhcjogjcgaaGreatDoor.Gr
namespace Go.Proofs.YtmdimhcjogjcgaaGreatDoor.Gr
open Go.RowKit Go.Lib Go.Proofs.YtmdimhcjogjcgaaGreatDoor.Lat Go.Proofs.YtmdimhcjogjcgaaGreatDoor.Mp Go.Maps
theorem info9 : (Tryz.prog.info? 9).map (fun i => (i.zero, i.size, i.bytes)) = some (some (.string ⟨#[]⟩), 1, 16) := by kernel_rfl
def cv (c : Nat) : Value := .int .i64 ((c : Nat) : Int)
def mapC (C : Bs → Option Nat) : Ks → Option Value := fun k => (C k).map cv
theorem mapC_upd (C : Bs → Option Nat) (k : Bs) (c : Nat) : upd (mapC C) k (some (cv c)) = mapC (upd C k (some c)) := by
  funext x
  by_cases hx : x = k
  · subst hx; simp [upd, mapC]
  · simp [upd, mapC, hx]
theorem mapC_del (C : Bs → Option Nat) (k : Bs) : upd (mapC C) k none = mapC (upd C k none) := by
  funext x
  by_cases hx : x = k
  · subst hx; simp [upd, mapC]
  · simp [upd, mapC, hx]
/-- A map of counts: what is looked up. -/
theorem cnt_look {w : World} {b n : Nat} {C : Bs → Option Nat} {k : Bs} {c : Nat} (h : MapF Tryz.prog 9 w b n (mapC C)) (hk : k.length ≤ maxLen) (hc : C k = some c) : (Instr.lookup 219 (.map (some b)) (.string ⟨k.toArray⟩) false).run Tryz.prog w = .ok (.int .i64 (c : Nat)) w := by
  have := h.look0 Tryz.underlying9 Tryz.underlying219 (Tryz.zeroValue3 w) ⟨k.toArray⟩ (by rw [size_mk]; exact hk)
  rw [this]
  try rw [data_mk]
  unfold mapC
  rw [hc]; rfl
theorem cnt_store {w : World} {b n : Nat} {C : Bs → Option Nat} (h : MapF Tryz.prog 9 w b n (mapC C)) (k : Bs) (hk : k.length ≤ maxLen) (hn : n < maxLen) (c : Nat) :
    ∃ w', (Instr.mapUpdate 219 (.map (some b)) (.string ⟨k.toArray⟩) (.int .i64 (c : Nat))).run Tryz.prog w = .ok () w' ∧ Ax (MapF Tryz.prog 9 w' b (n + 1) (mapC (upd C k (some c))) ∧ w.grownBy w' (some b)) := by
  obtain ⟨w', h1, h2, h3⟩ := h.store Tryz.underlying9 Tryz.underlying219 hn ⟨k.toArray⟩ (by rw [size_mk]; exact hk) (.int .i64 (c : Nat))
  try rw [data_mk] at h2
  refine ⟨w', h1, ?_, h3.grown⟩
  rw [← mapC_upd]; exact h2
theorem cnt_drop {w : World} {b n : Nat} {C : Bs → Option Nat} (h : MapF Tryz.prog 9 w b n (mapC C)) (k : Bs) (hk : k.length ≤ maxLen) (ty : TypeId) :
    ∃ w', (Builtin.delete_ #[219, 9] ty #[.map (some b), .string ⟨k.toArray⟩]).run Tryz.prog w = .ok (.tuple #[]) w' ∧ Ax (MapF Tryz.prog 9 w' b n (mapC (upd C k none)) ∧ w.grownBy w' (some b)) := by
  obtain ⟨w', h1, h2, h3⟩ := h.drop Tryz.underlying9 Tryz.underlying219 ⟨k.toArray⟩ (by rw [size_mk]; exact hk) ty
  try rw [data_mk] at h2
  refine ⟨w', h1, ?_, h3.grown⟩
  rw [← mapC_del]; exact h2
/-- The first loop: the counts of the first points. -/
structure Fs (f : Gr) (P : List Bs) (bl : Nat) (wB : World) (i : Nat) (vf : Value) (W : World) : Prop where
  gr : wB.grownBy W (some bl)
  ex : ∃ (C : Bs → Option Nat) (fr : List Bs), MapF Tryz.prog 9 W bl i (mapC C) ∧ (∀ k, C k ≠ none ↔ k ∈ P.take i) ∧ (∀ k c, C k = some c → c = ((f k).getD []).length) ∧
    W.ownsRow wB.heap.size 9 1 vf fr.length (fr.map encStr) ∧ fr = (P.take i).filter fun k => decide (((f k).getD []).length = 0)
theorem rows_ne {w w' : World} {m : Nat} {es : Array MapEntry} {c : Nat} (hm : w.heap[m]? = some (.map es c)) (hk : w.grownBy w' (some m)) {B : Nat} {v : Value} {n : Nat} {xs : List Value} (h : w.ownsRow B 9 1 v n xs) : w'.ownsRow B 9 1 v n xs :=
  row_kept h fun b cs t fr hb _ _ => hk.block b (blk_lt' hb) fun e => by cases e; rw [hb] at hm; cases hm
theorem grown_row {wB W W' : World} {bl : Nat} {o : Option Nat} (h : wB.grownBy W (some bl)) (k : W.grownBy W' o) (ho : ∀ g, o = some g → g = bl ∨ wB.heap.size ≤ g) : wB.grownBy W' (some bl) :=
  ⟨k.os.trans h.os, k.tape.trans h.tape, k.output.trans h.output, Nat.le_trans h.size k.size, fun i hi hr => (k.block i (Nat.lt_of_lt_of_le hi h.size) fun e => by
    rcases ho i e.symm with h1 | h1
    · exact hr (by rw [h1])
    · omega).trans (h.block i hi hr)⟩
theorem cell_mapne {w : World} {m g i : Nat} {x : Value} {es : Array MapEntry} {c : Nat} (hm : w.heap[m]? = some (.map es c)) (h : w.cell? ⟨g, i, none⟩ = some x) : g ≠ m := fun e => by
  subst e
  simp [World.cell?, hm] at h
/-- Between two points. -/
structure Os (wA : World) (bl nl : Nat) (out : List Bs) (C : Bs → Option Nat) (fr : List Bs) (vl vf : Value) (W : World) : Prop where
  gr : wA.grownBy W (some bl)
  mp : MapF Tryz.prog 9 W bl nl (mapC C)
  rl : W.ownsRow wA.heap.size 9 1 vl out.length (out.map encStr)
  rf : RdS W 0 vf fr
  ne : ∀ g, vl.ownBlock = some g → vf.ownBlock ≠ some g
theorem hyp0 {w : World} {l : List Bs} {x : Bs} {t : TypeId} : ∀ (w1 : World) (v : Value), Ax (w1.ownsRow w.heap.size 9 1 v l.length (l.map encStr) ∧ Below w.heap.size w w1) → InsHyp w (w1.alloc (.cells #[encStr x] t)) v w1.heap.size l x := fun w1 v h =>
  ⟨below_upG h.out.2 (Nat.le_refl _) ((Below.refl _ w1).alloc (Nat.le_refl _) _), row_below h.out.1 ((Below.refl _ w1).alloc (Nat.le_refl _) _), ⟨t, heap_alloc_new w1 _⟩, fun g hg => by have := (row_lt h.out.1 hg).2; omega⟩
theorem ins_hyp {w W : World} {v : Value} {vb : Nat} {l : List Bs} {x : Bs} (hH : InsHyp w W v vb l x) (hl : l.length ≤ 1073741824) :
    Calls Tryz.prog 159 #[v, .int .i64 (pos l x : Nat), .slice (some ⟨vb, 0, none⟩) 1 1] W fun e w' => ∃ v3, e = .returned v3 ∧ Ax (w'.ownsRow w.heap.size 9 1 v3 (insB l x).length ((insB l x).map encStr) ∧ Below w.heap.size w w') := by
  obtain ⟨t, hblk⟩ := hH.blk
  refine (insert_any hH.row hH.bel.size hl (pos l x) (pos_le l x) x vb t hblk hH.ne).mono fun e w' ⟨v3, he, hrow, hg⟩ => ⟨v3, he, ⟨hrow, ?_⟩⟩
  refine ⟨hg.os.trans hH.bel.os, hg.tape.trans hH.bel.tape, hg.output.trans hH.bel.output, Nat.le_trans hH.bel.size hg.size, fun k hk => (hg.block k (Nat.lt_of_lt_of_le hk hH.bel.size) fun e => ?_).trans (hH.bel.block k hk)⟩
  have := (row_lt hH.row e.symm).1
  omega
theorem own_ne {w : World} {m : Nat} {es : Array MapEntry} {c : Nat} (hm : w.heap[m]? = some (.map es c)) {B : Nat} {v : Value} {n : Nat} {xs : List Value} (h : w.ownsRow B 9 1 v n xs) : some m ≠ v.ownBlock := fun e => by
  obtain ⟨h1, ⟨rfl, h2⟩ | ⟨g, cap, cur, rfl, h3, h4, _⟩⟩ := h
  · cases e
  · cases e; rw [h4] at hm; cases hm
theorem fs_plain {f : Gr} {P : List Bs} {i : Nat} {k : Bs} (hk : P[i]? = some k) {C : Bs → Option Nat} {fr : List Bs} (hdom : ∀ k, C k ≠ none ↔ k ∈ P.take i) (hval : ∀ k c, C k = some c → c = ((f k).getD []).length) (hfr : fr = (P.take i).filter fun k => decide (((f k).getD []).length = 0)) {c : Nat} (hc : ((f k).getD []).length = c) :
    (∀ x, upd C k (some c) x ≠ none ↔ x ∈ P.take (i + 1)) ∧ (∀ x d, upd C k (some c) x = some d → d = ((f x).getD []).length) ∧
    (c = 0 → fr ++ [k] = (P.take (i + 1)).filter fun k => decide (((f k).getD []).length = 0)) ∧ (c ≠ 0 → fr = (P.take (i + 1)).filter fun k => decide (((f k).getD []).length = 0)) := by
  have e : P.take (i + 1) = P.take i ++ [k] := by rw [List.take_add_one, hk]; rfl
  refine ⟨fun x => ?_, fun x d hd => ?_, fun h0 => ?_, fun h0 => ?_⟩
  · rw [take_mem hk, ← hdom x]
    by_cases hx : x = k
    · subst hx; rw [upd_same]; simp
    · rw [upd_ne _ _ hx]; simp [hx]
  · by_cases hx : x = k
    · subst hx; rw [upd_same] at hd; cases hd; exact hc.symm
    · rw [upd_ne _ _ hx] at hd; exact hval x d hd
  · rw [e, List.filter_append, ← hfr]
    congr 1
    rw [List.filter_cons_of_pos (by rw [hc, h0]; rfl)]; rfl
  · rw [e, List.filter_append, ← hfr, List.filter_cons_of_neg (by rw [hc]; simpa using h0)]
    simp
theorem fs_next {f : Gr} {P : List Bs} {bl i : Nat} {wB wr w4 w5 w6 : World} {v6 v' : Value} {k : Bs} (hM : Fs f P bl wB i v6 wr) (hk : P[i]? = some k) {C : Bs → Option Nat} {fr' : List Bs} (hB4 : Below wr.heap.size wr w4) (h5 : Ax (MapF Tryz.prog 9 w5 bl (i + 1) (mapC C) ∧ w4.grownBy w5 (some bl)))
    {o : Option Nat} (hg : w5.grownBy w6 o) (ho : ∀ g, o = some g → wB.heap.size ≤ g ∧ g ≠ bl) (h1 : ∀ x, C x ≠ none ↔ x ∈ P.take (i + 1)) (h2 : ∀ x d, C x = some d → d = ((f x).getD []).length) (h3 : fr' = (P.take (i + 1)).filter fun k => decide (((f k).getD []).length = 0)) (hr : w6.ownsRow wB.heap.size 9 1 v' fr'.length (fr'.map encStr)) : Fs f P bl wB (i + 1) v' w6 :=
  ⟨grown_row (grown_trans (grown_trans hM.gr (grown_below _ hB4)) h5.out.2) hg fun g e => .inr (ho g e).1, C, fr', h5.out.1.keptB (hg.block _ h5.out.1.lt fun e => (ho bl e.symm).2 rfl), h1, h2, hr, h3⟩
theorem wpList_del (w : World) {ops : Array Oper} {rest : List Oper} {o : Oper} {a : Act} {Q : Exit → Act → World → Prop} (hg : o.guard = none) (m x : Operand) (hop : o.op = Op.call { callee := Callee.builtin Builtin.delete, args := #[m, x], argTypes := #[219, 9] })
    (bl n : Nat) (C : Bs → Option Nat) (k : Bs) (hk : k.length ≤ maxLen) (hm : a.eval m = .map (some bl)) (hx : a.eval x = .string ⟨k.toArray⟩) (h : MapF Tryz.prog 9 w bl n (mapC C))
    (hK : ∀ w', Ax (MapF Tryz.prog 9 w' bl n (mapC (upd C k none)) ∧ w.grownBy w' (some bl)) → wpList Tryz.prog ops Q rest (a.put o.dst (.tuple #[])) w') : wpList Tryz.prog ops Q (o :: rest) a w := by
  refine wpList_plain hg fun K' hK' => ?_
  obtain ⟨w', hrun, r⟩ := cnt_drop h k hk o.type
  unfold Oper.wp
  simp [execOp, hop, resolve, invoke, builtin, hm, hx, hrun, Result.andThen]
  exact hK' _ _ (hK w' r)
/-- The count goes down. -/
theorem os_map {wA W W' : World} {bl nl : Nat} {out : List Bs} {C C' : Bs → Option Nat} {fr : List Bs} {vl vf : Value} (h : Os wA bl nl out C fr vl vf W) (h' : Ax (MapF Tryz.prog 9 W' bl (nl + 1) (mapC C') ∧ W.grownBy W' (some bl))) : Os wA bl (nl + 1) out C' fr vl vf W' := by
  obtain ⟨es, c, hm⟩ := h.mp.blk
  exact ⟨grown_trans h.gr h'.out.2, h'.out.1, rows_ne hm h'.out.2 h.rl, h.rf.map h'.out.2 hm, h.ne⟩
theorem os_below {wA W W' : World} {bl nl : Nat} {out : List Bs} {C : Bs → Option Nat} {fr : List Bs} {vl vf : Value} (h : Os wA bl nl out C fr vl vf W) (hB : Below W.heap.size W W') : Os wA bl nl out C fr vl vf W' :=
  ⟨grown_trans h.gr (grown_below _ hB), h.mp.keptB (hB.block _ h.mp.lt), row_below h.rl hB, h.rf.below hB, h.ne⟩
/-- Another list of free points. -/
theorem os_free {wA W W' : World} {bl nl : Nat} {out : List Bs} {C : Bs → Option Nat} {fr fr' : List Bs} {vl vf v3 : Value} (h : Os wA bl nl out C fr vl vf W) (hB : Below W.heap.size W W') (hr : W'.ownsRow W.heap.size 9 1 v3 fr'.length (fr'.map encStr)) : Os wA bl nl out C fr' vl v3 W' :=
  have h' := os_below h hB
  ⟨h'.gr, h'.mp, h'.rl, row_rd (row_base hr (Nat.zero_le _)), fun g hg e => by
    have h1 := (row_lt hr e).1
    have h2 := (row_lt h.rl hg).2
    omega⟩
/-- A point is taken out. -/
theorem os_pop {wA W w1 w2 w3 : World} {bl nl : Nat} {out r : List Bs} {C : Bs → Option Nat} {k : Bs} {vl vl' vf vf' : Value} {x : Obj} (h : Os wA bl nl out C (k :: r) vl vf W) (hB1 : Below W.heap.size W w1) (hrd : RdS w1 0 vf' r) (hown : vf'.ownBlock = vf.ownBlock)
    (hrow : w2.ownsRow wA.heap.size 9 1 vl' (out ++ [k]).length ((out ++ [k]).map encStr)) (hg : (w1.alloc x).grownBy w2 vl.ownBlock) (hloc : vl'.ownBlock = vl.ownBlock ∨ vl'.ownBlock = some (w1.alloc x).heap.size)
    (h3 : Ax (MapF Tryz.prog 9 w3 bl nl (mapC (upd C k none)) ∧ w2.grownBy w3 (some bl))) : Os wA bl nl (out ++ [k]) (upd C k none) r vl' vf' w3 := by
  have hO1 := os_below h hB1
  obtain ⟨es, c, hm⟩ := hO1.mp.blk
  have hg' : w1.grownBy w2 vl.ownBlock := grown_trans (grown_below _ ((Below.refl _ w1).alloc (Nat.le_refl _) x)) hg
  have hm2 : w2.heap[bl]? = some (.map es c) := (hg'.block bl hO1.mp.lt (own_ne hm hO1.rl)).trans hm
  have hrd2 : RdS w2 0 vf' r := hrd.kept hg'.size fun b cs t fr hb hv => hg'.block b (blk_lt' hb) fun e => h.ne b e.symm (by rw [← hown]; exact hv)
  refine ⟨grown_trans (grown_row hO1.gr hg' fun g e => .inr (row_lt hO1.rl e).1) h3.out.2, h3.out.1, rows_ne hm2 h3.out.2 hrow, hrd2.map h3.out.2 hm2, fun g hgv hf => ?_⟩
  rw [hown] at hf
  rcases hloc with e | e
  · exact h.ne g (e ▸ hgv) hf
  · rw [e] at hgv
    cases hgv
    have := h.rf.lt hf
    have h2 := hB1.size
    simp at this
    omega
end Go.Proofs.YtmdimhcjogjcgaaGreatDoor.Gr
