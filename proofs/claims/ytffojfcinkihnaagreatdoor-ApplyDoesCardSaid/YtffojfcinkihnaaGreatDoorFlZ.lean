/- apply.Fill: what is filled in memory of one's own. -/
import Derived.Test.YtffojfcinkihnaaGreatDoorCpZ
import Derived.Deep.RegionHeld3
import Derived.Deep.MidRow
set_option linter.unusedVariables false
set_option linter.unusedSimpArgs false
set_option linter.unusedSectionVars false
set_option linter.deprecated false
set_option linter.unnecessarySimpa false
namespace Go.Proofs.YtffojfcinkihnaaGreatDoor.Lat.Fl
open Go.RowKit Go.Lib Go.Proofs.YtffojfcinkihnaaGreatDoor.Abs Go.Proofs.YtffojfcinkihnaaGreatDoor.Lat.Cp
set_option maxHeartbeats 4000000 in
set_option maxRecDepth 100000 in
theorem next_any (w : World) (bu bp used : Nat) (picks : List Int) (A : Option Addr) (cap : Nat) (tu tp : TypeId) (hl : picks.length ≤ 1073741824) (hu : used ≤ picks.length)
    (h1 : w.heap[bu]? = some (.cells #[.int .i64 used] tu (0, 0))) (h2 : w.heap[bp]? = some (.cells #[.slice A picks.length cap] tp (0, 0)))
    (h3 : ∀ (j : Nat) (n : Int), picks[j]? = some n → ∃ a, A = some a ∧ w.cell? (a.add j) = some (.int .i64 n) ∧ a.block ≠ bu) :
    Calls Tryz.prog 79 #[.pointer (some ⟨bu, 0, none⟩), .pointer (some ⟨bp, 0, none⟩)] w fun e w' => e = .returned (.int .i64 (picks.getD used 0)) ∧ w' = (if used < picks.length then w.setCell ⟨bu, 0, none⟩ (.int .i64 ((used + 1 : Nat) : Int)) else w) := by
  have q1 : w.cell? ⟨bu, 0, none⟩ = some (.int .i64 used) := by rw [cell_of h1]; rfl
  have q2 : w.cell? ⟨bp, 0, none⟩ = some (.slice A picks.length cap) := by rw [cell_of h2]; rfl
  have q3 := frozen_of_row w bu 0 _ _ h1
  by_cases h : used < picks.length
  · have hd : ¬ (used : Int) = (picks.length : Int) := by omega
    obtain ⟨a, rfl, h4, h5⟩ := h3 used _ (List.getElem?_eq_getElem h)
    have hg : picks.getD used 0 = picks[used] := by simp [h]
    rw [hg]
    generalize picks[used] = r at *
    have hne : bp ≠ bu := by rintro rfl; rw [h1] at h2; cases h2
    have r1 : (w.setCell ⟨bu, 0, none⟩ (.int .i64 ((used : Int) + 1))).cell? ⟨bp, 0, none⟩ = some (.slice (some a) picks.length cap) := by
      rw [cell_heap (Below.heap_setCell w _ _ bp hne)]; exact q2
    have r2 : (w.setCell ⟨bu, 0, none⟩ (.int .i64 ((used : Int) + 1))).cell? ⟨bu, 0, none⟩ = some (.int .i64 ((used : Int) + 1)) := by
      rw [cell_of (heap_setCell_same w bu 0 _ _ _ h1)]; rfl
    have r3 : (w.setCell ⟨bu, 0, none⟩ (.int .i64 ((used : Int) + 1))).cell? (a.add used) = some (.int .i64 r) := by
      have hb : (w.setCell ⟨bu, 0, none⟩ (.int .i64 ((used : Int) + 1))).heap[(a.add used).block]? = w.heap[(a.add used).block]? := Below.heap_setCell w _ _ _ (by unfold Addr.add; split <;> exact h5)
      rw [World.cell?_of_block hb]; exact h4
    clear h1 h2 h3
    go_enter Tryz.func79, Tryz.ntmps79
    go_wp2_with fail
    go_ret
    exact ⟨rfl, rfl⟩
  · obtain rfl : used = picks.length := by omega
    have hg : picks.getD picks.length 0 = 0 := by simp
    rw [hg, if_neg h]
    clear h1 h2 h3
    go_enter Tryz.func79, Tryz.ntmps79
    go_wp2_with fail
    go_ret
    exact ⟨rfl, rfl⟩
/-- Nothing but these blocks has changed. -/
structure Keep (fp : List Nat) (bu : Nat) (w w' : World) : Prop where
  os : w'.os = w.os
  tape : w'.tape = w.tape
  output : w'.output = w.output
  size : w.heap.size ≤ w'.heap.size
  block : ∀ k, k < w.heap.size → k ∉ fp → k ≠ bu → w'.heap[k]? = w.heap[k]?
theorem Keep.refl (fp : List Nat) (bu : Nat) (w : World) : Keep fp bu w w := ⟨rfl, rfl, rfl, Nat.le_refl _, fun _ _ _ _ => rfl⟩
theorem Keep.trans {fp fq fr : List Nat} {bu : Nat} {w w' w'' : World} (h : Keep fp bu w w') (k : Keep fq bu w' w'') (hp : ∀ x ∈ fp, x ∈ fr) (hq : ∀ x ∈ fq, x ∈ fr) : Keep fr bu w w'' :=
  ⟨k.os.trans h.os, k.tape.trans h.tape, k.output.trans h.output, Nat.le_trans h.size k.size, fun x hx h1 h2 =>
    (k.block x (Nat.lt_of_lt_of_le hx h.size) (fun c => h1 (hq x c)) h2).trans (h.block x hx (fun c => h1 (hp x c)) h2)⟩
theorem Keep.below {fp : List Nat} {bu : Nat} {w w' : World} (h : Below w.heap.size w w') : Keep fp bu w w' := ⟨h.os, h.tape, h.output, h.size, fun k hk _ _ => h.block k hk⟩
theorem Keep.put {fp : List Nat} {bu b i : Nat} {w w' : World} (h : Keep fp bu w w') (hb : b ∈ fp ∨ b = bu ∨ w.heap.size ≤ b) (u : Value) : Keep fp bu w (w'.setCell ⟨b, i, none⟩ u) :=
  ⟨h.os, h.tape, h.output, by simpa [World.setCell] using h.size, fun k hk h1 h2 => (Below.heap_setCell w' _ u k (by
    rintro rfl
    rcases hb with hb | hb | hb
    · exact h1 hb
    · exact h2 hb
    · exact absurd hk (by simp; omega))).trans (h.block k hk h1 h2)⟩
/-- The closure's state. -/
structure Pk (picks : List Int) (bu bp : Nat) (fp : List Nat) (u : Nat) (w : World) : Prop where
  hu : u ≤ picks.length
  ct : ∃ t, w.heap[bu]? = some (.cells #[.int .i64 u] t (0, 0))
  pk : ∃ A cap t, w.heap[bp]? = some (.cells #[.slice A picks.length cap] t (0, 0)) ∧ ∀ (j : Nat) (n : Int), picks[j]? = some n → ∃ a, A = some a ∧ w.cell? (a.add j) = some (.int .i64 n) ∧ a.block ≠ bu ∧ a.block ∉ fp
  nu : bu ∉ fp
  np : bp ∉ fp
theorem Pk.ne {picks : List Int} {bu bp u : Nat} {fp : List Nat} {w : World} (h : Pk picks bu bp fp u w) : bp ≠ bu := by
  rintro rfl
  obtain ⟨t, h1⟩ := h.ct
  obtain ⟨A, cap, t2, h2, _⟩ := h.pk
  rw [h1] at h2; cases h2
theorem Pk.keep {picks : List Int} {bu bp u : Nat} {fp : List Nat} {w w' : World} (h : Pk picks bu bp fp u w) (hk : ∀ k, k < w.heap.size → k ∉ fp → w'.heap[k]? = w.heap[k]?) : Pk picks bu bp fp u w' := by
  obtain ⟨t, h1⟩ := h.ct
  obtain ⟨A, cap, t2, h2, h3⟩ := h.pk
  refine ⟨h.hu, ⟨t, (hk bu (blk_lt h1) h.nu).trans h1⟩, ⟨A, cap, t2, (hk bp (blk_lt h2) h.np).trans h2, fun j n hj => ?_⟩, h.nu, h.np⟩
  obtain ⟨a, e, h4, h5, h6⟩ := h3 j n hj
  refine ⟨a, e, ?_, h5, h6⟩
  have hb : (a.add j).block = a.block := by unfold Addr.add; split <;> rfl
  rw [World.cell?_of_block (hk (a.add j).block (World.block_lt_of_cell? w _ h4) (by rw [hb]; exact h6))]; exact h4
/-- The next number. -/
theorem Pk.next {picks : List Int} {bu bp u : Nat} {fp : List Nat} {w : World} (h : Pk picks bu bp fp u w) (hl : picks.length ≤ 1073741824) :
    Calls Tryz.prog 79 #[.pointer (some ⟨bu, 0, none⟩), .pointer (some ⟨bp, 0, none⟩)] w fun e w' => e = .returned (.int .i64 ((picks.drop u).headD 0)) ∧ Keep [] bu w w' ∧ ∃ u', (picks.drop u).tail = picks.drop u' ∧ Pk picks bu bp fp u' w' := by
  obtain ⟨t, h1⟩ := h.ct
  obtain ⟨A, cap, t2, h2, h3⟩ := h.pk
  refine (next_any w bu bp u picks A cap t t2 hl h.hu h1 h2 fun j n hj => ?_).mono fun e w' he => ?_
  · obtain ⟨a, e, h4, h5, _⟩ := h3 j n hj
    exact ⟨a, e, h4, h5⟩
  · obtain ⟨rfl, rfl⟩ := he
    have hd : (picks.drop u).headD 0 = picks.getD u 0 := by simp [List.headD_eq_head?_getD, List.head?_drop, List.getD_eq_getElem?_getD]
    refine ⟨by rw [hd], ?_, ?_⟩
    · split
      · exact (Keep.refl _ _ _).put (.inr (.inl rfl)) _
      · exact Keep.refl _ _ _
    · by_cases hlt : u < picks.length
      · rw [if_pos hlt]
        refine ⟨u + 1, by rw [List.tail_drop], ⟨by omega, ⟨t, heap_setCell_same w bu 0 _ _ _ h1⟩, ⟨A, cap, t2, (Below.heap_setCell w _ _ bp h.ne).trans h2, fun j n hj => ?_⟩, h.nu, h.np⟩⟩
        obtain ⟨a, e, h4, h5, h6⟩ := h3 j n hj
        refine ⟨a, e, ?_, h5, h6⟩
        have hb : (a.add j).block = a.block := by unfold Addr.add; split <;> rfl
        rw [World.cell?_of_block (Below.heap_setCell w _ _ _ (by rw [hb]; exact h5))]; exact h4
      · rw [if_neg hlt]
        exact ⟨u, by rw [List.drop_eq_nil_of_le (by omega)]; rfl, h⟩
section
variable (N : Int → Bs)
def in64 (p : Int) : Prop := -9223372036854775808 ≤ p ∧ p < 9223372036854775808
def FirmOK : Prop := ∀ (k lo hi : Int) (sb : ByteArray) (a o : Bool) (fv : Value) (p : Int) (W : World), scal (.mk k lo hi sb.data.toList a true o []) = true → OF W 0 fv [] [] → in64 p →
  Calls Tryz.prog 117 #[.agg #[.int .i64 k, .int .i64 lo, .int .i64 hi, .string sb, .bool a, .bool true, .bool o, fv], .int .i64 p] W fun e w' => Below W.heap.size W w' ∧
    ∃ (k' lo' hi' : Int) (sb' : ByteArray) (a' m' o' : Bool) (fn : Option Addr) (cap : Nat), firm N (.mk k lo hi sb.data.toList a true o []) p = .mk k' lo' hi' sb'.data.toList a' m' o' [] ∧ (fn = none → cap = 0) ∧
      e = .returned (.agg #[.int .i64 k', .int .i64 lo', .int .i64 hi', .string sb', .bool a', .bool m', .bool o', .slice fn 0 cap])
def FillPost (picks : List Int) (bu bp : Nat) (fp : List Nat) (B : Nat) (v : Value) (ts : List Tm) (u : Nat) (w : World) (e : Ending) (w' : World) : Prop :=
  e = .returned (.tuple #[]) ∧ Keep fp bu w w' ∧ OV w' B v (fiL N ts (picks.drop u)).1 fp ∧ ∃ u', (fiL N ts (picks.drop u)).2 = picks.drop u' ∧ Pk picks bu bp fp u' w'
structure Nine where
  k : Int
  lo : Int
  hi : Int
  sb : ByteArray
  a : Bool
  m : Bool
  o : Bool
  fn : Option Addr
  cap : Nat
structure Got (picks : List Int) (bu bp b u : Nat) (vs : Array Value) (ty : TypeId) (n : Nat) (wP W : World) : Prop where
  e1 : W.heap[n]? = wP.heap[n]?
  e2 : W.heap[n + 1]? = wP.heap[n + 1]?
  e3 : W.heap[b]? = some (.cells vs ty (0, 0))
  kp : Keep [] bu wP.drew W
  pk : ∃ u', (picks.drop u).tail = picks.drop u' ∧ Pk picks bu bp (b :: ([] ++ [])) u' W
theorem Got.next {picks : List Int} {bu bp b u n : Nat} {vs : Array Value} {ty : TypeId} {wP W W' : World} (h : Got picks bu bp b u vs ty n wP W) (hn : n + 1 < wP.heap.size) (hB : Below W.heap.size W W') : Got picks bu bp b u vs ty n wP W' := by
  have hs : wP.heap.size ≤ W.heap.size := h.kp.size
  obtain ⟨u', h1, h2⟩ := h.pk
  exact ⟨(hB.block _ (by omega)).trans h.e1, (hB.block _ (by omega)).trans h.e2, (hB.block _ (blk_lt h.e3)).trans h.e3, h.kp.trans (fq := []) (Keep.below hB) (by simp) (by simp), u', h1, h2.keep fun k hk _ => hB.block k hk⟩
theorem setCells_other (b : Nat) : ∀ (vs : List Value) (o : Nat) (W : World) (k : Nat), k ≠ b → (W.setCells b o vs).heap[k]? = W.heap[k]?
  | [], _, _, _, _ => rfl
  | v :: r, o, W, k, h => by
    show ((W.setCell ⟨b, o, none⟩ v).setCells b (o + 1) r).heap[k]? = _
    rw [setCells_other b r (o + 1) _ k h, Below.heap_setCell _ _ _ _ h]
theorem chain8 (W : World) (b k : Nat) (h : k ≠ b) (v0 v1 v2 v3 v4 v5 v6 v7 : Value) : ((((((((W.setCell ⟨b, 0, none⟩ v0).setCell ⟨b, 1, none⟩ v1).setCell ⟨b, 2, none⟩ v2).setCell ⟨b, 3, none⟩ v3).setCell ⟨b, 4, none⟩ v4).setCell ⟨b, 5, none⟩ v5).setCell ⟨b, 6, none⟩ v6).setCell ⟨b, 7, none⟩ v7).heap[k]? = W.heap[k]? :=
  setCells_other b [v0, v1, v2, v3, v4, v5, v6, v7] 0 W k h
theorem Got.there {picks : List Int} {bu bp b u n cap : Nat} {vs : Array Value} {ty : TypeId} {wP W : World} (h : Got picks bu bp b u vs ty n wP W) (hv : vs.size = cap * 8) (hc : 1 ≤ cap) : W.there b 0 8 := fun j hj => by
  refine ⟨?_, frozen_of_row W b _ _ _ h.e3⟩
  rw [cell_of h.e3]
  have : j < vs.size := by omega
  simp [this]
theorem Got.cells {picks : List Int} {bu bp b u n cap : Nat} {vs : Array Value} {ty : TypeId} {wP W : World} (h : Got picks bu bp b u vs ty n wP W) (hv : vs.size = cap * 8) (hc : 1 ≤ cap) :
    W.cell? ⟨b, 0, none⟩ = some (vs.getD 0 undef) ∧ W.cell? ⟨b, 1, none⟩ = some (vs.getD 1 undef) ∧ W.cell? ⟨b, 2, none⟩ = some (vs.getD 2 undef) ∧ W.cell? ⟨b, 3, none⟩ = some (vs.getD 3 undef) ∧
    W.cell? ⟨b, 4, none⟩ = some (vs.getD 4 undef) ∧ W.cell? ⟨b, 5, none⟩ = some (vs.getD 5 undef) ∧ W.cell? ⟨b, 6, none⟩ = some (vs.getD 6 undef) ∧ W.cell? ⟨b, 7, none⟩ = some (vs.getD 7 undef) ∧
    W.frozen? ⟨b, 0, none⟩ = false ∧ W.frozen? ⟨b, 1, none⟩ = false ∧ W.frozen? ⟨b, 2, none⟩ = false ∧ W.frozen? ⟨b, 3, none⟩ = false ∧ W.frozen? ⟨b, 4, none⟩ = false ∧ W.frozen? ⟨b, 5, none⟩ = false ∧ W.frozen? ⟨b, 6, none⟩ = false ∧ W.frozen? ⟨b, 7, none⟩ = false := by
  have c : ∀ j, j < 8 → W.cell? ⟨b, j, none⟩ = some (vs.getD j undef) := fun j hj => by
    rw [cell_of h.e3]
    have : j < vs.size := by omega
    simp [Array.getD_eq_getD_getElem?, this]
  have f : ∀ j, W.frozen? ⟨b, j, none⟩ = false := fun j => frozen_of_row W b j _ _ h.e3
  exact ⟨c 0 (by omega), c 1 (by omega), c 2 (by omega), c 3 (by omega), c 4 (by omega), c 5 (by omega), c 6 (by omega), c 7 (by omega), f 0, f 1, f 2, f 3, f 4, f 5, f 6, f 7⟩
theorem Got.fin {picks : List Int} {bu bp b u n cap : Nat} {vs : Array Value} {ty : TypeId} {wP W : World} (h : Got picks bu bp b u vs ty n wP W) (hv : vs.size = cap * 8) (hc : 1 ≤ cap) (v0 v1 v2 v3 v4 v5 v6 v7 : Value) :
    ∃ vs', ((((((((W.setCell ⟨b, 0, none⟩ v0).setCell ⟨b, 1, none⟩ v1).setCell ⟨b, 2, none⟩ v2).setCell ⟨b, 3, none⟩ v3).setCell ⟨b, 4, none⟩ v4).setCell ⟨b, 5, none⟩ v5).setCell ⟨b, 6, none⟩ v6).setCell ⟨b, 7, none⟩ v7).heap[b]? = some (.cells vs' ty (0, 0)) ∧ vs'.size = cap * 8 ∧
      vs'[0]? = some v0 ∧ vs'[1]? = some v1 ∧ vs'[2]? = some v2 ∧ vs'[3]? = some v3 ∧ vs'[4]? = some v4 ∧ vs'[5]? = some v5 ∧ vs'[6]? = some v6 ∧ vs'[7]? = some v7 := by
  refine ⟨_, heap_setCell_same _ b 7 _ ty v7 (heap_setCell_same _ b 6 _ ty v6 (heap_setCell_same _ b 5 _ ty v5 (heap_setCell_same _ b 4 _ ty v4 (heap_setCell_same _ b 3 _ ty v3 (heap_setCell_same _ b 2 _ ty v2 (heap_setCell_same _ b 1 _ ty v1 (heap_setCell_same _ b 0 _ ty v0 h.e3))))))), by simp [hv], ?_⟩
  have h8 : 7 < vs.size := by omega
  refine ⟨?_, ?_, ?_, ?_, ?_, ?_, ?_, ?_⟩
  all_goals (simp [Array.getElem?_setIfInBounds]; try first | omega | (rintro rfl; simp at h8))
theorem Keep.put8 {fp : List Nat} {bu b : Nat} {w W : World} (h : Keep fp bu w W) (hb : b ∈ fp) (v0 v1 v2 v3 v4 v5 v6 v7 : Value) :
    Keep fp bu w ((((((((W.setCell ⟨b, 0, none⟩ v0).setCell ⟨b, 1, none⟩ v1).setCell ⟨b, 2, none⟩ v2).setCell ⟨b, 3, none⟩ v3).setCell ⟨b, 4, none⟩ v4).setCell ⟨b, 5, none⟩ v5).setCell ⟨b, 6, none⟩ v6).setCell ⟨b, 7, none⟩ v7) :=
  (((((((h.put (.inl hb) v0).put (.inl hb) v1).put (.inl hb) v2).put (.inl hb) v3).put (.inl hb) v4).put (.inl hb) v5).put (.inl hb) v6).put (.inl hb) v7
theorem Pk.sub {picks : List Int} {bu bp u : Nat} {fp fq : List Nat} {w : World} (h : Pk picks bu bp fp u w) (hs : ∀ x ∈ fq, x ∈ fp) : Pk picks bu bp fq u w := by
  obtain ⟨A, cap, t2, h2, h3⟩ := h.pk
  exact ⟨h.hu, h.ct, ⟨A, cap, t2, h2, fun j n hj => by
    obtain ⟨a, e, h4, h5, h6⟩ := h3 j n hj
    exact ⟨a, e, h4, h5, fun c => h6 (hs _ c)⟩⟩, fun c => h.nu (hs _ c), fun c => h.np (hs _ c)⟩
theorem Pk.grow {picks : List Int} {bu bp u u' : Nat} {fp fq : List Nat} {w w' : World} (h : Pk picks bu bp fp u w) (k : Pk picks bu bp fq u' w') (hk : Keep fq bu w w') (hs : ∀ x ∈ fq, x ∈ fp) : Pk picks bu bp fp u' w' := by
  obtain ⟨A, cap, t2, h2, h3⟩ := h.pk
  refine ⟨k.hu, k.ct, ⟨A, cap, t2, (hk.block bp (blk_lt h2) (fun c => h.np (hs _ c)) h.ne).trans h2, fun j n hj => ?_⟩, h.nu, h.np⟩
  obtain ⟨a, e, h4, h5, h6⟩ := h3 j n hj
  refine ⟨a, e, ?_, h5, h6⟩
  have hb : (a.add j).block = a.block := by unfold Addr.add; split <;> rfl
  rw [World.cell?_of_block (hk.block (a.add j).block (World.block_lt_of_cell? w _ h4) (by rw [hb]; exact fun c => h6 (hs _ c)) (by rw [hb]; exact h5))]; exact h4
theorem rc_get (R : Bs → Bool) : ∀ {fs : List Fd} {i : Nat} {n : Bs} {v : List Tm}, fs[i]? = some (.mk n v) → rcF R fs = true → seF true fs = true → rcL R v = true ∧ seL true v = true
  | [], i, n, v, h, _, _ => by simp at h
  | .mk n' v' :: r, 0, n, v, h, h1, h2 => by
    simp at h
    obtain ⟨rfl, rfl⟩ := h
    rw [rcF] at h1
    rw [seF] at h2
    simp only [Bool.and_eq_true] at h1 h2
    exact ⟨h1.1.2.1.1, h2.1⟩
  | .mk n' v' :: r, i + 1, n, v, h, h1, h2 => by
    rw [rcF] at h1
    rw [seF] at h2
    simp only [Bool.and_eq_true] at h1 h2
    exact rc_get R (fs := r) (i := i) (by simpa using h) h1.2 h2.2
/-- The row of fields: the first i are filled. -/
structure FI (N : Int → Bs) (picks : List Int) (bu bp B u : Nat) (fs : List Fd) (vs : Array Value) (fp fpr : List Nat) (wP : World) (i : Nat) (W : World) : Prop where
  kp : Keep fpr bu wP W
  row : ∃ g1 g2 done u', g1 ++ g2 = fpr ∧ OFs W B vs 0 done g1 ∧ OFs W B vs (i * 2) (fs.drop i) g2 ∧ done.length = i ∧
    fiF N fs (picks.drop u) = (done ++ (fiF N (fs.drop i) (picks.drop u')).1, (fiF N (fs.drop i) (picks.drop u')).2) ∧ Pk picks bu bp fp u' W
theorem FI.start {N : Int → Bs} {picks : List Int} {bu bp B u : Nat} {fs : List Fd} {vs : Array Value} {fp fpr : List Nat} {w wP : World} (hB : Below w.heap.size w wP) (hO : OFs w B vs 0 fs fpr) (hP : Pk picks bu bp fp u w) : FI N picks bu bp B u fs vs fp fpr wP 0 wP :=
  ⟨Keep.refl _ _ _, [], fpr, [], u, rfl, .nil, by rw [Nat.zero_mul, List.drop_zero]; exact hO.frame fun q hq => hB.block q (hO.bd q hq).2, rfl, by rw [List.drop_zero]; rfl, hP.keep fun k hk _ => hB.block k hk⟩
theorem FI.next {N : Int → Bs} {picks : List Int} {bu bp B u : Nat} {fs : List Fd} {vs : Array Value} {fp fpr : List Nat} {wP W W' : World} {i : Nat} {nm : Bs} {v : List Tm} (h : FI N picks bu bp B u fs vs fp fpr wP i W) (hnd : fpr.Nodup) (hsub : ∀ x ∈ fpr, x ∈ fp) (hi : fs[i]? = some (.mk nm v)) (hB : Below W.heap.size W W')
    (hub : bu ∉ fpr) : ∃ nb uv g2 u', nb.data.toList = nm ∧ vs[i * 2]? = some (.string nb) ∧ vs[i * 2 + 1]? = some uv ∧ OV W' B uv v g2 ∧ g2.Nodup ∧ Pk picks bu bp g2 u' W' ∧
      (∀ e W3, FillPost N picks bu bp g2 B uv v u' W' e W3 → FI N picks bu bp B u fs vs fp fpr wP (i + 1) W3) := by
  obtain ⟨hK, g1, g2, done, u', rfl, h1, h2, h3, h4, h5⟩ := h
  have hd : fs.drop i = .mk nm v :: fs.drop (i + 1) := List.drop_eq_getElem?_toList_append.trans (by rw [hi]; rfl)
  rw [hd] at h2 h4
  cases h2 with
  | @cons _ _ nb uv _ _ f1 f2 c0 c1 hv hr =>
  have hnd' := List.nodup_append.1 hnd
  have hnd2 := List.nodup_append.1 hnd'.2.1
  refine ⟨nb, uv, f1, u', rfl, c0, c1, hv.frame fun q hq => hB.block q (hv.bd q hq).2, hnd2.1, (h5.keep fun k hk _ => hB.block k hk).sub fun x hx => hsub x (by simp [hx]), fun e W3 he => ?_⟩
  obtain ⟨rfl, k1, k2, u2, k3, k4⟩ := he
  have hstep : ∀ q, q < W.heap.size → q ∉ f1 → q ≠ bu → W3.heap[q]? = W.heap[q]? := fun q hq h1 h2 => (k1.block q (Nat.lt_of_lt_of_le hq hB.size) h1 h2).trans (hB.block q hq)
  refine ⟨hK.trans (Keep.trans (fr := f1) (Keep.below hB : Keep f1 bu W W') k1 (fun _ h => h) (fun _ h => h)) (fun _ h => h) (fun x hx => by simp [hx]), g1 ++ f1, f2, done ++ [.mk nb.data.toList (fiL N v (picks.drop u')).1], u2, by simp, ?_, ?_, by simp [h3], ?_, ?_⟩
  · refine OFs.snoc (h1.frame fun q hq => hstep q (h1.bd q hq).2 (fun c => hnd'.2.2 q hq q (by simp [c]) rfl) (fun c => hub (by rw [← c]; simp [hq]))) ?_ ?_ k2
    · rw [h3, show 0 + 2 * i = i * 2 by omega]; exact c0
    · rw [h3, show 0 + 2 * i = i * 2 by omega]; exact c1
  · rw [show (i + 1) * 2 = i * 2 + 2 by omega]
    exact hr.frame fun q hq => hstep q (hr.bd q hq).2 (fun c => hnd2.2.2 q c q hq rfl) (fun c => hub (by rw [← c]; simp [hq]))
  · rw [h4, fiF, k3]; simp
  · exact Pk.grow (h5.keep (w' := W') fun k hk _ => hB.block k hk) k4 k1 (fun x hx => hsub x (by simp [hx]))
variable (R : Bs → Bool) (hF : FirmOK N) (picks : List Int) (hl : picks.length ≤ 1073741824) (hr : ∀ p ∈ picks, in64 p) (bu bp B : Nat)
include hF hl hr
set_option maxHeartbeats 4000000 in
set_option maxRecDepth 100000 in
theorem fill_step (n : Nat) (hn : n ≤ 1073741824) (ih : ∀ (ts : List Tm) (v : Value) (w : World) (fp : List Nat) (u : Nat), szV ts < n → OV w B v ts fp → fp.Nodup → rcL R ts = true → seL true ts = true → Pk picks bu bp fp u w →
      Calls Tryz.prog 78 #[.agg #[v], .func (.func 79) #[] #[.pointer (some ⟨bu, 0, none⟩), .pointer (some ⟨bp, 0, none⟩)]] w (FillPost N picks bu bp fp B v ts u w))
    (ts : List Tm) (v : Value) (w : World) (fp : List Nat) (u : Nat) (hs : szV ts ≤ n) (hO : OV w B v ts fp) (hnd : fp.Nodup) (hrc : rcL R ts = true) (hse : seL true ts = true) (hP : Pk picks bu bp fp u w) :
    Calls Tryz.prog 78 #[.agg #[v], .func (.func 79) #[] #[.pointer (some ⟨bu, 0, none⟩), .pointer (some ⟨bp, 0, none⟩)]] w (FillPost N picks bu bp fp B v ts u w) := by
  obtain ⟨t, rfl⟩ : ∃ t, ts = [t] := by
    cases ts with
    | nil => simp [seL] at hse
    | cons t r => cases r with
      | nil => exact ⟨t, rfl⟩
      | cons t' r => simp [seL] at hse
  cases hO with
  | @row b cap n' vs ty _ fp hB hb hn' hc hvs hp hT =>
  obtain rfl : n' = 1 := hn'
  cases hT with
  | @cons _ _ _ _ f1 f2 ht hr0 =>
  cases hr0
  rw [rcL] at hrc
  simp only [rcL, Bool.and_true] at hrc
  rw [seL] at hse
  cases ht with
  | @mk _ _ k lo hh sb a m o fs fv fp h0 h1 h2 h3 h4 h5 h6 h7 hf =>
  simp only [Nat.zero_add] at h0 h1 h2 h3 h4 h5 h6 h7
  have q0 : w.cell? ⟨b, 0, none⟩ = some (.int .i64 k) := by rw [cell_of hb]; exact h0
  have q1 : w.cell? ⟨b, 1, none⟩ = some (.int .i64 lo) := by rw [cell_of hb]; exact h1
  have q2 : w.cell? ⟨b, 2, none⟩ = some (.int .i64 hh) := by rw [cell_of hb]; exact h2
  have q3 : w.cell? ⟨b, 3, none⟩ = some (.string sb) := by rw [cell_of hb]; exact h3
  have q4 : w.cell? ⟨b, 4, none⟩ = some (.bool a) := by rw [cell_of hb]; exact h4
  have q5 : w.cell? ⟨b, 5, none⟩ = some (.bool m) := by rw [cell_of hb]; exact h5
  have q6 : w.cell? ⟨b, 6, none⟩ = some (.bool o) := by rw [cell_of hb]; exact h6
  have q7 : w.cell? ⟨b, 7, none⟩ = some fv := by rw [cell_of hb]; exact h7
  obtain ⟨bo7, n7, cap7, rfl⟩ : ∃ bo n cap, fv = .slice bo n cap := by cases hf <;> exact ⟨_, _, _, rfl⟩
  have hbl := blk_lt hb
  have hb' := Lib.hid hb
  have hcs := Lib.hid (And.intro h0 (And.intro h1 (And.intro h2 (And.intro h3 (And.intro h4 (And.intro h5 (And.intro h6 h7)))))))
  clear hb h0 h1 h2 h3 h4 h5 h6 h7
  cases m with
  | true =>
    have hk : k ≠ 5 ∧ k ≠ 4 ∧ scal (.mk k lo hh sb.data.toList a true o fs) = true := by
      rw [rcT] at hrc
      by_cases h5 : k = 5
      · rw [if_pos h5] at hrc; simp [anyT] at hrc
      · rw [if_neg h5] at hrc
        by_cases h4 : k = 4
        · rw [if_pos h4] at hrc; simp [bareT] at hrc
        · rw [if_neg h4] at hrc; exact ⟨h5, h4, hrc⟩
    have hfs : fs = [] := by
      have h3 := hk.2.2
      rw [scal] at h3
      by_cases hn : (o || !fs.isEmpty || (true && single (.mk k lo hh sb.data.toList a true o fs))) = true
      · rw [if_pos hn] at h3; cases h3
      · simp only [Bool.or_eq_true, not_or] at hn
        simpa using hn.1.2
    subst hfs
    have hf1 : f1 = [] := by
      cases hf with
      | nil => rfl
      | emp => rfl
      | row _ _ h _ _ hp _ => subst h; simp at hp
    subst hf1
    have hOF : OF w 0 (.slice bo7 n7 cap7) [] [] := hf.base (Nat.zero_le _)
    have hn7 : n7 = 0 := by
      cases hf <;> rfl
    subst hn7
    go_enter Tryz.func78, Tryz.ntmps78
    go_wp2_with fail
    go_loopg [11] 1 (fun gk v11 W => (gk = 1 ∧ v11 = .int .i64 0 ∧ W = w.alloc (Obj.cells #[.slice (some ⟨b, 0, none⟩) 1 cap] 25)) ∨ (gk = 0 ∧ v11 = .int .i64 1 ∧ Ax (FillPost N picks bu bp (b :: ([] ++ [])) B (.slice (some ⟨b, 0, none⟩) 1 cap) [.mk k lo hh sb.data.toList a true o []] u w (.returned (.tuple #[])) W)))
    case atStart => exact .inl ⟨rfl, rfl, rfl⟩
    case round =>
      rcases hrel with ⟨rfl, rfl, rfl⟩ | ⟨rfl, rfl, HP⟩
      · go_wp2_with fail
        have hB2 : Below w.heap.size w ((w.alloc (Obj.cells #[.slice (some ⟨b, 0, none⟩) 1 cap] 25)).alloc (Obj.cells #[.int .i64 k, .int .i64 lo, .int .i64 hh, .string sb, .bool a, .bool true, .bool o, .slice bo7 0 cap7] 54)) := ((Below.refl _ w).alloc (Nat.le_refl _) _).alloc (by simp) _
        have hs2 : ((w.alloc (Obj.cells #[.slice (some ⟨b, 0, none⟩) 1 cap] 25)).alloc (Obj.cells #[.int .i64 k, .int .i64 lo, .int .i64 hh, .string sb, .bool a, .bool true, .bool o, .slice bo7 0 cap7] 54)).heap.size = w.heap.size + 2 := by simp
        have hx1 : ((w.alloc (Obj.cells #[.slice (some ⟨b, 0, none⟩) 1 cap] 25)).alloc (Obj.cells #[.int .i64 k, .int .i64 lo, .int .i64 hh, .string sb, .bool a, .bool true, .bool o, .slice bo7 0 cap7] 54)).heap[w.heap.size]? = some (Obj.cells #[.slice (some ⟨b, 0, none⟩) 1 cap] 25) := by
          rw [heap_alloc_old]
          · exact heap_alloc_new w _
          · simp
        have hx2 : ((w.alloc (Obj.cells #[.slice (some ⟨b, 0, none⟩) 1 cap] 25)).alloc (Obj.cells #[.int .i64 k, .int .i64 lo, .int .i64 hh, .string sb, .bool a, .bool true, .bool o, .slice bo7 0 cap7] 54)).heap[w.heap.size + 1]? = some (Obj.cells #[.int .i64 k, .int .i64 lo, .int .i64 hh, .string sb, .bool a, .bool true, .bool o, .slice bo7 0 cap7] 54) := heap_alloc2_new w _ _
        generalize ((w.alloc (Obj.cells #[.slice (some ⟨b, 0, none⟩) 1 cap] 25)).alloc (Obj.cells #[.int .i64 k, .int .i64 lo, .int .i64 hh, .string sb, .bool a, .bool true, .bool o, .slice bo7 0 cap7] 54)) = wP at *
        have hPP := Lib.hid (hP.keep fun k hk _ => hB2.block k hk)
        have c0 : wP.cell? ⟨w.heap.size, 0, none⟩ = some (.slice (some ⟨b, 0, none⟩) 1 cap) := by rw [cell_of hx1]; rfl
        have d0 : wP.cell? ⟨w.heap.size + 1, 0, none⟩ = some (.int .i64 k) := by rw [cell_of hx2]; rfl
        have d1 : wP.cell? ⟨w.heap.size + 1, 1, none⟩ = some (.int .i64 lo) := by rw [cell_of hx2]; rfl
        have d2 : wP.cell? ⟨w.heap.size + 1, 2, none⟩ = some (.int .i64 hh) := by rw [cell_of hx2]; rfl
        have d3 : wP.cell? ⟨w.heap.size + 1, 3, none⟩ = some (.string sb) := by rw [cell_of hx2]; rfl
        have d4 : wP.cell? ⟨w.heap.size + 1, 4, none⟩ = some (.bool a) := by rw [cell_of hx2]; rfl
        have d5 : wP.cell? ⟨w.heap.size + 1, 5, none⟩ = some (.bool true) := by rw [cell_of hx2]; rfl
        have d6 : wP.cell? ⟨w.heap.size + 1, 6, none⟩ = some (.bool o) := by rw [cell_of hx2]; rfl
        have d7 : wP.cell? ⟨w.heap.size + 1, 7, none⟩ = some (.slice bo7 0 cap7) := by rw [cell_of hx2]; rfl
        have hin : in64 ((picks.drop u).headD 0) := by
          cases hd : picks.drop u with
          | nil => simp [in64]
          | cons x r => exact hr x (List.mem_of_mem_drop (i := u) (by rw [hd]; simp))
        have hPd := Lib.hid (show Pk picks bu bp (b :: ([] ++ [])) u wP.drew from hPP.out.keep fun _ _ _ => rfl)
        have hbP : wP.heap[b]? = some (.cells vs ty (0, 0)) := (hB2.block b hbl).trans hb'.out
        have hbu : bu < w.heap.size := by obtain ⟨t, ht⟩ := hP.ct; exact blk_lt ht
        have hbb : b ≠ bu := fun e => hP.nu (by rw [← e]; simp)
        have SK := Lib.hid (show ∀ W : World, W.heap[w.heap.size]? = wP.heap[w.heap.size]? → W.heap[w.heap.size + 1]? = wP.heap[w.heap.size + 1]? → (W.cell? ⟨w.heap.size, 0, none⟩ = some (.slice (some ⟨b, 0, none⟩) 1 cap) ∧ W.cell? ⟨w.heap.size + 1, 0, none⟩ = some (.int .i64 k) ∧ W.cell? ⟨w.heap.size + 1, 1, none⟩ = some (.int .i64 lo) ∧ W.cell? ⟨w.heap.size + 1, 2, none⟩ = some (.int .i64 hh) ∧ W.cell? ⟨w.heap.size + 1, 3, none⟩ = some (.string sb) ∧ W.cell? ⟨w.heap.size + 1, 4, none⟩ = some (.bool a) ∧ W.cell? ⟨w.heap.size + 1, 5, none⟩ = some (.bool true) ∧ W.cell? ⟨w.heap.size + 1, 6, none⟩ = some (.bool o) ∧ W.cell? ⟨w.heap.size + 1, 7, none⟩ = some (.slice bo7 0 cap7)) from fun W e1 e2 => by
          have k1 : ∀ j, W.cell? ⟨w.heap.size + 1, j, none⟩ = wP.cell? ⟨w.heap.size + 1, j, none⟩ := fun j => cell_heap e2
          refine ⟨(cell_heap e1).trans c0, (k1 0).trans d0, (k1 1).trans d1, (k1 2).trans d2, (k1 3).trans d3, (k1 4).trans d4, (k1 5).trans d5, (k1 6).trans d6, (k1 7).trans d7⟩)
        have hC15 := Lib.hid (show Calls Tryz.prog 79 #[.pointer (some ⟨bu, 0, none⟩), .pointer (some ⟨bp, 0, none⟩)] wP.drew fun e w3 => e = .returned (.int .i64 ((picks.drop u).headD 0)) ∧ Got picks bu bp b u vs ty w.heap.size wP w3 from
          (hPd.out.next hl).mono fun e w3 he => by
            obtain ⟨rfl, hK3, u', hu', hP3⟩ := he
            exact ⟨rfl, hK3.block _ (by show _ < wP.heap.size; omega) (by simp) (by omega), hK3.block _ (by show _ < wP.heap.size; omega) (by simp) (by omega), (hK3.block _ (by show _ < wP.heap.size; omega) (by simp) hbb).trans hbP, hK3.trans (fq := []) (fr := []) (Keep.refl _ _ _) (by simp) (by simp), u', hu', hP3⟩)
        have hC29 := Lib.hid fun (W : World) (hG : Got picks bu bp b u vs ty w.heap.size wP W) => show Calls Tryz.prog 117 #[.agg #[.int .i64 k, .int .i64 lo, .int .i64 hh, .string sb, .bool a, .bool true, .bool o, .slice bo7 0 cap7], .int .i64 ((picks.drop u).headD 0)] W fun e w4 => ∃ x : Nine, e = .returned (.agg #[.int .i64 x.k, .int .i64 x.lo, .int .i64 x.hi, .string x.sb, .bool x.a, .bool x.m, .bool x.o, .slice x.fn 0 x.cap]) ∧ Got picks bu bp b u vs ty w.heap.size wP w4 ∧ firm N (.mk k lo hh sb.data.toList a true o []) ((picks.drop u).headD 0) = .mk x.k x.lo x.hi x.sb.data.toList x.a x.m x.o [] ∧ (x.fn = none → x.cap = 0) from
          (hF _ _ _ _ _ _ _ _ _ hk.2.2 (hOF.frame (by simp)) hin).mono fun e w4 he => by
            obtain ⟨hB4, k', lo', hi', sb', a', m', o', fn, cap', hfirm, hfn, rfl⟩ := he
            exact ⟨⟨k', lo', hi', sb', a', m', o', fn, cap'⟩, rfl, hG.next (by omega) hB4, hfirm, hfn⟩
        have hsc1 : ∀ (W : World) (i : Nat) (v : Value), (W.setCell ⟨b, i, none⟩ v).heap[w.heap.size]? = W.heap[w.heap.size]? := fun W i v => Below.heap_setCell W _ v _ (by show w.heap.size ≠ b; omega)
        have hsc2 : ∀ (W : World) (i : Nat) (v : Value), (W.setCell ⟨b, i, none⟩ v).heap[w.heap.size + 1]? = W.heap[w.heap.size + 1]? := fun W i v => Below.heap_setCell W _ v _ (by show w.heap.size + 1 ≠ b; omega)
        have SK0 := Lib.hid (SK.out wP.drew rfl rfl)
        clear hPP
        have hbn1 : w.heap.size ≠ b := by omega
        have hbn2 : w.heap.size + 1 ≠ b := by omega
        obtain ⟨pv, hpv⟩ : ∃ pv, (picks.drop u).headD 0 = pv := ⟨_, rfl⟩
        rw [hpv] at hC15 hC29
        have hpv := Lib.hid hpv
        go_region_held3 (fun w' => w'.cell? ⟨w.heap.size, 0, none⟩ = some (.slice (some ⟨b, 0, none⟩) 1 cap) ∧ w'.cell? ⟨w.heap.size + 1, 0, none⟩ = some (.int .i64 k) ∧ w'.cell? ⟨w.heap.size + 1, 1, none⟩ = some (.int .i64 lo) ∧ w'.cell? ⟨w.heap.size + 1, 2, none⟩ = some (.int .i64 hh) ∧ w'.cell? ⟨w.heap.size + 1, 3, none⟩ = some (.string sb) ∧ w'.cell? ⟨w.heap.size + 1, 4, none⟩ = some (.bool a) ∧ w'.cell? ⟨w.heap.size + 1, 5, none⟩ = some (.bool true) ∧ w'.cell? ⟨w.heap.size + 1, 6, none⟩ = some (.bool o) ∧ w'.cell? ⟨w.heap.size + 1, 7, none⟩ = some (.slice bo7 0 cap7)) (first | (have q1 := hG4.e1; have q2 := hG4.e2; exact SK.out _ (by simp only [hsc1, q1]) (by simp only [hsc2, q2])) | (have q1 := hG3.e1; have q2 := hG3.e2; exact SK.out _ q1 q2) | exact SK0.out)
          (first
            | (go_at_call 79; refine hC15.out.mono ?_; rintro e w3 ⟨rfl, hG3⟩)
            | (go_at_call 117; refine (hC29.out _ hG3).mono ?_; rintro e w4 ⟨x, rfl, hG4, hx4⟩; obtain ⟨g0, g1, g2, g3, g4, g5, g6, g7, z0, z1, z2, z3, z4, z5, z6, z7⟩ := hG4.cells hvs hc))
        obtain ⟨vs', m1, m2, n0, n1, n2, n3, n4, n5, n6, n7⟩ := hG4.fin hvs hc (.int .i64 x.k) (.int .i64 x.lo) (.int .i64 x.hi) (.string x.sb) (.bool x.a) (.bool x.m) (.bool x.o) (.slice x.fn 0 x.cap)
        have hK8 := (Keep.trans (fr := b :: ([] ++ [])) (Keep.below hB2 : Keep [] bu w wP) (Keep.trans (fr := []) (Keep.below (show Below wP.heap.size wP wP.drew from ⟨rfl, rfl, rfl, Nat.le_refl _, fun _ _ => rfl⟩) : Keep [] bu wP wP.drew) hG4.kp (by simp) (by simp)) (by simp) (by simp)).put8 (b := b) (by simp) (.int .i64 x.k) (.int .i64 x.lo) (.int .i64 x.hi) (.string x.sb) (.bool x.a) (.bool x.m) (.bool x.o) (.slice x.fn 0 x.cap)
        have hP8 := hG4.pk
        have hC8 := fun k hk => chain8 w4 b k hk (.int .i64 x.k) (.int .i64 x.lo) (.int .i64 x.hi) (.string x.sb) (.bool x.a) (.bool x.m) (.bool x.o) (.slice x.fn 0 x.cap)
        have hS8 := (SK.out _ ((hC8 _ hbn1).trans hG4.e1) ((hC8 _ hbn2).trans hG4.e2)).2.2.2.2.2.2.2.2
        clear g0 g1 g2 g3 g4 g5 g6 g7 z0 z1 z2 z3 z4 z5 z6 z7
        generalize ((((((((w4.setCell ⟨b, 0, none⟩ (.int .i64 x.k)).setCell ⟨b, 1, none⟩ (.int .i64 x.lo)).setCell ⟨b, 2, none⟩ (.int .i64 x.hi)).setCell ⟨b, 3, none⟩ (.string x.sb)).setCell ⟨b, 4, none⟩ (.bool x.a)).setCell ⟨b, 5, none⟩ (.bool x.m)).setCell ⟨b, 6, none⟩ (.bool x.o)).setCell ⟨b, 7, none⟩ (.slice x.fn 0 x.cap)) = wZ at *
        have hPost := Lib.hid (show FillPost N picks bu bp (b :: ([] ++ [])) B (.slice (some ⟨b, 0, none⟩) 1 cap) [.mk k lo hh sb.data.toList a true o []] u w (.returned (.tuple #[])) wZ from by
          obtain ⟨u', hu1, hu2⟩ := hP8
          have hfi : fiL N [.mk k lo hh sb.data.toList a true o []] (picks.drop u) = ([.mk x.k x.lo x.hi x.sb.data.toList x.a x.m x.o []], (picks.drop u).tail) := by
            rw [fiL, fiT, if_pos rfl, hpv.out, hx4.1, fiL]
          refine ⟨rfl, hK8, ?_, u', by rw [hfi]; exact hu1, hu2.keep fun k hk hf => hC8 k (fun e => hf (by rw [e]; simp))⟩
          rw [hfi]
          refine .row hB m1 rfl hc m2 (by decide) ?_
          refine .cons (.mk n0 n1 n2 n3 n4 n5 n6 n7 ?_) .nil
          cases hfn : x.fn with
          | none => rw [hx4.2 hfn]; exact .nil
          | some q => exact .emp)
        clear hK8 hP8 hC8 m1 m2 n0 n1 n2 n3 n4 n5 n6 n7
        go_wp2_with fail
        go_loopg [29] 0 (fun gk v29 W => v29 = .int .i64 0 ∧ W = wZ)
        case atStart => exact ⟨rfl, rfl⟩
        case round =>
          obtain ⟨rfl, rfl⟩ := hrel
          go_wp2_with fail
          go_roundg 0
          case measure => omega
          case rel => exact .inr ⟨rfl, rfl, ⟨hPost.out⟩⟩
      · go_wp2_with fail
        refine bodyPost_ret (results_none rfl _ _ _) rfl ?_
        exact HP.out
  | false =>
    have hk : rcF R fs = true ∧ seF true fs = true := by
      rw [rcT] at hrc
      rw [seT] at hse
      simp only [Bool.and_eq_true, decide_eq_true_eq] at hse
      rw [if_neg hse.1] at hrc
      by_cases h4 : k = 4
      · subst h4
        rw [if_pos rfl] at hrc hse
        simp only [Bool.and_eq_true] at hrc
        exact ⟨hrc.2, hse.2⟩
      · rw [if_neg h4] at hrc
        have : fs = [] := by
          rw [scal] at hrc
          by_cases hn : (o || !fs.isEmpty || (false && single (.mk k lo hh sb.data.toList a false o fs))) = true
          · rw [if_pos hn] at hrc; cases hrc
          · simp only [Bool.or_eq_true, not_or] at hn
            simpa using hn.1.2
        subst this
        exact ⟨by rw [rcF], by rw [seF]⟩
    have hfit : fiL N [.mk k lo hh sb.data.toList a false o fs] (picks.drop u) = ([.mk k lo hh sb.data.toList a false o (fiF N fs (picks.drop u)).1], (fiF N fs (picks.drop u)).2) := by
      rw [fiL, fiT, if_neg (by decide), fiL]
    have hpo : ∀ W u', Keep f1 bu w W → OF W B (.slice bo7 n7 cap7) (fiF N fs (picks.drop u)).1 f1 → (fiF N fs (picks.drop u)).2 = picks.drop u' → Pk picks bu bp (b :: (f1 ++ [])) u' W → W.heap[b]? = w.heap[b]? →
        FillPost N picks bu bp (b :: (f1 ++ [])) B (.slice (some ⟨b, 0, none⟩) 1 cap) [.mk k lo hh sb.data.toList a false o fs] u w (.returned (.tuple #[])) W := fun W u' g1 g2 g3 g4 g5 => by
      obtain ⟨c0, c1, c2, c3, c4, c5, c6, c7⟩ := hcs.out
      refine ⟨rfl, ⟨g1.os, g1.tape, g1.output, g1.size, fun q hq h1 h2 => g1.block q hq (fun c => h1 (by simp [c])) h2⟩, ?_, u', by rw [hfit]; exact g3, g4⟩
      rw [hfit]
      exact .row hB (g5.trans hb'.out) rfl hc hvs (by decide) (.cons (.mk c0 c1 c2 c3 c4 c5 c6 c7 g2) .nil)
    have hpo := Lib.hid hpo
    have hB2 := Lib.hid (show Below w.heap.size w ((w.alloc (Obj.cells #[.slice (some ⟨b, 0, none⟩) 1 cap] 25)).alloc (Obj.cells #[.int .i64 k, .int .i64 lo, .int .i64 hh, .string sb, .bool a, .bool false, .bool o, .slice bo7 n7 cap7] 54)) from ((Below.refl _ w).alloc (Nat.le_refl _) _).alloc (by simp) _)
    have hnd1 := List.nodup_cons.1 hnd
    rw [List.append_nil] at hnd1
    have hf' := Lib.hid hf
    cases hf with
    | @row b2 cap7 _ vs2 ty2 _ fpr hB7 hb7 hn7 hc7 hv7 hp7 hO7 =>
      subst hn7
      have hfl : fs.length ≤ 1073741824 := by
        rw [szV, szT] at hs
        have := szF_len fs
        omega
      have hnd2 := List.nodup_cons.1 hnd1.2
      have hub : bu ∉ fpr := fun c => hP.nu (by simp [c])
      have hb2u : b2 ≠ bu := fun c => hP.nu (by simp [← c])
      have hsub : ∀ x ∈ fpr, x ∈ b :: (b2 :: fpr ++ []) := fun x hx => by simp [hx]
      have hFS := Lib.hid fun wP (hB : Below w.heap.size w wP) => FI.start (N := N) hB hO7 hP
      have hb7' := Lib.hid hb7
      have hO7' := Lib.hid hO7
      have hP' := Lib.hid hP
      clear hb7 hO7 hP
      go_enter Tryz.func78, Tryz.ntmps78
      go_wp2_with fail
      go_loopg [11] 1 (fun gk v11 W => (gk = 1 ∧ v11 = .int .i64 0 ∧ W = w.alloc (Obj.cells #[.slice (some ⟨b, 0, none⟩) 1 cap] 25)) ∨ (gk = 0 ∧ v11 = .int .i64 1 ∧ Ax (FillPost N picks bu bp (b :: (b2 :: fpr ++ [])) B (.slice (some ⟨b, 0, none⟩) 1 cap) [.mk k lo hh sb.data.toList a false o fs] u w (.returned (.tuple #[])) W)))
      case atStart => exact .inl ⟨rfl, rfl, rfl⟩
      case round =>
        rcases hrel with ⟨rfl, rfl, rfl⟩ | ⟨rfl, rfl, HP⟩
        · go_wp2_with fail
          generalize ((w.alloc (Obj.cells #[.slice (some ⟨b, 0, none⟩) 1 cap] 25)).alloc (Obj.cells #[.int .i64 k, .int .i64 lo, .int .i64 hh, .string sb, .bool a, .bool false, .bool o, .slice (some ⟨b2, 0, none⟩) fs.length cap7] 54)) = wP at *
          have hF0 := Lib.hid (hFS.out wP hB2.out)
          go_loopg [29] fs.length (fun gk v29 W => ∃ i : Nat, i + gk = fs.length ∧ v29 = .int .i64 i ∧ Ax (FI N picks bu bp B u fs vs2 (b :: (b2 :: fpr ++ [])) fpr wP i W))
          case atStart => exact ⟨0, by omega, rfl, ⟨hF0.out⟩⟩
          case round =>
            clear hF0
            obtain ⟨x, hxg, rfl, HF⟩ := hrel
            have hbx : wr.heap[b2]? = some (.cells vs2 ty2 (0, 0)) := (HF.out.kp.block b2 (Nat.lt_of_lt_of_le (blk_lt hb7'.out) hB2.out.size) hnd2.1 hb2u).trans ((hB2.out.block b2 (blk_lt hb7'.out)).trans hb7'.out)
            by_cases hx : x < fs.length
            · obtain ⟨g2, rfl⟩ : ∃ j, gk = j + 1 := ⟨gk - 1, by omega⟩
              obtain ⟨⟨nm, fv⟩, hfx⟩ : ∃ t, fs[x]? = some t := ⟨fs[x], List.getElem?_eq_getElem hx⟩
              have hN := Lib.hid fun W' (hB : Below wr.heap.size wr W') => HF.out.next (W' := W') hnd2.2 hsub hfx hB hub
              obtain ⟨nb, uv, g3, u', e1, e2, e3, e4, e5, e6, _⟩ := hN.out wr (Below.refl _ _)
              obtain ⟨bo8, n8, cap8, rfl⟩ := ov_slice e4
              have q0 : wr.cell? ⟨b2, x * 2, none⟩ = some (.string nb) := by rw [cell_of hbx]; exact e2
              have q1 : wr.cell? ⟨b2, x * 2 + 1, none⟩ = some (.slice bo8 n8 cap8) := by rw [cell_of hbx]; exact e3
              have hsz : szV fv < n := by
                rw [szV, szT] at hs
                have z2 := szF_get hfx
                omega
              have hrs : rcL R fv = true ∧ seL true fv = true := rc_get R hfx hk.1 hk.2
              clear e4 e5 e6
              go_wp2_with fail
              have hW2 : Below wr.heap.size wr (wr.alloc (Obj.cells #[.string nb, .slice bo8 n8 cap8] 78)) := (Below.refl _ wr).alloc (Nat.le_refl _) _
              generalize (wr.alloc (Obj.cells #[.string nb, .slice bo8 n8 cap8] 78)) = wD at *
              obtain ⟨nb', uv', g4, u4, f1, f2, f3, f4, f5, f6, f7⟩ := hN.out wD hW2
              obtain rfl : uv' = .slice bo8 n8 cap8 := Option.some.inj (f3.symm.trans e3)
              have hih := ih fv (.slice bo8 n8 cap8) wD g4 u4 hsz f4 f5 hrs.1 hrs.2 f6
              refine hih.mono ?_
              rintro e w3 hpost
              obtain rfl := hpost.1
              have HF2 : Ax (FI N picks bu bp B u fs vs2 (b :: (b2 :: fpr ++ [])) fpr wP (x + 1) w3) := ⟨f7 _ w3 hpost⟩
              clear hih f4 f5 f6 f7 hpost
              go_wp2_with fail
              go_roundg g2
              case measure => omega
              case rel => exact ⟨x + 1, by omega, by go_num, HF2⟩
            · obtain rfl : gk = 0 := by omega
              obtain rfl : x = fs.length := by omega
              have hd0 : ¬ (fs.length : Int) < (fs.length : Int) := by omega
              have hFin := Lib.hid (show FillPost N picks bu bp (b :: (b2 :: fpr ++ [])) B (.slice (some ⟨b, 0, none⟩) 1 cap) [.mk k lo hh sb.data.toList a false o fs] u w (.returned (.tuple #[])) wr from by
                obtain ⟨hK, g1, g3, done, u', e1, e2, e3, e4, e5, e6⟩ := HF.out
                rw [List.drop_length, fiF] at e5
                rw [List.drop_length] at e3
                cases e3
                rw [List.append_nil] at e1 e5
                subst e1
                refine hpo.out wr u' ?_ ?_ (by rw [e5]) e6 ?_
                · exact (Keep.below hB2.out : Keep [] bu w wP).trans hK (by simp) (fun q hq => by simp [hq])
                · rw [e5]
                  exact .row hB7 hbx e4.symm hc7 hv7 hp7 e2
                · exact (hK.block b (Nat.lt_of_lt_of_le hbl hB2.out.size) (fun c => hnd1.1 (by simp [c])) (fun c => hP'.out.nu (by simp [← c]))).trans (hB2.out.block b hbl))
              go_wp2_with fail
              go_roundg 0
              case measure => omega
              case rel => exact .inr ⟨rfl, rfl, ⟨hFin.out⟩⟩
        · go_wp2_with fail
          refine bodyPost_ret (results_none rfl _ _ _) rfl ?_
          exact HP.out
    | nil =>
      go_enter Tryz.func78, Tryz.ntmps78
      go_wp2_with fail
      go_loopg [11] 1 (fun gk v11 W => (gk = 1 ∧ v11 = .int .i64 0 ∧ W = w.alloc (Obj.cells #[.slice (some ⟨b, 0, none⟩) 1 cap] 25)) ∨ (gk = 0 ∧ v11 = .int .i64 1 ∧ Ax (FillPost N picks bu bp (b :: ([] ++ [])) B (.slice (some ⟨b, 0, none⟩) 1 cap) [.mk k lo hh sb.data.toList a false o []] u w (.returned (.tuple #[])) W)))
      case atStart => exact .inl ⟨rfl, rfl, rfl⟩
      case round =>
        rcases hrel with ⟨rfl, rfl, rfl⟩ | ⟨rfl, rfl, HP⟩
        · go_wp2_with fail
          generalize ((w.alloc (Obj.cells #[.slice (some ⟨b, 0, none⟩) 1 cap] 25)).alloc (Obj.cells #[.int .i64 k, .int .i64 lo, .int .i64 hh, .string sb, .bool a, .bool false, .bool o, .slice none 0 0] 54)) = wZ at *
          go_loopg [29] 0 (fun gk v29 W => v29 = .int .i64 0 ∧ W = wZ)
          case atStart => exact ⟨rfl, rfl⟩
          case round =>
            obtain ⟨rfl, rfl⟩ := hrel
            go_wp2_with fail
            go_roundg 0
            case measure => omega
            case rel => exact .inr ⟨rfl, rfl, ⟨hpo.out _ u (Keep.below hB2.out) .nil rfl (hP.keep fun q hq _ => hB2.out.block q hq) (hB2.out.block b hbl)⟩⟩
        · go_wp2_with fail
          refine bodyPost_ret (results_none rfl _ _ _) rfl ?_
          exact HP.out
    | @emp bo7 cap7 =>
      go_enter Tryz.func78, Tryz.ntmps78
      go_wp2_with fail
      go_loopg [11] 1 (fun gk v11 W => (gk = 1 ∧ v11 = .int .i64 0 ∧ W = w.alloc (Obj.cells #[.slice (some ⟨b, 0, none⟩) 1 cap] 25)) ∨ (gk = 0 ∧ v11 = .int .i64 1 ∧ Ax (FillPost N picks bu bp (b :: ([] ++ [])) B (.slice (some ⟨b, 0, none⟩) 1 cap) [.mk k lo hh sb.data.toList a false o []] u w (.returned (.tuple #[])) W)))
      case atStart => exact .inl ⟨rfl, rfl, rfl⟩
      case round =>
        rcases hrel with ⟨rfl, rfl, rfl⟩ | ⟨rfl, rfl, HP⟩
        · go_wp2_with fail
          generalize ((w.alloc (Obj.cells #[.slice (some ⟨b, 0, none⟩) 1 cap] 25)).alloc (Obj.cells #[.int .i64 k, .int .i64 lo, .int .i64 hh, .string sb, .bool a, .bool false, .bool o, .slice (some bo7) 0 cap7] 54)) = wZ at *
          go_loopg [29] 0 (fun gk v29 W => v29 = .int .i64 0 ∧ W = wZ)
          case atStart => exact ⟨rfl, rfl⟩
          case round =>
            obtain ⟨rfl, rfl⟩ := hrel
            go_wp2_with fail
            go_roundg 0
            case measure => omega
            case rel => exact .inr ⟨rfl, rfl, ⟨hpo.out _ u (Keep.below hB2.out) .emp rfl (hP.keep fun q hq _ => hB2.out.block q hq) (hB2.out.block b hbl)⟩⟩
        · go_wp2_with fail
          refine bodyPost_ret (results_none rfl _ _ _) rfl ?_
          exact HP.out
end
end Go.Proofs.YtffojfcinkihnaaGreatDoor.Lat.Fl
