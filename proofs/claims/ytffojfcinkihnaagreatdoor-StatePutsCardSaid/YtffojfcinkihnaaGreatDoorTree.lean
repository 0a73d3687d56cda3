/- Trees of values in memory of one's own. -/
import Derived.Test.YtffojfcinkihnaaGreatDoorLatB
import Derived.Test.YtffojfcinkihnaaGreatDoorMC
set_option linter.unusedVariables false
set_option linter.unusedSimpArgs false
set_option linter.unusedSectionVars false
set_option linter.deprecated false
set_option linter.unnecessarySimpa false
namespace Go.Proofs.YtffojfcinkihnaaGreatDoor.Lat
open Go.RowKit Go.Proofs.YtffojfcinkihnaaGreatDoor.Abs
set_option linter.unusedVariables false
mutual
def encT : Tm → List AV
  | .mk k lo hi s a m o fs => [.int .i64 k, .int .i64 lo, .int .i64 hi, .str s, .bool a, .bool m, .bool o, .sl 2 (encF fs)]
def encF : List Fd → List (List AV)
  | [] => []
  | .mk n v :: r => [.str n, .sl 8 (encV v)] :: encF r
def encV : List Tm → List (List AV)
  | [] => []
  | t :: r => encT t :: encV r
end
theorem encT_len (t : Tm) : (encT t).length = 8 := by cases t; rfl
theorem encV_map : ∀ v : List Tm, encV v = v.map encT
  | [] => by rw [encV]; rfl
  | t :: r => by rw [encV, encV_map r]; rfl
def encFd : Fd → List AV
  | .mk n v => [.str n, .sl 8 (encV v)]
theorem encF_map : ∀ fs : List Fd, encF fs = fs.map encFd
  | [] => by rw [encF]; rfl
  | .mk n v :: r => by rw [encF, encF_map r]; rfl
mutual
/-- How many terms and fields there are. -/
def szT : Tm → Nat
  | .mk _ _ _ _ _ _ _ fs => 1 + szF fs
def szF : List Fd → Nat
  | [] => 0
  | .mk _ v :: r => 1 + szV v + szF r
def szV : List Tm → Nat
  | [] => 0
  | t :: r => szT t + szV r
end
theorem szF_len : ∀ fs : List Fd, fs.length ≤ szF fs
  | [] => by simp [szF]
  | .mk n v :: r => by have := szF_len r; simp [szF]; omega
theorem szV_len : ∀ v : List Tm, v.length ≤ szV v
  | [] => by simp [szV]
  | .mk _ _ _ _ _ _ _ fs :: r => by have := szV_len r; simp [szV, szT]; omega
mutual
inductive OT (w : World) (B : Nat) : Array Value → Nat → Tm → List Nat → Prop
  | mk {vs : Array Value} {o : Nat} {k lo hi : Int} {sb : ByteArray} {a m op : Bool} {fs : List Fd} {v : Value} {fp : List Nat}
      (h0 : vs[o]? = some (.int .i64 k)) (h1 : vs[o + 1]? = some (.int .i64 lo)) (h2 : vs[o + 2]? = some (.int .i64 hi)) (h3 : vs[o + 3]? = some (.string sb))
      (h4 : vs[o + 4]? = some (.bool a)) (h5 : vs[o + 5]? = some (.bool m)) (h6 : vs[o + 6]? = some (.bool op)) (h7 : vs[o + 7]? = some v)
      (hf : OF w B v fs fp) : OT w B vs o (.mk k lo hi sb.data.toList a m op fs) fp
inductive OF (w : World) (B : Nat) : Value → List Fd → List Nat → Prop
  | nil : OF w B (.slice none 0 0) [] []
  | emp {bo : Addr} {cap : Nat} : OF w B (.slice (some bo) 0 cap) [] []
  | row {b cap n : Nat} {vs : Array Value} {ty : TypeId} {fs : List Fd} {fp : List Nat} (hB : B ≤ b) (hb : w.heap[b]? = some (.cells vs ty (0, 0))) (hn : n = fs.length)
      (hc : n ≤ cap) (hs : vs.size = cap * 2) (hp : 0 < n) (hr : OFs w B vs 0 fs fp) : OF w B (.slice (some ⟨b, 0, none⟩) n cap) fs (b :: fp)
inductive OFs (w : World) (B : Nat) : Array Value → Nat → List Fd → List Nat → Prop
  | nil {vs : Array Value} {o : Nat} : OFs w B vs o [] []
  | cons {vs : Array Value} {o : Nat} {nb : ByteArray} {v : Value} {ts : List Tm} {r : List Fd} {f1 f2 : List Nat}
      (h0 : vs[o]? = some (.string nb)) (h1 : vs[o + 1]? = some v) (hv : OV w B v ts f1) (hr : OFs w B vs (o + 2) r f2) : OFs w B vs o (.mk nb.data.toList ts :: r) (f1 ++ f2)
inductive OV (w : World) (B : Nat) : Value → List Tm → List Nat → Prop
  | nil : OV w B (.slice none 0 0) [] []
  | emp {bo : Addr} {cap : Nat} : OV w B (.slice (some bo) 0 cap) [] []
  | row {b cap n : Nat} {vs : Array Value} {ty : TypeId} {ts : List Tm} {fp : List Nat} (hB : B ≤ b) (hb : w.heap[b]? = some (.cells vs ty (0, 0))) (hn : n = ts.length)
      (hc : n ≤ cap) (hs : vs.size = cap * 8) (hp : 0 < n) (hr : OTs w B vs 0 ts fp) : OV w B (.slice (some ⟨b, 0, none⟩) n cap) ts (b :: fp)
inductive OTs (w : World) (B : Nat) : Array Value → Nat → List Tm → List Nat → Prop
  | nil {vs : Array Value} {o : Nat} : OTs w B vs o [] []
  | cons {vs : Array Value} {o : Nat} {t : Tm} {r : List Tm} {f1 f2 : List Nat} (ht : OT w B vs o t f1) (hr : OTs w B vs (o + 8) r f2) : OTs w B vs o (t :: r) (f1 ++ f2)
end
section
variable {w : World} {B : Nat}
mutual
theorem OT.frame {w' : World} : ∀ {vs : Array Value} {o : Nat} {t : Tm} {fp : List Nat}, OT w B vs o t fp → (∀ b ∈ fp, w'.heap[b]? = w.heap[b]?) → OT w' B vs o t fp
  | _, _, _, _, .mk h0 h1 h2 h3 h4 h5 h6 h7 hf, he => .mk h0 h1 h2 h3 h4 h5 h6 h7 (hf.frame he)
theorem OF.frame {w' : World} : ∀ {v : Value} {fs : List Fd} {fp : List Nat}, OF w B v fs fp → (∀ b ∈ fp, w'.heap[b]? = w.heap[b]?) → OF w' B v fs fp
  | _, _, _, .nil, he => .nil
  | _, _, _, .emp, he => .emp
  | _, _, _, .row hB hb hn hc hs hp hr, he => .row hB (by rw [he _ (List.mem_cons_self ..)]; exact hb) hn hc hs hp (hr.frame fun b hb => he b (List.mem_cons_of_mem _ hb))
theorem OFs.frame {w' : World} : ∀ {vs : Array Value} {o : Nat} {fs : List Fd} {fp : List Nat}, OFs w B vs o fs fp → (∀ b ∈ fp, w'.heap[b]? = w.heap[b]?) → OFs w' B vs o fs fp
  | _, _, _, _, .nil, he => .nil
  | _, _, _, _, .cons h0 h1 hv hr, he => .cons h0 h1 (hv.frame fun b hb => he b (List.mem_append_left _ hb)) (hr.frame fun b hb => he b (List.mem_append_right _ hb))
theorem OV.frame {w' : World} : ∀ {v : Value} {ts : List Tm} {fp : List Nat}, OV w B v ts fp → (∀ b ∈ fp, w'.heap[b]? = w.heap[b]?) → OV w' B v ts fp
  | _, _, _, .nil, he => .nil
  | _, _, _, .emp, he => .emp
  | _, _, _, .row hB hb hn hc hs hp hr, he => .row hB (by rw [he _ (List.mem_cons_self ..)]; exact hb) hn hc hs hp (hr.frame fun b hb => he b (List.mem_cons_of_mem _ hb))
theorem OTs.frame {w' : World} : ∀ {vs : Array Value} {o : Nat} {ts : List Tm} {fp : List Nat}, OTs w B vs o ts fp → (∀ b ∈ fp, w'.heap[b]? = w.heap[b]?) → OTs w' B vs o ts fp
  | _, _, _, _, .nil, he => .nil
  | _, _, _, _, .cons ht hr, he => .cons (ht.frame fun b hb => he b (List.mem_append_left _ hb)) (hr.frame fun b hb => he b (List.mem_append_right _ hb))
end
mutual
theorem OT.base {B' : Nat} (hB' : B' ≤ B) : ∀ {vs : Array Value} {o : Nat} {t : Tm} {fp : List Nat}, OT w B vs o t fp → OT w B' vs o t fp
  | _, _, _, _, .mk h0 h1 h2 h3 h4 h5 h6 h7 hf => .mk h0 h1 h2 h3 h4 h5 h6 h7 (hf.base hB')
theorem OF.base {B' : Nat} (hB' : B' ≤ B) : ∀ {v : Value} {fs : List Fd} {fp : List Nat}, OF w B v fs fp → OF w B' v fs fp
  | _, _, _, .nil => .nil
  | _, _, _, .emp => .emp
  | _, _, _, .row hB hb hn hc hs hp hr => .row (Nat.le_trans hB' hB) hb hn hc hs hp (hr.base hB')
theorem OFs.base {B' : Nat} (hB' : B' ≤ B) : ∀ {vs : Array Value} {o : Nat} {fs : List Fd} {fp : List Nat}, OFs w B vs o fs fp → OFs w B' vs o fs fp
  | _, _, _, _, .nil => .nil
  | _, _, _, _, .cons h0 h1 hv hr => .cons h0 h1 (hv.base hB') (hr.base hB')
theorem OV.base {B' : Nat} (hB' : B' ≤ B) : ∀ {v : Value} {ts : List Tm} {fp : List Nat}, OV w B v ts fp → OV w B' v ts fp
  | _, _, _, .nil => .nil
  | _, _, _, .emp => .emp
  | _, _, _, .row hB hb hn hc hs hp hr => .row (Nat.le_trans hB' hB) hb hn hc hs hp (hr.base hB')
theorem OTs.base {B' : Nat} (hB' : B' ≤ B) : ∀ {vs : Array Value} {o : Nat} {ts : List Tm} {fp : List Nat}, OTs w B vs o ts fp → OTs w B' vs o ts fp
  | _, _, _, _, .nil => .nil
  | _, _, _, _, .cons ht hr => .cons (ht.base hB') (hr.base hB')
end
mutual
theorem OT.bd : ∀ {vs : Array Value} {o : Nat} {t : Tm} {fp : List Nat}, OT w B vs o t fp → ∀ b ∈ fp, B ≤ b ∧ b < w.heap.size
  | _, _, _, _, .mk h0 h1 h2 h3 h4 h5 h6 h7 hf => hf.bd
theorem OF.bd : ∀ {v : Value} {fs : List Fd} {fp : List Nat}, OF w B v fs fp → ∀ b ∈ fp, B ≤ b ∧ b < w.heap.size
  | _, _, _, .nil => fun b hb => by cases hb
  | _, _, _, .emp => fun b hb => by cases hb
  | _, _, _, .row hB hb hn hc hs hp hr => fun b hb' => by
    rcases List.mem_cons.1 hb' with rfl | hb'
    · exact ⟨hB, (Array.getElem?_eq_some_iff.1 hb).1⟩
    · exact hr.bd b hb'
theorem OFs.bd : ∀ {vs : Array Value} {o : Nat} {fs : List Fd} {fp : List Nat}, OFs w B vs o fs fp → ∀ b ∈ fp, B ≤ b ∧ b < w.heap.size
  | _, _, _, _, .nil => fun b hb => by cases hb
  | _, _, _, _, .cons h0 h1 hv hr => fun b hb => by
    rcases List.mem_append.1 hb with hb | hb
    · exact hv.bd b hb
    · exact hr.bd b hb
theorem OV.bd : ∀ {v : Value} {ts : List Tm} {fp : List Nat}, OV w B v ts fp → ∀ b ∈ fp, B ≤ b ∧ b < w.heap.size
  | _, _, _, .nil => fun b hb => by cases hb
  | _, _, _, .emp => fun b hb => by cases hb
  | _, _, _, .row hB hb hn hc hs hp hr => fun b hb' => by
    rcases List.mem_cons.1 hb' with rfl | hb'
    · exact ⟨hB, (Array.getElem?_eq_some_iff.1 hb).1⟩
    · exact hr.bd b hb'
theorem OTs.bd : ∀ {vs : Array Value} {o : Nat} {ts : List Tm} {fp : List Nat}, OTs w B vs o ts fp → ∀ b ∈ fp, B ≤ b ∧ b < w.heap.size
  | _, _, _, _, .nil => fun b hb => by cases hb
  | _, _, _, _, .cons ht hr => fun b hb => by
    rcases List.mem_append.1 hb with hb | hb
    · exact ht.bd b hb
    · exact hr.bd b hb
end
/-- The cells may change behind and ahead. -/
theorem OT.arr {vs vs' : Array Value} {o : Nat} {t : Tm} {fp : List Nat} (h : OT w B vs o t fp) (he : ∀ i, o ≤ i → i < o + 8 → vs'[i]? = vs[i]?) : OT w B vs' o t fp := by
  cases h with
  | mk h0 h1 h2 h3 h4 h5 h6 h7 hf =>
    have e : ∀ j, j < 8 → vs'[o + j]? = vs[o + j]? := fun j hj => he _ (by omega) (by omega)
    exact .mk ((e 0 (by omega)).trans h0) ((e 1 (by omega)).trans h1) ((e 2 (by omega)).trans h2) ((e 3 (by omega)).trans h3) ((e 4 (by omega)).trans h4) ((e 5 (by omega)).trans h5) ((e 6 (by omega)).trans h6) ((e 7 (by omega)).trans h7) hf
theorem OTs.arr {vs vs' : Array Value} : ∀ {ts : List Tm} {o : Nat} {fp : List Nat}, OTs w B vs o ts fp → (∀ i, o ≤ i → i < o + 8 * ts.length → vs'[i]? = vs[i]?) → OTs w B vs' o ts fp
  | [], _, _, h, _ => by cases h; exact .nil
  | t :: r, o, _, h, he => by
    cases h with
    | cons ht hr =>
      simp only [List.length_cons] at he
      exact .cons (ht.arr fun i h1 h2 => he i h1 (by omega)) (hr.arr fun i h1 h2 => he i (by omega) (by omega))
theorem OFs.arr {vs vs' : Array Value} : ∀ {fs : List Fd} {o : Nat} {fp : List Nat}, OFs w B vs o fs fp → (∀ i, o ≤ i → i < o + 2 * fs.length → vs'[i]? = vs[i]?) → OFs w B vs' o fs fp
  | [], _, _, h, _ => by cases h; exact .nil
  | t :: r, o, _, h, he => by
    cases h with
    | cons h0 h1 hv hr =>
      simp only [List.length_cons] at he
      exact .cons ((he o (by omega) (by omega)).trans h0) ((he (o + 1) (by omega) (by omega)).trans h1) hv (hr.arr fun i h1 h2 => he i (by omega) (by omega))
theorem OTs.snoc {vs : Array Value} {t : Tm} {f2 : List Nat} : ∀ {ts : List Tm} {o : Nat} {f1 : List Nat}, OTs w B vs o ts f1 → OT w B vs (o + 8 * ts.length) t f2 → OTs w B vs o (ts ++ [t]) (f1 ++ f2)
  | [], o, _, h, ht => by cases h; have := OTs.cons (w := w) (B := B) (r := []) (f2 := []) (by simpa using ht) .nil; simpa using this
  | x :: r, o, _, h, ht => by
    cases h with
    | cons hx hr =>
      rw [List.append_assoc]
      exact .cons hx (hr.snoc (by simp only [List.length_cons] at ht; rw [show o + 8 + 8 * r.length = o + 8 * (r.length + 1) by omega]; exact ht))
theorem OFs.snoc {vs : Array Value} {nb : ByteArray} {v : Value} {ts : List Tm} {f2 : List Nat} : ∀ {fs : List Fd} {o : Nat} {f1 : List Nat}, OFs w B vs o fs f1 →
    vs[o + 2 * fs.length]? = some (.string nb) → vs[o + 2 * fs.length + 1]? = some v → OV w B v ts f2 → OFs w B vs o (fs ++ [.mk nb.data.toList ts]) (f1 ++ f2)
  | [], o, _, h, h0, h1, hv => by cases h; have := OFs.cons (w := w) (B := B) (r := []) (f2 := []) (by simpa using h0) (by simpa using h1) hv .nil; simpa using this
  | x :: r, o, _, h, h0, h1, hv => by
    cases h with
    | cons g0 g1 gv hr =>
      rw [List.append_assoc]
      simp only [List.length_cons] at h0 h1
      exact .cons g0 g1 gv (hr.snoc (by rw [show o + 2 + 2 * r.length = o + 2 * (r.length + 1) by omega]; exact h0) (by rw [show o + 2 + 2 * r.length = o + 2 * (r.length + 1) by omega]; exact h1) hv)
end
section
variable {w : World} {B : Nat} {c : Cls} (hfz : ∀ b, B ≤ b → c b = .frz)
include hfz
mutual
theorem OT.rep : ∀ {vs : Array Value} {o : Nat} {t : Tm} {fp : List Nat}, OT w B vs o t fp → ∀ (j : Nat) (a : AV), (encT t)[j]? = some a → ∃ u, vs[o + j]? = some u ∧ Rep w c u a
  | vs, o, _, _, .mk h0 h1 h2 h3 h4 h5 h6 h7 hf, j, a, ha => by
    rw [encT] at ha
    have hj := (List.getElem?_eq_some_iff.1 ha).1
    simp only [List.length_cons, List.length_nil] at hj
    rcases (by omega : j = 0 ∨ j = 1 ∨ j = 2 ∨ j = 3 ∨ j = 4 ∨ j = 5 ∨ j = 6 ∨ j = 7) with rfl | rfl | rfl | rfl | rfl | rfl | rfl | rfl
    all_goals (simp only [List.getElem?_cons_zero, List.getElem?_cons_succ, Option.some.injEq] at ha; subst ha)
    · exact ⟨_, h0, .int _ _⟩
    · exact ⟨_, h1, .int _ _⟩
    · exact ⟨_, h2, .int _ _⟩
    · exact ⟨_, h3, .str _⟩
    · exact ⟨_, h4, .bool _⟩
    · exact ⟨_, h5, .bool _⟩
    · exact ⟨_, h6, .bool _⟩
    · exact ⟨_, h7, hf.rep⟩
theorem OF.rep : ∀ {v : Value} {fs : List Fd} {fp : List Nat}, OF w B v fs fp → Rep w c v (.sl 2 (encF fs))
  | _, _, _, .nil => by rw [encF]; exact .nil _
  | _, _, _, .emp => by rw [encF]; exact .emp _ _ _
  | _, fs, _, .row (b := b) (cap := cap) (n := n) (vs := vs) hB hb hn hc hs hp hr => by
    have hl : (encF fs).length = n := by rw [encF_map, List.length_map, hn]
    rw [← hl]
    refine Rep.sl b 0 cap 2 (encF fs) (fun i j => vs.getD (i * 2 + j) undef) (by omega) (fun i cs hi => ?_) (fun i j hi hj => ?_) (fun i j hi hj => ?_) (fun i j cs a hi hj => ?_)
    · rw [encF_map, List.getElem?_map] at hi
      cases hx : fs[i]? with
      | none => rw [hx] at hi; cases hi
      | some f => rw [hx] at hi; obtain ⟨n, v⟩ := f; cases hi; rfl
    · rw [cell_of hb, Nat.zero_add]
      have : i * 2 + j < vs.size := by omega
      simp [Array.getD_eq_getD_getElem?, this]
    · unfold stab; rw [hfz b hB]; trivial
    · obtain ⟨u, h1, h2⟩ := hr.rep i j cs a hi hj
      rw [Nat.zero_add] at h1
      show Rep w c (vs.getD (i * 2 + j) undef) a
      simp only [Array.getD_eq_getD_getElem?, h1, Option.getD_some]; exact h2
theorem OFs.rep : ∀ {vs : Array Value} {o : Nat} {fs : List Fd} {fp : List Nat}, OFs w B vs o fs fp → ∀ (i j : Nat) (cs : List AV) (a : AV), (encF fs)[i]? = some cs → cs[j]? = some a → ∃ u, vs[o + (i * 2 + j)]? = some u ∧ Rep w c u a
  | _, _, _, _, .nil, i, j, cs, a, hi, hj => by rw [encF] at hi; simp at hi
  | vs, o, _, _, .cons h0 h1 hv hr, i, j, cs, a, hi, hj => by
    rw [encF] at hi
    cases i with
    | succ i =>
      obtain ⟨u, h1, h2⟩ := hr.rep i j cs a (by simpa using hi) hj
      exact ⟨u, by rw [show o + ((i + 1) * 2 + j) = o + 2 + (i * 2 + j) by omega]; exact h1, h2⟩
    | zero =>
      simp only [List.getElem?_cons_zero, Option.some.injEq] at hi
      subst hi
      have hj' := (List.getElem?_eq_some_iff.1 hj).1
      simp only [List.length_cons, List.length_nil] at hj'
      rcases (by omega : j = 0 ∨ j = 1) with rfl | rfl
      all_goals (simp only [List.getElem?_cons_zero, List.getElem?_cons_succ, Option.some.injEq] at hj; subst hj)
      · exact ⟨_, by simpa using h0, .str _⟩
      · exact ⟨_, by simpa using h1, hv.rep⟩
theorem OV.rep : ∀ {v : Value} {ts : List Tm} {fp : List Nat}, OV w B v ts fp → Rep w c v (.sl 8 (encV ts))
  | _, _, _, .nil => by rw [encV]; exact .nil _
  | _, _, _, .emp => by rw [encV]; exact .emp _ _ _
  | _, ts, _, .row (b := b) (cap := cap) (n := n) (vs := vs) hB hb hn hc hs hp hr => by
    have hl : (encV ts).length = n := by rw [encV_map, List.length_map, hn]
    rw [← hl]
    refine Rep.sl b 0 cap 8 (encV ts) (fun i j => vs.getD (i * 8 + j) undef) (by omega) (fun i cs hi => ?_) (fun i j hi hj => ?_) (fun i j hi hj => ?_) (fun i j cs a hi hj => ?_)
    · rw [encV_map, List.getElem?_map] at hi
      cases hx : ts[i]? with
      | none => rw [hx] at hi; cases hi
      | some f => rw [hx] at hi; cases hi; exact encT_len f
    · rw [cell_of hb, Nat.zero_add]
      have : i * 8 + j < vs.size := by omega
      simp [Array.getD_eq_getD_getElem?, this]
    · unfold stab; rw [hfz b hB]; trivial
    · obtain ⟨u, h1, h2⟩ := hr.rep i j cs a hi hj
      rw [Nat.zero_add] at h1
      show Rep w c (vs.getD (i * 8 + j) undef) a
      simp only [Array.getD_eq_getD_getElem?, h1, Option.getD_some]; exact h2
theorem OTs.rep : ∀ {vs : Array Value} {o : Nat} {ts : List Tm} {fp : List Nat}, OTs w B vs o ts fp → ∀ (i j : Nat) (cs : List AV) (a : AV), (encV ts)[i]? = some cs → cs[j]? = some a → ∃ u, vs[o + (i * 8 + j)]? = some u ∧ Rep w c u a
  | _, _, _, _, .nil, i, j, cs, a, hi, hj => by rw [encV] at hi; simp at hi
  | vs, o, _, _, .cons ht hr, i, j, cs, a, hi, hj => by
    rw [encV] at hi
    cases i with
    | succ i =>
      obtain ⟨u, h1, h2⟩ := hr.rep i j cs a (by simpa using hi) hj
      exact ⟨u, by rw [show o + ((i + 1) * 8 + j) = o + 8 + (i * 8 + j) by omega]; exact h1, h2⟩
    | zero =>
      simp only [List.getElem?_cons_zero, Option.some.injEq] at hi
      subst hi
      obtain ⟨u, h1, h2⟩ := ht.rep j a hj
      exact ⟨u, by simpa using h1, h2⟩
end
end
end Go.Proofs.YtffojfcinkihnaaGreatDoor.Lat
