/- Slices that are made; calls of functions. -/
import Derived.Test.YtmdimhcjogjcgaaGreatDoorGaf
import Derived.Great.BuildSlice
set_option linter.all false
noncomputable section
namespace Go.Proofs.YtmdimhcjogjcgaaGreatDoor.Abs
open Go.RowKit
section
variable {P : Program} {τ : Tab} {B : Nat} {w : World} {c : Cls} {a : Act} {e : Env} {o : Oper} {d : Nat} {v : AV} {call : Nat → List AV → Option AV}
def CL (w : World) (c : Cls) (sz : Nat) (cells : Array Value) (L : List (List AV)) : Prop :=
 cells.size = L.length * sz ∧ (∀ (i : Nat) (cs : List AV), L[i]? = some cs → cs.length = sz) ∧
 ∀ (i j : Nat) (cs : List AV) (x : AV) (u : Value), L[i]? = some cs → cs[j]? = some x → cells[i * sz + j]? = some u → Rep w c u x
theorem sd {i n sz j : Nat} (hi : i < n) (hj : j < sz) : i * sz + j < n * sz := by
 have : (i + 1) * sz ≤ n * sz := Nat.mul_le_mul_right sz hi
 rw [Nat.add_mul] at this; omega
theorem CL.put {sz : Nat} {cells : Array Value} {L : List (List AV)} {i : Nat} {u : Value} {cs : List AV} (h : CL w c sz cells L) (hi : i < L.length) (hc : akh w c sz u cs) :
  CL w c sz (putAt cells (i * sz) u.cells.toList.zipIdx) (L.set i cs) := by
 have h1 : u.cells.toList.length = sz := by simp [hc.size]
 have hle : (i + 1) * sz ≤ L.length * sz := Nat.mul_le_mul_right sz hi
 rw [Nat.add_mul] at hle
 refine ⟨by rw [aai, List.length_set]; exact h.1, fun k cs' hk => ?_, fun k j cs' x y hk hx hy => ?_⟩
 ·rw [List.getElem?_set] at hk
  by_cases hki : i = k
  ·subst hki
   rw [if_pos rfl, if_pos hi] at hk
   cases hk; exact hc.len
  ·rw [if_neg hki] at hk
   exact h.2.1 k cs' hk
 ·rw [yl _ _ 0 cells _ (by rw [h1, h.1]; omega), h1] at hy
  simp only [Nat.add_zero] at hy
  rw [List.getElem?_set] at hk
  by_cases hki : i = k
  ·subst hki
   rw [if_pos rfl, if_pos hi] at hk
   cases hk
   have hj : j < sz := by rw [← hc.len]; exact (List.getElem?_eq_some_iff.1 hx).1
   rw [if_pos (by omega), show i * sz + j - i * sz = j by omega] at hy
   exact hc.rep j x y hx (by simpa using hy)
  ·rw [if_neg hki] at hk
   have hj : j < sz := by rw [← h.2.1 k cs' hk]; exact (List.getElem?_eq_some_iff.1 hx).1
   have hout : ¬ (i * sz ≤ k * sz + j ∧ k * sz + j < i * sz + sz) := fun ⟨p1, p2⟩ => by
    rcases Nat.lt_or_gt_of_ne hki with hlt | hlt
    ·have := Nat.mul_le_mul_right sz (Nat.succ_le_of_lt hlt)
     rw [Nat.succ_mul] at this; omega
    ·have := Nat.mul_le_mul_right sz (Nat.succ_le_of_lt hlt)
     rw [Nat.succ_mul] at this; omega
   rw [if_neg hout] at hy
   exact h.2.2 k j cs' x y hk hx hy
theorem akl {β : Type} {n k : Nat} {x y : β} (h : (List.replicate n x)[k]? = some y) : k < n ∧ x = y := by
 obtain ⟨h1, h2⟩ := List.getElem?_eq_some_iff.1 h
 exact ⟨by simpa using h1, by simpa using h2⟩
theorem ah4 (hT : db P τ) (hs : ax τ B w c (aj a) e) {t : Nat} {ti : TI} (hti : τ.T t = some ti) :
  ∀ (ps : List (Nat × Operand)) (cells : Array Value) (L r : List (List AV)), CL w c ti.sz cells L → qh τ t e ps L some = some r →
   ∃ cells', Instr.fill (fun i => some (i * ti.sz, ti.sz)) cells (ps.map fun (i, x) => (i, a.eval x)) = some cells' ∧ CL w c ti.sz cells' r ∧ r.length = L.length
 | [], cells, L, r, hc, h => by cases h; exact ⟨cells, rfl, hc, rfl⟩
 | (i, x) :: ps, cells, L, r, hc, h => by
  unfold qh at h
  obtain ⟨hi, g0⟩ := bn h
  have hi : i < L.length := by simpa using hi
  obtain ⟨b1, hb, g1⟩ := ck g0
  obtain ⟨q, hq⟩ := hb.slot hs
  obtain ⟨v', hcst, g2⟩ := iq g1
  obtain ⟨ti', hti', g3⟩ := ja g2
  rw [hti] at hti'; cases hti'
  obtain ⟨cs, hcs, g4⟩ := oa g3
  have hr := pw hT hti hcst (hq.cst hcst) hcs
  have hle : (i + 1) * ti.sz ≤ L.length * ti.sz := Nat.mul_le_mul_right ti.sz hi
  rw [Nat.add_mul] at hle
  obtain ⟨cells', h1, h2, h3⟩ := ah4 hT hs hti ps (putAt cells (i * ti.sz) (a.eval x).cells.toList.zipIdx) (L.set i cs) r (hc.put hi hr) g4
  exact ⟨cells', by rw [List.map_cons, ah2 rfl hr.size (by rw [hc.1]; omega)]; exact h1, h2, by rw [h3, List.length_set]⟩
theorem ae7 {t e sz : Nat} {parts : Array (Nat × Value)} {cells : Array Value} (hu : P.underlying t = some (.slice e)) (hs : (sizeOf e).run P w = .ok sz w)
  (h : Instr.fill (fun i => some (i * sz, sz)) #[] parts.toList = some cells) :
  (Instr.buildSlice t 0 parts).run P w = .ok (.slice (some ⟨w.heap.size, 0, none⟩) 0 0) (w.alloc (.cells cells e)) := by
 have h0 : (Array.range 0).map (fun _ => (default : Value)) = #[] := by apply Array.ext'; simp
 simp [Instr.buildSlice, cq hu, hs, newRow, h0, h]
theorem agr (hT : db P τ) {t n : Nat} {ps : Array (Nat × Operand)} (ho : o.op = .buildSlice t n ps) (hs : ax τ B w c (aj a) e) (h : val τ call e o some = some v) : ej P o a w (Left P τ B a e w c d v) := by
 unfold val at h; simp only [ho] at h
 obtain ⟨t', s, b, z, hti, h⟩ := ahz h
 obtain ⟨ti, hte, h⟩ := abv h
 obtain ⟨hn, h⟩ := bn h
 have hn : n * ti.sz ≤ 16777216 := by simpa using hn
 obtain ⟨i, zv, h1, h2, h3, h4, h5, h6, h7⟩ := (hT t' _ hte).info
 have hpos := (hT t' _ hte).pos
 have hrow : CL w c ti.sz ((Array.range (n * ti.sz)).map (zv.cells[· % zv.cells.size]!)) (List.replicate n (ti.zero.map frz)) := by
  refine ⟨by simp, fun k cs hk => ?_, fun k j cs x u hk hx hu => ?_⟩
  ·obtain ⟨_, rfl⟩ := akl hk
   simpa using h6
  ·obtain ⟨hkn, rfl⟩ := akl hk
   rw [List.getElem?_map] at hx
   cases hy : ti.zero[j]? with
   | none => rw [hy] at hx; cases hx
   | some y =>
    rw [hy] at hx; cases hx
    have hj : j < ti.sz := by rw [← h6]; exact (List.getElem?_eq_some_iff.1 hy).1
    have hlt := sd hkn hj
    have hu' : zv.cells[j]? = some u := by
     rw [Array.getElem?_map, Array.getElem?_range, if_pos hlt] at hu
     simp only [Option.map_some, Option.some.injEq] at hu
     rw [h5, Nat.mul_comm, Nat.mul_add_mod, Nat.mod_eq_of_lt hj] at hu
     rw [← hu]
     simp [h5, hj]
    have := h7 j u y hu' hy
    cases y <;> first
     | exact ac4 (this w c)
     | skip
    rename_i s l
    cases l with
    | nil => have : u = .slice none 0 0 := this; subst this; exact .nil _
    | cons y l => have := this w c; cases this
 cases hfl : qh τ t' e ps.toList (List.replicate n (ti.zero.map frz)) some with
 | none => rw [show (qh τ t' e ps.toList (List.replicate n (ti.zero.map frz)) fun l => some (AV.own ti.sz l)) = (qh τ t' e ps.toList (List.replicate n (ti.zero.map frz)) some).bind fun l => some (AV.own ti.sz l) by rw [acw]; rfl, hfl] at h; cases h
 | some r =>
  rw [show (qh τ t' e ps.toList (List.replicate n (ti.zero.map frz)) fun l => some (AV.own ti.sz l)) = (qh τ t' e ps.toList (List.replicate n (ti.zero.map frz)) some).bind fun l => some (AV.own ti.sz l) by rw [acw]; rfl, hfl] at h
  cases h
  obtain ⟨cells', k1, k2, k3⟩ := ah4 hT hs hte ps.toList _ _ r hrow hfl
  rw [List.length_replicate] at k3
  have hx := yg w c (.cells cells' t') (.own (n * ti.sz) (.slot d))
  refine .value (u := .slice (some ⟨w.heap.size, 0, none⟩) n n) (w' := w.alloc (.cells cells' t')) ?_ ⟨_, hx, ?_, .inr ⟨w.heap.size, n, cells', t', by rw [k3], hs.base, yh .., by rw [k2.1, k3], ?_, by rw [k3]; exact Nat.le_refl _, by rw [k3]; simp [mq]⟩⟩
  ·have hlist : (ps.map fun (i, x) => (i, a.eval x)).toList = ps.toList.map fun (i, x) => (i, a.eval x) := by simp
   by_cases hz : n = 0
   ·subst hz
    have hz0 : (Array.range (0 * ti.sz)).map (zv.cells[· % zv.cells.size]!) = #[] := by rw [Nat.zero_mul]; apply Array.ext'; simp
    rw [hz0] at k1
    rw [← hlist] at k1
    simp only [execOp, ho, Sem.run_bind, ae7 (tg hT hti) (lq hT hte) k1, Result.andThen_ok, Sem.run_pure]
   ·have hpos' : ¬ n * ti.sz = 0 := fun h => by rcases Nat.mul_eq_zero.1 h with h | h <;> omega
    have := run_buildSlice (P := P) w t t' n (ps.map fun (i, x) => (i, a.eval x)) cells' i zv (tg hT hti) h1 h4 (by rw [h2]; omega) (by rw [h2]; exact hpos') (by rw [h2, hlist]; exact k1)
    simp only [execOp, ho, Sem.run_bind, this, Result.andThen_ok, Sem.run_pure]
  ·cases hr0 : r with
   | nil => rw [hr0] at k3; rw [show n = 0 by simpa using k3.symm]; exact .emp _ _ _
   | cons y r' =>
    rw [← hr0]
    have := Rep.sl (w := w.alloc (.cells cells' t')) (c := mq c w.heap.size (.own (n * ti.sz) (.slot d))) w.heap.size 0 n ti.sz r (fun i j => cells'.getD (i * ti.sz + j) undef) (by omega) k2.2.1
     (fun i j hi hj => by
      have := sd hi hj
      rw [cell_of (yh w _)]; simp [k2.1, this])
     (fun i j hi hj => by
      have := sd hi hj
      show dw _ _ _
      unfold dw mq
      simp only [if_true, Nat.zero_add]
      rw [k3] at this; exact this)
     (fun i j cs x hcs hx' => by
      have hi := (List.getElem?_eq_some_iff.1 hcs).1
      have hj := (List.getElem?_eq_some_iff.1 hx').1
      rw [k2.2.1 i cs hcs] at hj
      have hlt := sd hi hj
      refine Rep.ext hx (k2.2.2 i j cs x _ hcs hx' ?_)
      simp [k2.1, hlt])
    rw [k3] at this; exact this
  ·unfold maxLen; have : n * 1 ≤ n * ti.sz := Nat.mul_le_mul_left n hpos; omega
end
end Go.Proofs.YtmdimhcjogjcgaaGreatDoor.Abs
namespace Go.Proofs.YtmdimhcjogjcgaaGreatDoor.Abs
open Go.RowKit
section
variable {P : Program} {τ : Tab} {B : Nat} {w : World} {c : Cls} {a : Act} {e : Env} {o : Oper} {d : Nat} {v : AV} {call : Nat → List AV → Option AV} {α : Type} {r : α}
theorem ae8 : ∀ {ts : List Nat} {l : List AV} {k : List AV → Option α}, pr τ ts l k = some r →
  ∃ l', l'.length = l.length ∧ (∀ (i : Nat) (x x' : AV), l[i]? = some x → l'[i]? = some x' → ∃ t, Cst τ t x x') ∧ k l' = some r
 | [], [], k, h => ⟨[], rfl, fun i x x' hx => by simp at hx, h⟩
 | [], _ :: _, _, h => by cases h
 | _ :: _, [], _, h => by cases h
 | t :: ts, x :: l, k, h => by
  obtain ⟨x', hx, g⟩ := iq (show cast τ t x _ = some r from h)
  obtain ⟨l', h1, h2, g'⟩ := ae8 g
  refine ⟨x' :: l', by simp [h1], fun i y y' hy hy' => ?_, g'⟩
  cases i with
  | zero => simp only [List.getElem?_cons_zero, Option.some.injEq] at hy hy'; subst hy; subst hy'; exact ⟨t, hx⟩
  | succ i => simp only [List.getElem?_cons_succ] at hy hy'; exact h2 i y y' hy hy'
def RC (τ : Tab) (x x' : AV) : Prop := (∃ t, Cst τ t x x') ∨ ∃ sz l, x = .own sz l ∧ x' = .own sz l
theorem jy {q : Bool} {t : Nat} {x : AV} {k : AV → Option α} (h : ou τ q t x k = some r) : ∃ x', RC τ x x' ∧ k x' = some r := by
 cases q with
 | false => obtain ⟨x', hx, g⟩ := iq h; exact ⟨x', .inl ⟨t, hx⟩, g⟩
 | true =>
  obtain ⟨_, _, _, _, i, _, _, g⟩ := ny h
  obtain ⟨l, rfl, g'⟩ := ago g
  exact ⟨_, .inr ⟨_, _, rfl, rfl⟩, g'⟩
theorem aug {q : List Bool} {t : Nat} {x : AV} {k : AV → Option α} (h : abh τ q t x k = some r) :
  (∃ x', RC τ x x' ∧ k x' = some r) ∨ ∃ l l', x = .tup l ∧ l'.length = l.length ∧ (∀ (i : Nat) (y y' : AV), l[i]? = some y → l'[i]? = some y' → RC τ y y') ∧ k (.tup l') = some r := by
 unfold abh at h
 split at h
 ·refine .inr ?_
  split at h
  ·obtain ⟨rfl, g⟩ := at1 h
   exact ⟨[], [], rfl, rfl, fun i y y' hy => by simp at hy, g⟩
  ·obtain ⟨x0, x1, rfl, g⟩ := at2 h
   obtain ⟨y0, h0, g⟩ := jy g
   obtain ⟨y1, h1, g⟩ := jy g
   refine ⟨_, [y0, y1], rfl, rfl, fun i y y' hy hy' => ?_, g⟩
   rcases i with _ | _ | i <;> simp at hy hy' <;> subst hy <;> subst hy' <;> assumption
  ·obtain ⟨x0, x1, x2, rfl, g⟩ := at3 h
   obtain ⟨y0, h0, g⟩ := jy g
   obtain ⟨y1, h1, g⟩ := jy g
   obtain ⟨y2, h2, g⟩ := jy g
   refine ⟨_, [y0, y1, y2], rfl, rfl, fun i y y' hy hy' => ?_, g⟩
   rcases i with _ | _ | _ | i <;> simp at hy hy' <;> subst hy <;> subst hy' <;> assumption
  ·obtain ⟨x0, x1, x2, x3, rfl, g⟩ := at4 h
   obtain ⟨y0, h0, g⟩ := jy g
   obtain ⟨y1, h1, g⟩ := jy g
   obtain ⟨y2, h2, g⟩ := jy g
   obtain ⟨y3, h3, g⟩ := jy g
   refine ⟨_, [y0, y1, y2, y3], rfl, rfl, fun i y y' hy hy' => ?_, g⟩
   rcases i with _ | _ | _ | _ | i <;> simp at hy hy' <;> subst hy <;> subst hy' <;> assumption
  ·cases h
 ·exact .inl (jy h)
def ren (B' : Nat) (c : Cls) (g : Nat → gp) : Cls := fun b => match c b with
 | .own st (.ret i) => if B' ≤ b then .own st (g i) else .own st (.ret i)
 | k => k
theorem auh {B' : Nat} {c : Cls} {g : Nat → gp} (b i : Nat) : dw (ren B' c g) b i ↔ dw c b i := by
 unfold dw ren
 cases hk : c b with
 | frz => simp
 | box => simp
 | own st hd =>
  cases hd with
  | ret i => by_cases hB : B' ≤ b <;> simp [hB]
  | slot | cell | comp => exact Iff.rfl
theorem ax8 {B' : Nat} {c : Cls} {g : Nat → gp} {b : Nat} (h : b < B') : ren B' c g b = c b := by
 unfold ren
 cases hk : c b with
 | frz => rfl
 | box => rfl
 | own st hd =>
  cases hd <;> simp
  omega
theorem ac5 (B' : Nat) (w : World) (c : Cls) (g : Nat → gp) : Ext B' w c w (ren B' c g) :=
 ⟨rfl, rfl, rfl, Nat.le_refl _, fun b hb _ => ⟨rfl, ax8 hb⟩, fun b i v h hs => ⟨h, (auh b i).2 hs⟩⟩
theorem eh.ren {B B' : Nat} {w : World} {c : Cls} {i sz : Nat} {u : Value} {l : List (List AV)} {g : Nat → gp} (h : eh B' w c (.ret i) u sz l) (hB : B ≤ B') : eh B w (ren B' c g) (g i) u sz l := by
 refine ⟨h.1.ext (ac5 B' w c g), h.2.imp id ?_⟩
 rintro ⟨b, cap, vs, ty, h1, h2, h3, h4, h5, h6, h7⟩
 exact ⟨b, cap, vs, ty, h1, Nat.le_trans hB h2, h3, h4, h5, h6, by simp [Abs.ren, h7, h2]⟩
theorem gy.cst {u : Value} {t : Nat} {x x' : AV} (h : gy w c u x) (hc : Cst τ t x x') : gy w c u x' :=
 (h.slot (B := 0) (T := aj ⟨#[], []⟩) (e := fun _ => .undef) (d := 0)).cst hc
theorem gq.either {B : Nat} {hd : gp} {u : Value} {x : AV} (h : gq B w c hd u x) : (∃ sz l, x = .own sz l ∧ eh B w c hd u sz l) ∨ gy w c u x := by
 cases x <;> first | exact .inr h | exact .inl ⟨_, _, rfl, h⟩
theorem gq.rc {B B' : Nat} {i : Nat} {u : Value} {x x' : AV} {g : Nat → gp} (h : gq B' w c (.ret i) u x) (hB : B ≤ B') (hc : RC τ x x') : gq B w (ren B' c g) (g i) u x' := by
 rcases hc with ⟨t, hc⟩ | ⟨sz, l, rfl, rfl⟩
 ·have hp : gy w c u x' := by
   rcases h.either with ⟨sz, l, rfl, ho⟩ | hp
   case inr => exact hp.cst hc
   obtain ⟨⟨b, e1, e2⟩ | ⟨kd, n, e1, e2⟩ | ⟨s, e1, e2⟩ | ⟨sz', l', hl, rfl⟩ | ⟨sz, cs, e1, e2⟩ | ⟨f, cs, e1, e2⟩, _⟩ := hc <;> first
    | cases e1
    | skip
   rcases hl with ⟨e1, _⟩ | e1 | e1 | ⟨q, e1⟩ | ⟨q, o, e1⟩ <;> cases e1
   exact ho.1
  have hp := hp.ext (ac5 B' w c g)
  cases x' <;> first | exact hp.elim | exact hp
 ·exact eh.ren h hB
theorem gq.a4d {u : Value} {x : AV} (h : gq B w c (.slot d) u x) : dx B w c (aj a) e d u x := by
 cases x <;> first | exact h | exact gy.slot h
theorem akm {f : Nat} {vs : Array Value} {R : Value → World → Prop} (h : (execOp a.eval o).run P w = (callFunc f vs).run P w) (hC : acz P f vs w R) : ej P o a w R := by
 rcases hC with ⟨h1, h2⟩ | ⟨u, w', h1, h2⟩
 ·exact .enter (h.trans h1) h2
 ·exact .value (h.trans h1) h2
theorem aui {x : Operand} {args : Array Operand} {ts : Array TypeId} {f : Nat} {vs : Array Value} (ho : o.op = .call ⟨.value x, args, ts⟩) (hx : a.eval x = .func (.func f) #[] vs) :
  (execOp a.eval o).run P w = (callFunc f (args.map a.eval ++ vs)).run P w := by
 simp only [execOp, ho, resolve, Deferred.ofValue, hx, Sem.run_bind, Sem.run_pure, Result.andThen_ok, invoke]
 simp
theorem auj (hcall : ∀ f l r, call f l = some r → PC P τ f l r) {x : Operand} {args : Array Operand} {ts : Array TypeId} (ho : o.op = .call ⟨.value x, args, ts⟩) (hs : ax τ B w c (aj a) e)
  (h : val τ call e o some = some v) : ej P o a w (Left P τ B a e w c d v) := by
 unfold val at h; simp only [ho] at h
 obtain ⟨b1, hb, g⟩ := ck h
 clear h
 obtain ⟨q, hq⟩ := hb.slot hs
 obtain ⟨f, caps, e1, g⟩ := agp g
 subst e1
 obtain ⟨vs, hx, hvs, hcaps⟩ := aq1 hq
 obtain ⟨l, hl, hargs, g⟩ := abu g
 obtain ⟨l', hl', hcst, g⟩ := ae8 g
 unfold tw at g
 cases hr : call f (l' ++ caps) with
 | none => rw [hr] at g; cases g
 | some r =>
 rw [hr] at g
 have g : abh τ (τ.RO f) o.type r some = some v := g
 refine akm (aui ho hx) ?_
 have hlen : (args.map a.eval).size = l'.length := by simp [hl', hl]
 have hpc := hcall f _ r hr w c (args.map a.eval ++ vs) hs.g (by simp [hl', hl, hvs]) ?_
 ·have hmono : ∀ (R : Value → World → Prop) {R' : Value → World → Prop}, acz P f (args.map a.eval ++ vs) w R → (∀ u w', R u w' → R' u w') → acz P f (args.map a.eval ++ vs) w R' := by
   rintro R R' (⟨h1, h2⟩ | ⟨u, w', h1, h2⟩) hm
   ·exact .inl ⟨h1, h2.mono fun x w' ⟨v, e1, e2⟩ => ⟨v, e1, hm _ _ e2⟩⟩
   ·exact .inr ⟨u, w', h1, hm _ _ h2⟩
  refine hmono _ hpc ?_
  rintro u w' ⟨c', hext, hres⟩
  rcases aug g with ⟨x', hrc, g⟩ | ⟨p, p', e1, hp1, hp2, g⟩
  ·cases g
   have hpart : gq w.heap.size w' c' (.ret 0) u r := by
    cases r <;> first
     | exact hres
     | skip
    rename_i tl
    rcases hrc with ⟨t, hc⟩ | ⟨sz, l, e1, e2⟩
    ·obtain ⟨⟨b, e1, e2⟩ | ⟨kd, n, e1, e2⟩ | ⟨s, e1, e2⟩ | ⟨sz', l', hl, e2⟩ | ⟨sz, cs, e1, e2⟩ | ⟨f, cs, e1, e2⟩, _⟩ := hc <;> first
      | cases e1
      | skip
     rcases hl with ⟨e1, _⟩ | e1 | e1 | ⟨q, e1⟩ | ⟨q, o, e1⟩ <;> cases e1
    ·cases e1
   exact ⟨ren w.heap.size c' fun _ => .slot d, hext.trans (ac5 ..), (gq.rc (g := fun _ => .slot d) hpart hs.base hrc).a4d⟩
  ·cases g
   subst e1
   obtain ⟨us, hu, hus, hparts⟩ := hres
   refine ⟨ren w.heap.size c' fun i => .comp d i, hext.trans (ac5 ..), us, hu, by rw [hus, hp1], fun i y' u' hy' hu' => ?_⟩
   have hi : i < p.length := by rw [← hus]; exact (Array.getElem?_eq_some_iff.1 hu').1
   have hy : p[i]? = some p[i] := List.getElem?_eq_getElem hi
   exact gq.rc (g := fun i => .comp d i) (hparts i _ u' hy hu') hs.base (hp2 i _ _ hy hy')
 ·intro i u y hu hy
  by_cases hi : i < l'.length
  ·rw [Array.getElem?_append_left (by rw [hlen]; exact hi)] at hu
   rw [List.getElem?_append_left hi] at hy
   have hi2 : i < l.length := by omega
   have hy0 : l[i]? = some l[i] := List.getElem?_eq_getElem hi2
   have hx0 : args.toList[i]? = some args.toList[i] := List.getElem?_eq_getElem (by omega)
   obtain ⟨t, hc⟩ := hcst i _ _ hy0 hy
   obtain ⟨q, hq⟩ := (hargs i _ _ hx0 hy0).slot hs
   have : u = a.eval args.toList[i] := by
    rw [Array.getElem?_map] at hu
    rw [← Array.getElem?_toList, hx0] at hu
    simpa using hu.symm
   rw [this]
   exact .inl (hq.cst hc)
  ·rw [Array.getElem?_append_right (by rw [hlen]; omega), hlen] at hu
   rw [List.getElem?_append_right (by omega)] at hy
   exact .inr (hcaps _ u y hu hy)
end
end Go.Proofs.YtmdimhcjogjcgaaGreatDoor.Abs
namespace Go.Proofs.YtmdimhcjogjcgaaGreatDoor.Abs
open Go.RowKit
section
variable {P : Program} {τ : Tab} {B : Nat} {w : World} {c : Cls} {a : Act} {e : Env} {o : Oper} {d : Nat} {v : AV} {call : Nat → List AV → Option AV}
theorem ags (hT : db P τ) (hcall : ∀ f l r, call f l = some r → PC P τ f l r) (hs : ax τ B w c (aj a) e) (h : val τ call e o some = some v) : ej P o a w (Left P τ B a e w c d v) := by
 cases ho : o.op
 case move x => exact at7 ho hs h
 case assign x => exact ao6 ho hs h
 case pick x y z => exact aua ho hs h
 case alloc t => exact aq2 hT ho hs h
 case box t x => exact ax2 hT ho hs h
 case build t ps => exact ara hT ho hs h
 case buildSlice t n ps => exact agr hT ho hs h
 case load t x => exact aue hT ho hs h
 case fieldAddr t x f => exact ai5 hT ho hs h
 case field t x f => exact aq9 hT ho hs h
 case indexAddr t x i => exact ai6 hT ho hs h
 case index t x i => exact ai7 hT ho hs h
 case slice t x lo hi mx =>
  cases mx with
  | none => exact aq7 hT ho hs h
  | some m => unfold val at h; simp only [ho] at h; cases h
 case binOp op t x y t' => exact aq5 hT ho hs h
 case unOp op t x => exact auc ho hs h
 case convert src dst x => exact am3 hT ho hs h
 case extract x i => exact am4 ho hs h
 case nilCheck x => exact akj ho hs h
 case makeFunc fn first caps =>
  cases fn
  case func f => exact akk ho hs h
  all_goals (unfold val at h; simp only [ho] at h; cases h)
 case call cl =>
  obtain ⟨callee, args, ts⟩ := cl
  cases callee
  case value f => exact auj hcall ho hs h
  case builtin b =>
   cases b
   case len => exact ax5 hT ho hs h
   case min => exact anu (mx := false) ho hs (by unfold val at h; simp only [ho] at h; exact h)
   case max => exact anu (mx := true) ho hs (by unfold val at h; simp only [ho] at h; exact h)
   all_goals (unfold val at h; simp only [ho] at h; cases h)
  case invoke => unfold val at h; simp only [ho] at h; cases h
 all_goals (unfold val at h; simp only [ho] at h; cases h)
def Live (e : Env) : gp → Prop
 | .slot d => ∃ z l, e d = .own z l
 | .cell d j => ∃ z cs m s l, e d = .boxv z cs m ∧ ovr m j = some (.own s l)
 | .comp d i => ∃ l z r, e d = .tup l ∧ l[i]? = some (.own z r)
 | .ret _ => False
def a4e (e : Env) : Kind → Prop
 | .frz => False
 | .own _ h => Live e h
 | .box d => ∃ z cs m, e d = .boxv z cs m
def Chg (e : Env) (w : World) (c : Cls) (w' : World) (c' : Cls) : Prop := ∀ b, b < w.heap.size → a4e e (c b) → w'.heap[b]? = w.heap[b]? ∧ c' b = c b
theorem agt {w : World} {b : Nat} {ob : Obj} (h : w.heap[b]? = some ob) : b < w.heap.size := (Array.getElem?_eq_some_iff.1 h).1
theorem eh.change {w' : World} {c' : Cls} {h : gp} {u : Value} {sz : Nat} {l : List (List AV)} (hx : Ext B w c w' c') (hc : Chg e w c w' c') (hl : Live e h) (ho : eh B w c h u sz l) : eh B w' c' h u sz l := by
 refine ⟨ho.1.ext hx, ho.2.imp id ?_⟩
 rintro ⟨b, cap, vs, ty, h1, h2, h3, h4, h5, h6, h7⟩
 obtain ⟨k1, k2⟩ := hc b (agt h3) (by rw [h7]; exact hl)
 exact ⟨b, cap, vs, ty, h1, h2, k1.trans h3, h4, h5, h6, k2.trans h7⟩
theorem dx.change {w' : World} {c' : Cls} {T : Nat → Value} {u : Value} {x : AV} (hs : ax τ B w c T e) (hx : Ext B w c w' c') (hc : Chg e w c w' c') (he : e d = x) (h : dx B w c T e d u x) : dx B w' c' T e d u x := by
 cases x <;> first
  | exact h
  | exact tc.ext hx h
  | exact Rep.ext hx h
  | skip
 case lit z l m => exact ⟨tc.ext hx h.1, h.2⟩
 case own z l => exact eh.change hx hc ⟨z, l, he⟩ h
 case boxv z cs m =>
  obtain ⟨b, vs, ty, h1, h2, h3, h4, h5, h6, h7, h8, h9⟩ := h
  obtain ⟨k1, k2⟩ := hc b (agt h3) (by rw [h4]; exact ⟨z, cs, m, he⟩)
  refine ⟨b, vs, ty, h1, h2, k1.trans h3, k2.trans h4, h5, h6, fun j y u p q r => (h7 j y u p q r).ext hx, fun j y u p q => ?_, h9⟩
  have := h8 j y u p q
  cases y <;> first
   | exact Rep.ext hx this
   | exact eh.change hx hc ⟨z, cs, m, _, _, he, p⟩ this
 case vw q z l => exact ⟨h.1.ext hx, h.2⟩
 case vwc q off z l =>
  refine ⟨h.1.ext hx, fun z' cs m s l' h1 h2 => ?_⟩
  obtain ⟨b, h3, h4⟩ := h.2 z' cs m s l' h1 h2
  have hq := hs.slot q
  rw [h1] at hq
  obtain ⟨b', vs, ty, g1, g2, g3, g4, _⟩ := hq
  rw [h3] at g1; cases g1
  obtain ⟨k1, k2⟩ := hc b (agt g3) (by rw [g4]; exact ⟨z', cs, m, h1⟩)
  exact ⟨b, h3, by rw [o1 (w := w) k1]; exact h4⟩
 case tup l =>
  obtain ⟨vs, h1, h2, h3⟩ := h
  refine ⟨vs, h1, h2, fun i y u p q => ?_⟩
  rcases (h3 i y u p q).either with ⟨s, l', rfl, ho⟩ | hp
  ·exact eh.change hx hc ⟨l, _, _, he, p⟩ ho
  ·have hp := hp.ext hx
   cases y <;> first | exact hp.elim | exact hp
theorem ax.change {w' : World} {c' : Cls} {T : Nat → Value} (hs : ax τ B w c T e) (hx : Ext B w c w' c') (hc : Chg e w c w' c') : ax τ B w' c' T e :=
 ⟨Nat.le_trans hs.base hx.size, hs.g.ext hx, fun d => (hs.slot d).change hs hx hc rfl⟩
end
end Go.Proofs.YtmdimhcjogjcgaaGreatDoor.Abs
namespace Go.Proofs.YtmdimhcjogjcgaaGreatDoor.Abs
open Go.RowKit
def Steps (P : Program) (o : Oper) (a : Act) (w : World) (R : Act → World → Prop) : Prop := ∀ (K : Act → World → Prop) (Q : Exit → Act → World → Prop), (∀ a' w', R a' w' → K a' w') → o.wp P a w K Q
def qk (τ : Tab) (B : Nat) (a : Act) (w : World) (c : Cls) (e' : Env) : Act → World → Prop := fun a' w' => ∃ c', Ext B w c w' c' ∧ ax τ B w' c' (aj a') e' ∧ a'.tmps.size = a.tmps.size ∧ a'.defers = a.defers
def reh (B : Nat) (c : Cls) (h h' : gp) : Cls := fun b => match c b with
 | .own st g => if B ≤ b ∧ g = h then .own st h' else .own st g
 | k => k
section
variable {P : Program} {τ : Tab} {B : Nat} {w : World} {c : Cls} {a : Act} {e : Env} {o : Oper} {d : Nat} {v : AV} {call : Nat → List AV → Option AV}
theorem akn {h h' : gp} (b i : Nat) : dw (reh B c h h') b i ↔ dw c b i := by
 unfold dw reh
 cases hk : c b with
 | frz => simp
 | box => simp
 | own st g => by_cases hg : B ≤ b ∧ g = h <;> simp [hg]
theorem wk (B : Nat) (w : World) (c : Cls) (h h' : gp) : Ext B w c w (reh B c h h') := by
 refine ⟨rfl, rfl, rfl, Nat.le_refl _, fun b hb _ => ⟨rfl, ?_⟩, fun b i v hv hs => ⟨hv, (akn b i).2 hs⟩⟩
 unfold reh
 cases hk : c b with
 | frz => rfl
 | box => rfl
 | own st g => simp; omega
theorem agu {h h' : gp} (hn : ¬ Live e h) : Chg e w c w (reh B c h h') := fun b _ hl => by
 refine ⟨rfl, ?_⟩
 unfold reh
 cases hk : c b with
 | frz => rfl
 | box => rfl
 | own st g =>
  rw [hk] at hl
  have hg : g ≠ h := fun hg => hn (hg ▸ hl)
  simp [hg]
theorem eh.reh {h h' : gp} {u : Value} {sz : Nat} {l : List (List AV)} (ho : eh B w c h u sz l) : eh B w (Abs.reh B c h h') h' u sz l := by
 refine ⟨ho.1.ext (wk B w c h h'), ho.2.imp id ?_⟩
 rintro ⟨b, cap, vs, ty, h1, h2, h3, h4, h5, h6, h7⟩
 exact ⟨b, cap, vs, ty, h1, h2, h3, h4, h5, h6, by simp [Abs.reh, h7, h2]⟩
theorem auk (T : Nat → Value) (d : Nat) : upd T d (T d) = T := by funext i; unfold upd; split <;> simp_all
theorem o4 {u : Value} (h : d < a.tmps.size) : aj (a.put (some d) u) = upd (aj a) d u := by
 funext i
 unfold aj upd Act.put
 by_cases hi : i = d
 ·subst hi; simp [h]
 ·simp [hi, Array.getElem?_setIfInBounds_ne (Ne.symm hi)]
theorem kv {dst : Option Nat} {u : Value} : (a.put dst u).tmps.size = a.tmps.size := by cases dst <;> simp [Act.put]
theorem put_defers {dst : Option Nat} {u : Value} : (a.put dst u).defers = a.defers := by cases dst <;> rfl
theorem ej.steps {R : Value → World → Prop} {R' : Act → World → Prop} (h : ej P o a w R) (hR : ∀ u w', R u w' → R' (a.put o.dst u) w') : Steps P o a w R' := fun K Q hK => h K Q fun u w' hu => hK _ _ (hR u w' hu)
theorem ax.again {T : Nat → Value} {e' : Env} (h : ax τ B w c T e) (hv : dx B w c T e d (T d) v) (hh : holds v = false) (he : e' = Abs.set e d v) : ax τ B w c T e' := by
 have := h.put (e' := Abs.set e d v) hv (cy ..) (fun s hs => by rw [ea _ _ hs]; exact .refl _) (fun h => by rw [hh] at h; cases h)
 rw [auk] at this
 rw [he]; exact this
theorem ako (h : ej P o a w (Left P τ B a e w c (o.dst.getD 0) v)) (hs : ax τ B w c (aj a) e) (hd : ∀ d, o.dst = some d → d < a.tmps.size) : Steps P o a w (qk τ B a w c (j5 e o.dst v)) := by
 refine h.steps fun u w' hu => ?_
 obtain ⟨c', h1, h2⟩ := hu
 cases hdst : o.dst with
 | none => exact ⟨c', h1.mono hs.base, hs.alloc h1, kv, put_defers⟩
 | some d =>
  rw [hdst] at h2
  refine ⟨c', h1.mono hs.base, ?_, kv, put_defers⟩
  rw [o4 (hd d hdst)]
  exact (hs.alloc h1).j5 h2
theorem aaj {e1 : Env} {h : gp} {u : Value} {z : Nat} {l : List (List AV)} (hs : ax τ B w c (aj a) e1) (hn : ¬ Live e1 h) (ho : eh B w c h u z l) (hd : d < a.tmps.size)
  (hrun : (execOp a.eval o).run P w = .ok (.value u) w) (hdst : o.dst = some d) : Steps P o a w (qk τ B a w c (Abs.set (kill d e1) d (.own z l))) := by
 refine (ej.value (R := fun u' w' => u' = u ∧ w' = w) hrun ⟨rfl, rfl⟩).steps fun u' w' hu => ?_
 obtain ⟨rfl, rfl⟩ := hu
 refine ⟨reh B c h (.slot d), wk .., ?_, kv, put_defers⟩
 rw [hdst, o4 hd]
 exact (hs.change (wk B w' c h (.slot d)) (agu hn)).j5 (v := .own z l) ho.reh
theorem aak {u : Value} (hs : ax τ B w c (aj a) e) (hv : dx B w c (aj a) e d u v) (hh : holds v = false) (hd : d < a.tmps.size)
  (hrun : (execOp a.eval o).run P w = .ok (.value u) w) (hdst : o.dst = some d) : Steps P o a w (qk τ B a w c (Abs.set e d v)) := by
 refine (ej.value (R := fun u' w' => u' = u ∧ w' = w) hrun ⟨rfl, rfl⟩).steps fun u' w' hu => ?_
 obtain ⟨rfl, rfl⟩ := hu
 refine ⟨c, Ext.refl .., ?_, kv, put_defers⟩
 rw [hdst, o4 hd]
 have := hs.j5 hv
 rw [aaf hh] at this
 exact this
theorem aul {T : Nat → Value} {u : Value} {x : AV} (h : dx B w c T e d u x) : dx B w c T e d u (cl x) := by
 cases x <;> first
  | exact h
  | exact h.1
  | trivial
theorem cl_holds {x : AV} (h : holds x = false) : holds (cl x) = false := by cases x <;> first | rfl | exact h
theorem aum {res : List Nat} {x : Operand} {b : AV} {e' : Env} (ho : o.op = .assign x) (hs : ax τ B w c (aj a) e) (hb : OpV e x b) (hd : d < a.tmps.size) (hdst : o.dst = some d)
  (h : acr τ res e o.type d x b some = some e') : Steps P o a w (qk τ B a w c e') := by
 have hrun : (execOp a.eval o).run P w = .ok (.value (a.eval x)) w := by simp [execOp, ho]
 obtain ⟨q0, hq⟩ := hb.slot hs
 unfold acr at h
 split at h
 ·rename_i s z l
  cases h
  have hes : e s = .own z l := by
   obtain ⟨_, ⟨t, h1, h2⟩ | ⟨k, h1, _⟩ | ⟨f, h1, _⟩⟩ := hb <;> cases h1
   exact abw h2
  have hso := hs.slot s
  rw [hes] at hso
  refine aaj (h := .slot s) (u := aj a s) (hs.ku fun t => ?_) ?_ hso hd hrun hdst
  ·by_cases ht : t = s
   ·subst ht; rw [cy, hes]; exact .own ..
   ·rw [ea _ _ ht]; exact .refl _
  ·rintro ⟨z', l', hx⟩
   rw [cy] at hx; cases hx
 ·rename_i s q z l
  have hes : e s = .vw q z l := by
   obtain ⟨_, ⟨t, h1, h2⟩ | ⟨k, h1, _⟩ | ⟨f, h1, _⟩⟩ := hb <;> cases h1
   exact at6 h2
  have hso := hs.slot s
  rw [hes] at hso
  split at h
  ·rename_i z' l' hr heq
   cases h
   have hqo := hs.slot q
   rw [heq] at hqo
   have hsq : aj a s = aj a q := hso.2 z' l' heq
   have hqs : q ≠ s := fun hh => by rw [hh, hes] at heq; cases heq
   have h1 : ax τ B w c (aj a) (Abs.set e q (.sl z' l')) := hs.ku fun t => by
    by_cases ht : t = q
    ·subst ht; rw [cy, heq]; exact .own ..
    ·rw [ea _ _ ht]; exact .refl _
   have h2 : ax τ B w c (aj a) (Abs.set (Abs.set e q (.sl z' l')) s (.sl z' l')) := h1.again (by rw [hsq]; exact hqo.1) rfl rfl
   refine aaj (h := .slot q) (u := aj a q) h2 ?_ hqo hd (by rw [hrun]; exact congrArg (fun u => Result.ok (Next.value u) w) hsq) hdst
   rintro ⟨z'', l'', hx⟩
   rw [ea _ _ hqs, cy] at hx; cases hx
  ·cases h
   exact aak hs (v := .sl z l) hso.1 rfl hd hrun hdst
 ·obtain ⟨_, _, _, _, i, _, _, g⟩ := ny h
  cases g
  have hq : Rep w c _ .nil := hq
  generalize a.eval x = u at *
  cases hq
  refine aaj (h := .ret 0) (u := .slice none 0 0) (c := c) (e1 := e) hs (fun hh => hh) ⟨.nil _, .inl ⟨rfl, rfl⟩⟩ hd hrun hdst
 ·cases h
 ·cases h
 ·cases h
 ·cases h
 ·cases h
  rename_i h1 h2 h3 h4 h5 h6 h7
  have hq' : dx B w c (aj a) e d (a.eval x) (cl b) := by
   have := aul hq
   cases b <;> first
    | exact this
    | (exfalso; first | exact h2 _ _ rfl | exact h3 _ _ _ rfl | exact h4 _ _ rfl | exact h5 _ rfl)
  refine aak hs hq' (cl_holds ?_) hd hrun hdst
  cases b <;> first
   | rfl
   | (exfalso; first | exact h2 _ _ rfl | exact h3 _ _ _ rfl)
end
end Go.Proofs.YtmdimhcjogjcgaaGreatDoor.Abs
namespace Go.Proofs.YtmdimhcjogjcgaaGreatDoor.Abs
open Go.RowKit
section
variable {P : Program} {τ : Tab} {B : Nat} {w : World} {c : Cls} {a : Act} {e : Env} {o : Oper} {d : Nat} {v : AV} {call : Nat → List AV → Option AV}
theorem arb {x : Operand} {s i : Nat} {e' : Env} (ho : o.op = .extract (.tmp s) i) (hs : ax τ B w c (aj a) e) (hd : ∀ d, o.dst = some d → d < a.tmps.size)
  (h : aeu e o.dst s i some (e s) = some e') : Steps P o a w (qk τ B a w c e') := by
 cases hes : e s <;> rw [hes] at h <;> first
  | cases h
  | skip
 rename_i l
 obtain ⟨y, hy, g⟩ := qq h
 have hso := hs.slot s
 rw [hes] at hso
 obtain ⟨vs, h1, h2, h3⟩ := hso
 have hlt : i < l.length := (List.getElem?_eq_some_iff.1 hy).1
 have hvi : vs[i]? = some vs[i] := by simp [h2, hlt]
 have hp := h3 i y _ hy hvi
 have hrun : (execOp a.eval o).run P w = .ok (.value vs[i]) w := by
  have : a.eval (.tmp s) = .tuple vs := h1
  simp [execOp, ho, this, Instr.extract, h2, hlt]
 split at g
 ·rename_i z y'
  cases g
  have h1' : ax τ B w c (aj a) (Abs.set e s (.tup (l.set i (.sl z y')))) := by
   refine hs.again (d := s) (v := .tup (l.set i (.sl z y'))) ⟨vs, h1, by rw [h2, List.length_set], fun j q u hq hu => ?_⟩ rfl rfl
   rw [List.getElem?_set] at hq
   by_cases hij : i = j
   ·subst hij
    rw [if_pos rfl, if_pos hlt] at hq
    cases hq
    rw [hvi] at hu; cases hu
    exact hp.1
   ·rw [if_neg hij] at hq
    exact h3 j q u hq hu
  cases hdst : o.dst with
  | none =>
   refine (ej.value (R := fun u' w' => u' = vs[i] ∧ w' = w) hrun ⟨rfl, rfl⟩).steps fun u' w' hu => ?_
   obtain ⟨rfl, rfl⟩ := hu
   exact ⟨c, Ext.refl .., by rw [hdst]; exact h1', kv, put_defers⟩
  | some d =>
   refine aaj (h := .comp s i) h1' ?_ hp (hd d hdst) hrun hdst
   rintro ⟨l', z', r, hx, hx'⟩
   rw [cy] at hx; cases hx
   rw [List.getElem?_set, if_pos rfl, if_pos hlt] at hx'
   cases hx'
 ·obtain ⟨hne, g⟩ := xg g
  cases g
  rename_i hno
  have hpl : gy w c vs[i] y := by
   rcases hp.either with ⟨z, l', rfl, _⟩ | hp
   ·exact absurd rfl (hno z l')
   ·exact hp
  cases hdst : o.dst with
  | none =>
   refine (ej.value (R := fun u' w' => u' = vs[i] ∧ w' = w) hrun ⟨rfl, rfl⟩).steps fun u' w' hu => ?_
   obtain ⟨rfl, rfl⟩ := hu
   exact ⟨c, Ext.refl .., by rw [hdst]; exact hs, kv, put_defers⟩
  | some d =>
   refine aak hs hpl.slot ?_ (hd d hdst) hrun hdst
   cases y <;> first | rfl | exact (hpl : False).elim
def CLL (w : World) (c : Cls) (sz : Nat) (us : List Value) (L : List (List AV)) : Prop :=
 us.length = L.length * sz ∧ (∀ (i : Nat) (cs : List AV), L[i]? = some cs → cs.length = sz) ∧
 ∀ (i j : Nat) (cs : List AV) (x : AV) (u : Value), L[i]? = some cs → cs[j]? = some x → us[i * sz + j]? = some u → Rep w c u x
theorem CLL.ext {w' : World} {c' : Cls} {sz : Nat} {us : List Value} {L : List (List AV)} (hx : Ext B w c w' c') (h : CLL w c sz us L) : CLL w' c' sz us L :=
 ⟨h.1, h.2.1, fun i j cs x u p q r => (h.2.2 i j cs x u p q r).ext hx⟩
theorem CLL.append {sz : Nat} {us vs : List Value} {L M : List (List AV)} (h : CLL w c sz us L) (k : CLL w c sz vs M) : CLL w c sz (us ++ vs) (L ++ M) := by
 refine ⟨by simp [h.1, k.1, Nat.add_mul], fun i cs hi => ?_, fun i j cs x u hi hj hu => ?_⟩
 ·by_cases hl : i < L.length
  ·rw [List.getElem?_append_left hl] at hi; exact h.2.1 i cs hi
  ·rw [List.getElem?_append_right (by omega)] at hi; exact k.2.1 _ cs hi
 ·by_cases hl : i < L.length
  ·rw [List.getElem?_append_left hl] at hi
   have hjs : j < sz := by rw [← h.2.1 i cs hi]; exact (List.getElem?_eq_some_iff.1 hj).1
   rw [List.getElem?_append_left (by rw [h.1]; exact sd hl hjs)] at hu
   exact h.2.2 i j cs x u hi hj hu
  ·rw [List.getElem?_append_right (by omega)] at hi
   have hle : L.length * sz ≤ i * sz := Nat.mul_le_mul_right sz (by omega)
   rw [List.getElem?_append_right (by rw [h.1]; omega), h.1] at hu
   rw [show i * sz + j - L.length * sz = (i - L.length) * sz + j by rw [Nat.sub_mul]; omega] at hu
   exact k.2.2 _ j cs x u hi hj hu
theorem oc {u : Value} {sz : Nat} {l : List (List AV)} (h : Rep w c u (.sl sz l)) : ∃ bo cap us, u = .slice bo l.length cap ∧ l.length ≤ cap ∧ (bo = none → cap = 0) ∧ CLL w c sz us l ∧
  (∀ p, bo = some p → ∀ (k : Nat) (y : Value), us[k]? = some y → w.cell? (p.add k) = some y) ∧ ∀ p, bo = some p → 0 < l.length → p.spot = none := by
 obtain ⟨bo, cap, h1, h2, h3, h4⟩ := gz h
 by_cases hl : 0 < l.length
 ·obtain ⟨g, q, rfl, h5, f, h6, h7, h8⟩ := h4 hl
  refine ⟨_, cap, (List.range (l.length * sz)).map fun k => f (k / sz) (k % sz), h1, h2, h3, ⟨by simp, h5, fun i j cs x u hi hj hu => ?_⟩, fun p hp k y hy => ?_, fun p hp _ => by cases hp; rfl⟩
  ·have hi' := (List.getElem?_eq_some_iff.1 hi).1
   have hj' : j < sz := by rw [← h5 i cs hi]; exact (List.getElem?_eq_some_iff.1 hj).1
   have hlt := sd hi' hj'
   rw [List.getElem?_map, List.getElem?_range hlt] at hu
   simp only [Option.map_some, Option.some.injEq] at hu
   rw [show (i * sz + j) / sz = i by rw [Nat.mul_comm, Nat.mul_add_div (by omega), Nat.div_eq_of_lt hj']; omega, show (i * sz + j) % sz = j by rw [Nat.mul_comm, Nat.mul_add_mod, Nat.mod_eq_of_lt hj']] at hu
   rw [← hu]; exact h8 i j cs x hi hj
  ·cases hp
   have hk := (List.getElem?_eq_some_iff.1 hy).1
   simp only [List.length_map, List.length_range] at hk
   rw [List.getElem?_map, List.getElem?_range hk] at hy
   simp only [Option.map_some, Option.some.injEq] at hy
   have hsz : 0 < sz := Nat.pos_of_ne_zero fun h0 => by subst h0; omega
   rw [j6, ← hy]
   have hd : k / sz * sz + k % sz = k := by rw [Nat.mul_comm]; exact Nat.div_add_mod k sz
   have := h6 (k / sz) (k % sz) ((Nat.div_lt_iff_lt_mul hsz).2 hk) (Nat.mod_lt _ hsz)
   rw [hd] at this; exact this
 ·have : l = [] := List.eq_nil_of_length_eq_zero (by omega)
  subst this
  exact ⟨bo, cap, [], h1, h2, h3, ⟨by simp, fun i cs hi => by simp at hi, fun i j cs x u hi => by simp at hi⟩, fun p hp k y hy => by simp at hy, fun p hp h => by simp at h⟩
theorem adj {b cap sz : Nat} {vs : Array Value} {ty : TypeId} {fr : Nat × Nat} {us : List Value} {L : List (List AV)} (hb : w.heap[b]? = some (.cells vs ty fr)) (h : CLL w c sz us L) (hcap : L.length ≤ cap)
  (hus : ∀ (k : Nat) (u : Value), us[k]? = some u → vs[k]? = some u) (hst : ∀ k, k < L.length * sz → dw c b k) : Rep w c (.slice (some ⟨b, 0, none⟩) L.length cap) (.sl sz L) := by
 have hget : ∀ i j, i < L.length → j < sz → us[i * sz + j]? = some (us.getD (i * sz + j) undef) := fun i j hi hj => by
  have := sd hi hj
  simp [h.1, this]
 cases hL : L with
 | nil => exact .emp _ _ _
 | cons y r =>
  rw [← hL]
  refine Rep.sl b 0 cap sz L (fun i j => us.getD (i * sz + j) undef) hcap h.2.1 (fun i j hi hj => ?_) (fun i j hi hj => ?_) (fun i j cs x hi hj => ?_)
  ·rw [cell_of hb, Nat.zero_add]; exact hus _ _ (hget i j hi hj)
  ·rw [Nat.zero_add]; exact hst _ (sd hi hj)
  ·have h1 := (List.getElem?_eq_some_iff.1 hi).1
   have h2 : j < sz := by rw [← h.2.1 i cs hi]; exact (List.getElem?_eq_some_iff.1 hj).1
   exact h.2.2 i j cs x _ hi hj (hget i j h1 h2)
theorem arc {w' : World} {el sz n : Nat} {u : Value} {us : List Value} {L : List (List AV)} {h : gp} (hg : w.grownBy w' none) (ho : w'.ownsRow w.heap.size el sz u n us) (hn : n = L.length) (hc : CLL w c sz us L) :
  ∃ c', Ext w.heap.size w c w' c' ∧ eh w.heap.size w' c' h u sz L := by
 subst hn
 refine ⟨fun b => if w.heap.size ≤ b then .own (L.length * sz) h else c b, ?_⟩
 have hx : Ext w.heap.size w c w' (fun b => if w.heap.size ≤ b then .own (L.length * sz) h else c b) := by
  refine ⟨hg.os, hg.tape, hg.output, hg.size, fun b hb _ => ⟨hg.block b hb (by simp), by simp [Nat.not_le.2 hb]⟩, fun b i v hv hs => ?_⟩
  have hb := re hv
  refine ⟨by rw [o1 (w := w) (hg.block b hb (by simp))]; exact hv, by unfold dw at *; simpa [Nat.not_le.2 hb] using hs⟩
 refine ⟨hx, ?_⟩
 rcases ho.2 with ⟨rfl, h0⟩ | ⟨g, cap, cur, rfl, h1, h2, h3, h4, h5, h6⟩
 ·have : L = [] := List.eq_nil_of_length_eq_zero h0
  subst this
  exact ⟨.nil _, .inl ⟨rfl, rfl⟩⟩
 ·refine ⟨adj h2 (hc.ext hx) h3 (fun k u hu => ?_) (fun k hk => by unfold dw; simpa [h1] using hk), .inr ⟨g, cap, cur, el, rfl, h1, h2, h5, h4, h3, by simp [h1]⟩⟩
  rw [← h6] at hu
  rw [List.getElem?_take] at hu
  split at hu
  ·simpa using hu
  ·cases hu
end
end Go.Proofs.YtmdimhcjogjcgaaGreatDoor.Abs
