/- More operations: elements, pieces, arithmetic, loads. -/
import Derived.Test.YtmdimhcjogjcgaaGreatDoorMA
import Derived.Lib.Strings
import Derived.Laws.BytesArg
set_option linter.unusedVariables false
set_option linter.unusedSimpArgs false
set_option linter.unusedSectionVars false
set_option linter.deprecated false
set_option linter.unnecessarySimpa false
namespace Go.Proofs.YtmdimhcjogjcgaaGreatDoor.Abs
open Go.RowKit
section
variable {P : Program} {τ : Tab} {B : Nat} {w : World} {c : Cls} {a : Act} {e : Env} {o : Oper} {d : Nat} {v : AV} {call : Nat → List AV → Option AV}
theorem slice_of (hT : TabOK P τ) {t el s b : Nat} {z : List AV} (hti : τ.T t = some ⟨.slice el, s, b, z⟩) : P.underlying t = some (.slice el) := (hT t _ hti).kind.1.1
theorem info_of (hT : TabOK P τ) {t : Nat} {ti : TI} (hti : τ.T t = some ti) : ∃ i, P.info? t = some i ∧ i.size = ti.sz := by
  obtain ⟨i, z, h1, h2, _⟩ := (hT t _ hti).info; exact ⟨i, h1, h2⟩
theorem size_of (hT : TabOK P τ) {t : Nat} {ti : TI} (hti : τ.T t = some ti) : (sizeOf t).run P w = .ok ti.sz w := by
  obtain ⟨i, h1, h2⟩ := info_of hT hti; rw [run_size h1, h2]
theorem rep_elem {u : Value} {sz : Nat} {l : List (List AV)} {n : Nat} {cs : List AV} (h : Rep w c u (.sl sz l)) (hn : l[n]? = some cs) : ∃ g q cap, u = .slice (some ⟨g, q, none⟩) l.length cap ∧ n < l.length ∧ Rep w c (.pointer (some ⟨g, q + n * sz, none⟩)) (.eptr sz cs 0) := by
  obtain ⟨b, cap, hu, h1, h2, h3⟩ := rep_sl h
  have hlt : n < l.length := (List.getElem?_eq_some_iff.1 hn).1
  obtain ⟨g, q, hb, h4, f, h5, h6, h7⟩ := h3 (by omega)
  subst hb
  refine ⟨g, q, cap, hu, hlt, ?_⟩
  have := Rep.eptr (w := w) (c := c) g (q + n * sz) sz cs 0 (f n) (h4 n cs hn) (fun j hj => by rw [Nat.add_assoc]; exact h5 n j hlt hj) (fun j hj => by rw [Nat.add_assoc]; exact h6 n j hlt hj) (fun j x hx => h7 n j cs x hn hx)
  exact this
theorem sim_indexAddr (hT : TabOK P τ) {t : Nat} {x i : Operand} (ho : o.op = .indexAddr t x i) (hs : SRel τ B w c (slots a) e) (h : val τ call e o some = some v) : Does P o a w (Left P τ B a e w c d v) := by
  unfold val at h; simp only [ho] at h
  have h : idxAddr τ e t x i some = some v := h
  unfold idxAddr at h
  split at h
  · rename_i g _
    split at h
    · rename_i n t' s b z cs0 hti hg
      obtain ⟨ti, hte, h⟩ := szOf_inv h
      obtain ⟨hgd, h⟩ := guardK_inv h
      simp only [Bool.and_eq_true] at hgd
      have h1 : ti.sz = 1 := Nat.eq_of_beq_eq_true hgd.1
      have h2 : cs0.length = n := Nat.eq_of_beq_eq_true hgd.2
      obtain ⟨b2, hb2, h⟩ := opnd_inv h
      obtain ⟨q2, hq2⟩ := hb2.slot hs
      obtain ⟨kd, m, rfl, h⟩ := asN_inv h
      obtain ⟨y, hn, hy, h⟩ := idx_inv h
      cases h
      have hi : a.eval i = .int kd m := rep_int hq2
      obtain ⟨b, n0, k1, _, f, k2, k3, k4⟩ := rep_eptr (hs.g g cs0 hg)
      have hlt : m.toNat < cs0.length := (List.getElem?_eq_some_iff.1 hy).1
      have hu : P.underlying t = some (.array n t') := (hT t _ hti).kind
      have hev : a.eval (.global g) = .pointer (some ⟨b, n0 + 0, none⟩) := k1
      have hlt' : m < (n : Int) := by omega
      refine does_same (u := .pointer (some ⟨b, n0 + m.toNat, none⟩)) ?_ (Rep.eptr b (n0 + m.toNat) 1 [y] 0 (fun _ => f m.toNat) rfl (fun j hj => ?_) (fun j hj => ?_) (fun j x hx => ?_))
      · simp [execOp, ho, Instr.indexAt, hi, asIntOf, run_under hu, hev, Instr.sureAddr, hn, hlt', size_of hT hte, h1, Addr.add]
      · obtain rfl : j = 0 := by omega
        rw [Nat.add_zero]; exact k2 _ hlt
      · obtain rfl : j = 0 := by omega
        rw [Nat.add_zero]; exact k3 _ hlt
      · rcases j with _ | j
        · cases hx; exact k4 _ _ hy
        · cases hx
    · cases h
  · obtain ⟨el, s, b, z, hti, h⟩ := elemK_inv h
    obtain ⟨ti, hte, h⟩ := szOf_inv h
    obtain ⟨b1, hb, h⟩ := opnd_inv h
    obtain ⟨q, hq⟩ := hb.slot hs
    obtain ⟨l, hl, h⟩ := asL_inv h
    obtain ⟨b2, hb2, h⟩ := opnd_inv h
    obtain ⟨q2, hq2⟩ := hb2.slot hs
    obtain ⟨kd, n, rfl, h⟩ := asN_inv h
    obtain ⟨cs, hn, hcs, h⟩ := idx_inv h
    cases h
    obtain ⟨g, qo, cap, hu, hlt, hr⟩ := rep_elem (hq.isL hl) hcs
    have hi : a.eval i = .int kd n := rep_int hq2
    refine does_same (u := .pointer (some ⟨g, qo + n.toNat * ti.sz, none⟩)) ?_ hr
    have hlt' : n < (l.length : Int) := by omega
    simp [execOp, ho, Instr.indexAt, hi, asIntOf, run_under (slice_of hT hti), hu, hn, hlt', size_of hT hte, add_none]
theorem ba_get {bs : ByteArray} {n : Nat} {b : UInt8} (h : bs.data.toList[n]? = some b) : bs[n]? = some b := by
  have h1 := List.getElem?_eq_some_iff.1 h
  have hlt : n < bs.size := by obtain ⟨h2, _⟩ := h1; simpa using h2
  rw [getElem?_pos bs n hlt]
  obtain ⟨_, h3⟩ := h1
  exact congrArg some (by rw [← h3]; rfl)
theorem sim_index_str (hT : TabOK P τ) {t : Nat} {x i : Operand} (ho : o.op = .index t x i) (hs : SRel τ B w c (slots a) e) (h : val τ call e o some = some v) : Does P o a w (Left P τ B a e w c d v) := by
  unfold val at h; simp only [ho] at h
  obtain ⟨b1, hb, h⟩ := opnd_inv h
  obtain ⟨q, hq⟩ := hb.slot hs
  obtain ⟨b2, hb2, h⟩ := opnd_inv h
  obtain ⟨q2, hq2⟩ := hb2.slot hs
  obtain ⟨kd, n, hb2', h⟩ := asN_inv h
  subst hb2'
  have hi : a.eval i = .int kd n := rep_int hq2
  replace h : indexK τ t b1 n some = some v := h
  unfold indexK at h
  split at h
  · rename_i sz bb z hti
    obtain ⟨s, rfl, h⟩ := asS_inv h
    obtain ⟨by_, hn, hcs, h⟩ := idx_inv h
    cases h
    obtain ⟨bs, hu, rfl⟩ := rep_str hq
    have hx : bs[n.toNat]? = some by_ := ba_get hcs
    refine does_same (u := .int .u8 by_.toNat) ?_ (Rep.int _ _)
    have hk : P.underlying t = some .string := ((hT t _ hti).kind).1
    simp [execOp, ho, Instr.index, hi, asIntOf, run_under hk, hu, hn, hx]
  · rename_i n' t' sz bb z hti
    obtain ⟨ti, hte, h⟩ := szOf_inv h
    obtain ⟨hg, h⟩ := guardK_inv h
    simp only [Bool.and_eq_true] at hg
    have h1 : ti.sz = 1 := Nat.eq_of_beq_eq_true hg.1
    have h2 : sz = n' := Nat.eq_of_beq_eq_true hg.2
    obtain ⟨cs, hagg, h'⟩ := asC_inv h
    subst hagg
    obtain ⟨x', hn, hcs, h'⟩ := idx_inv h'
    obtain ⟨v', hc, h'⟩ := cast_inv h'
    cases h'
    obtain ⟨vs, hu, h3, h4, h5⟩ := hq
    have hlt : n.toNat < cs.length := (List.getElem?_eq_some_iff.1 hcs).1
    have hlv : n.toNat < vs.size := by omega
    have hr := h5 n.toNat x' vs[n.toNat] hcs (by simp [hlv])
    have hp := hr.plain hc
    have hk : P.underlying t = some (.array n' t') := (hT t _ hti).kind
    refine does_same (u := vs[n.toNat]) ?_ hp.slot
    have hkk := (hT t' ti hte).kind
    have hagg : (isAgg t').run P w = .ok false w := by
      obtain ⟨_, i2, hi2, hm⟩ := hc
      rw [hte] at hi2; cases hi2
      have hone := rep_one hr
      generalize hkd : ti.k = kk at *
      cases kk <;> simp only at hkk hm
      case bool => simp [isAgg, run_under hkk.1]
      case int => simp [isAgg, run_under hkk.1]
      case str => simp [isAgg, run_under hkk.1]
      case slice => simp [isAgg, run_under hkk.1.1]
      case func => obtain ⟨⟨ps, rs, vv, hkk⟩, _⟩ := hkk; simp [isAgg, run_under hkk]
      case struct => cases v <;> simp at hm; obtain ⟨vs', hvv, _⟩ := hp; rw [hvv] at hone; cases hone
      case array => cases v <;> simp at hm; obtain ⟨vs', hvv, _⟩ := hp; rw [hvv] at hone; cases hone
    have hlt' : n < (n' : Int) := by omega
    simp [execOp, ho, Instr.index, hi, asIntOf, run_under hk, hu, hn, hlt', size_of hT hte, h1, part, hagg, hlv]
  · cases h
theorem bytesLt_eq : ∀ x y : List UInt8, Op.bytesLess x y = bytesLt x y
  | _, [] => by cases ‹List UInt8› <;> rfl
  | [], _ :: _ => rfl
  | a :: x, b :: y => by simp only [Op.bytesLess, bytesLt, bytesLt_eq x y]
theorem guard_int {op : BinOp} {t : TypeId} {x y : Operand} {k : IntKind} {n : Int} {u' : Value} : (eqGuard op t x y (.int k n) u').run P w = .ok () w := by cases op <;> rfl
theorem guard_str {op : BinOp} {t : TypeId} {x y : Operand} {s : ByteArray} {u' : Value} : (eqGuard op t x y (.string s) u').run P w = .ok () w := by cases op <;> rfl
theorem guard_bool {op : BinOp} {t : TypeId} {x y : Operand} {s : Bool} {u' : Value} : (eqGuard op t x y (.bool s) u').run P w = .ok () w := by cases op <;> rfl
theorem run_binOp {op : BinOp} {t t' : Nat} {x y : Operand} {u : Value} (ho : o.op = .binOp op t x y t') (hg : (eqGuard op t x y (a.eval x) (a.eval y)).run P w = .ok () w)
    (hr : (binOp op t (a.eval x) (a.eval y)).run P w = .ok u w) : (execOp a.eval o).run P w = .ok (.value u) w := by
  simp only [execOp, ho, Sem.run_bind, hg, hr, Result.andThen_ok, Sem.run_pure]
theorem beq_lst (l l' : List UInt8) : (l == l') = decide (l = l') := by rw [Bool.eq_iff_iff, beq_iff_eq, decide_eq_true_iff]
theorem beq_int (m n : Int) : (m == n) = decide (m = n) := by rw [Bool.eq_iff_iff, beq_iff_eq, decide_eq_true_iff]
theorem sim_binOp (hT : TabOK P τ) {op : BinOp} {t t' : Nat} {x y : Operand} (ho : o.op = .binOp op t x y t') (hs : SRel τ B w c (slots a) e) (h : val τ call e o some = some v) : Does P o a w (Left P τ B a e w c d v) := by
  unfold val at h; simp only [ho] at h
  obtain ⟨b1, hb, g1⟩ := opnd_inv h
  clear h
  obtain ⟨q, hq⟩ := hb.slot hs
  obtain ⟨b2, hb2, g2⟩ := opnd_inv g1
  clear g1
  obtain ⟨q2, hq2⟩ := hb2.slot hs
  have hh := bin_inv g2
  clear g2
  rcases hh with ⟨k1, m, k2, n, e1, e2, h⟩ | ⟨s1, s2, e1, e2, h⟩ | ⟨p1, p2, e1, e2, ⟨sz, bb, z, hti⟩, h⟩ <;> subst e1 <;> subst e2
  · have h1 : a.eval x = .int k1 m := rep_int hq
    have h2 : a.eval y = .int k2 n := rep_int hq2
    have gd : ∀ {u}, (binOp op t (.int k1 m) (.int k2 n)).run P w = .ok u w → SlotR B w c (slots a) e d u v → Does P o a w (Left P τ B a e w c d v) := fun {u} hr hu =>
      does_same (run_binOp ho (by rw [h1]; exact guard_int) (by rw [h1, h2]; exact hr)) hu
    rcases h with h | ⟨hk, h⟩
    · cases op <;> simp only [shI] at h <;> first
        | (cases h; done)
        | skip
      · obtain ⟨hg, h⟩ := guardK_inv h; cases h
        have hg := of_decide_eq_true hg
        exact gd (by simp only [binOp, Op.shift, Int.not_lt.2 hg, if_false, Sem.run_pure]) (Rep.int _ _)
      · obtain ⟨hg, h⟩ := guardK_inv h; cases h
        have hg := of_decide_eq_true hg
        exact gd (by simp only [binOp, Op.shift, Int.not_lt.2 hg, if_false, Sem.run_pure]) (Rep.int _ _)
    · subst hk
      cases op <;> simp only [binI] at h <;> first
        | (cases h; done)
        | (cases h; exact gd (by simp [binOp, Op.intArith]; rfl) (Rep.int _ _))
        | (cases h; exact gd (by simp [binOp]; rfl) (Rep.int _ _))
        | (obtain ⟨hg, h⟩ := guardK_inv h; cases h; have hg : n ≠ 0 := by simpa using hg
           exact gd (by simp only [binOp, Op.intDiv, hg, if_false, Sem.run_pure, ne_eq, not_true_eq_false]) (Rep.int _ _))
        | (cases h; refine gd (u := .bool _) ?_ (Rep.bool _); simp only [binOp, Op.intCmp, Sem.run_pure, ne_eq, not_true_eq_false, if_false, beq_int, bne]; done)
        | (cases h; refine gd (u := .bool _) ?_ (Rep.bool _); simp only [binOp, Op.intCmp, Sem.run_pure, ne_eq, not_true_eq_false, if_false]; done)
        | (cases h; refine gd (u := .bool _) ?_ (Rep.bool _); simp only [binOp, Op.intCmp, Sem.run_pure, ne_eq, not_true_eq_false, if_false]; congr 2; simp [beq_eq_decide, bne])
  · obtain ⟨b1, h1, rfl⟩ := rep_str hq
    obtain ⟨b2, h2, rfl⟩ := rep_str hq2
    have gd : ∀ {u}, (binOp op t (.string b1) (.string b2)).run P w = .ok u w → SlotR B w c (slots a) e d u v → Does P o a w (Left P τ B a e w c d v) := fun {u} hr hu =>
      does_same (run_binOp ho (by rw [h1]; exact guard_str) (by rw [h1, h2]; exact hr)) hu
    have heq : (b1.toList == b2.toList) = decide (b1.data.toList = b2.data.toList) := by
      rw [Lib.toList_data, Lib.toList_data]; exact beq_lst _ _
    have hlt : Op.bytesLess b1.toList b2.toList = bytesLt b1.data.toList b2.data.toList := by
      rw [Lib.toList_data, Lib.toList_data, bytesLt_eq]
    cases op <;> simp only [binS] at h <;> first
      | (cases h; done)
      | skip
    case add =>
      obtain ⟨hg, h⟩ := guardK_inv h; cases h
      have hg := Nat.le_of_ble_eq_true hg
      refine gd (u := .string (b1 ++ b2)) ?_ ?_
      · have : ¬ ((b1.size + b2.size : Nat) : Int) > IntKind.i64.max := by
          have h1 : b1.size = b1.data.toList.length := by simp
          have h2 : b2.size = b2.data.toList.length := by simp
          rw [h1, h2]; unfold lim at hg; simp only [IntKind.max, IntKind.signed, IntKind.bits, if_true]; omega
        simp only [binOp, Op.stringOp, this, if_false, Sem.run_pure]
      · have := Rep.str (w := w) (c := c) (b1 ++ b2)
        rw [show (b1 ++ b2).data.toList = b1.data.toList ++ b2.data.toList by simp] at this
        exact this
    all_goals
      cases h
      refine gd (u := .bool _) ?_ (Rep.bool _)
      simp only [binOp, Op.stringOp, heq, hlt, Sem.run_pure]
  · have h1 : a.eval x = .bool p1 := rep_bool hq
    have h2 : a.eval y = .bool p2 := rep_bool hq2
    have hk : P.underlying t = some .bool := ((hT t _ hti).kind).1
    have heq : ∀ n, (Op.equalIn (n + 1) t (.bool p1) (.bool p2)).run P w = .ok (p1 == p2) w := fun n => by simp [Op.equalIn, run_under hk]
    rcases h with ⟨rfl, h⟩ | ⟨rfl, h⟩ <;> cases h
    · refine does_same (u := .bool _) (run_binOp ho (by rw [h1]; exact guard_bool) ?_) (Rep.bool _)
      rw [h1, h2]; simp only [binOp, Op.equal, Op.maxDepth, Sem.run_bind, heq 9999, Result.andThen_ok, Sem.run_pure]
    · refine does_same (u := .bool _) (run_binOp ho (by rw [h1]; exact guard_bool) ?_) (Rep.bool _)
      rw [h1, h2]; simp only [binOp, Op.equal, Op.maxDepth, Sem.run_bind, heq 9999, Result.andThen_ok, Sem.run_pure]
end
section
variable {P : Program} {τ : Tab} {B : Nat} {w : World} {c : Cls} {a : Act} {e : Env} {o : Oper} {d : Nat} {v : AV} {call : Nat → List AV → Option AV}
theorem sim_unOp {op : UnOp} {t : Nat} {x : Operand} (ho : o.op = .unOp op t x) (hs : SRel τ B w c (slots a) e) (h : val τ call e o some = some v) : Does P o a w (Left P τ B a e w c d v) := by
  unfold val at h; simp only [ho] at h
  obtain ⟨b1, hb, g⟩ := opnd_inv h
  clear h
  obtain ⟨q, hq⟩ := hb.slot hs
  unfold un at g
  split at g
  · cases g
    have h1 := rep_bool hq
    exact does_same (u := .bool _) (by simp only [execOp, ho, h1, Op.unary, Sem.run_bind, Sem.run_pure, Result.andThen_ok]) (Rep.bool _)
  · cases g
    have h1 := rep_int hq
    exact does_same (u := .int _ _) (by simp only [execOp, ho, h1, Op.unary, Op.intArith, Sem.run_bind, Sem.run_pure, Result.andThen_ok]) (Rep.int _ _)
  · cases g
theorem under_some (hT : TabOK P τ) {t : Nat} {ti : TI} (h : τ.T t = some ti) (hn : notTup ti.k = true) : ∃ d, P.underlying t = some d := by
  have := (hT t ti h).kind
  generalize ti.k = k at *
  cases k <;> simp only at this <;> first
    | exact ⟨_, this.1⟩
    | exact ⟨_, this.1.1⟩
    | exact ⟨_, this⟩
    | (obtain ⟨F, h, _⟩ := this; exact ⟨_, h⟩)
    | (obtain ⟨⟨p, r, v, h⟩, _⟩ := this; exact ⟨_, h⟩)
    | cases hn
theorem bytes_ints : ∀ {l : List (List AV)} {s : List UInt8}, bytesOf l = some s → ∃ xs : List Int, l = xs.map (fun n => [.int .u8 n]) ∧ s = xs.map fun n => UInt8.ofNat n.toNat
  | [], s, h => by simp only [bytesOf, Option.some.injEq] at h; subst h; exact ⟨[], rfl, rfl⟩
  | x :: r, s, h => by
    unfold bytesOf at h
    split at h
    · rename_i h0; cases h0
    · rename_i n r' h0
      cases h0
      split at h
      · rename_i l hl
        cases h
        obtain ⟨xs, h1, h2⟩ := bytes_ints hl
        exact ⟨n :: xs, by rw [h1]; rfl, by rw [h2]; rfl⟩
      · cases h
    · cases h
theorem run_bytes {src dst et : Nat} {u : Value} {xs : List Int} (hs : P.underlying src = some (.slice et)) (he : P.underlying et = some (.int .u8)) (hd : P.underlying dst = some .string) (h : Rep w c u (.sl 1 (xs.map fun n => [.int .u8 n]))) :
    (convert src dst u).run P w = .ok (.string (strOfNums xs)) w := by
  obtain ⟨bo, cap, rfl, _, _, h4⟩ := rep_sl h
  rw [List.length_map] at h4 ⊢
  rw [run_convert_bytes_string w src dst et bo xs.length cap hs he hd]
  cases bo with
  | none =>
    have : xs = [] := by
      cases xs with
      | nil => rfl
      | cons a r => obtain ⟨g, o, h, _⟩ := h4 (by simp); cases h
    subst this
    simp [Conv.bytesToString, strOfNums, ByteArray.empty, ByteArray.emptyWithCapacity]
    try rfl
  | some p =>
    have hl : (loadCells p xs.length).run P w = .ok (xs.map (Value.int .u8)).toArray w := by
      have := run_loadCells_list (P := P) w p (xs.map (Value.int .u8)) (fun j v hj => by
        rw [List.getElem?_map] at hj
        cases hx : xs[j]? with
        | none => rw [hx] at hj; cases hj
        | some n =>
          rw [hx] at hj
          cases hj
          have hjl := (List.getElem?_eq_some_iff.1 hx).1
          obtain ⟨g, o, hp, _, f, h6, _, h8⟩ := h4 (by omega)
          obtain rfl : p = ⟨g, o, none⟩ := Option.some.inj hp
          have h8 := rep_int (h8 j 0 [.int .u8 n] (.int .u8 n) (by rw [List.getElem?_map, hx]; rfl) rfl)
          have h6 := h6 j 0 hjl (by decide)
          rw [add_none, ← h8, ← h6]
          congr 2
          omega)
      simpa using this
    rw [run_bytesToString w p xs.length cap xs hl, foldl_push_bytes]
    simp [strOfNums, ByteArray.empty, ByteArray.emptyWithCapacity]
    try rfl
theorem sim_convert (hT : TabOK P τ) {src dst : Nat} {x : Operand} (ho : o.op = .convert src dst x) (hs : SRel τ B w c (slots a) e) (h : val τ call e o some = some v) : Does P o a w (Left P τ B a e w c d v) := by
  unfold val at h; simp only [ho] at h
  obtain ⟨b1, hb, g⟩ := opnd_inv h
  clear h
  obtain ⟨q, hq⟩ := hb.slot hs
  obtain ⟨si, hsi, g1⟩ := infoK_inv g
  clear g
  obtain ⟨hg, g⟩ := guardK_inv g1
  clear g1
  obtain ⟨ds, hds⟩ := under_some hT hsi hg
  unfold convX at g
  cases hsl : isSl b1 with
  | true =>
    rw [hsl] at g
    replace g : convB τ src dst b1 some = some v := g
    unfold convB at g
    split at g
    · rename_i hti
      unfold u8K at g
      split at g
      · rename_i hsrc
        split at g
        · rename_i het
          obtain ⟨l, hl, g⟩ := asL_inv g
          unfold bytesK at g
          split at g
          · rename_i hbs
            cases g
            obtain ⟨xs, rfl, rfl⟩ := bytes_ints hbs
            have h1 := run_bytes (hT src _ hsrc).kind.1.1 (hT _ _ het).kind.1 (hT dst _ hti).kind.1 (hq.isL hl)
            exact does_same (u := .string (strOfNums xs)) (by simp only [execOp, ho, h1, Sem.run_bind, Sem.run_pure, Result.andThen_ok]) (Rep.str _)
          · cases g
        · cases g
      · cases g
    · cases g
  | false =>
  rw [hsl] at g
  replace g : conv τ dst b1 some = some v := g
  unfold conv at g
  split at g
  · rename_i hti
    cases g
    have hk : P.underlying dst = some (.int _) := ((hT dst _ hti).kind).1
    have h1 := rep_int hq
    exact does_same (u := .int _ _) (by simp only [execOp, ho, h1, convert, run_under hds, run_under hk, Conv.intToInt, Sem.run_bind, Sem.run_pure, Result.andThen_ok]) (Rep.int _ _)
  · rename_i hti
    cases g
    have hk : P.underlying dst = some .string := ((hT dst _ hti).kind).1
    obtain ⟨s, h1, rfl⟩ := rep_str hq
    exact does_same (u := .string s) (by simp only [execOp, ho, h1, convert, run_under hds, run_under hk, Sem.run_bind, Sem.run_pure, Result.andThen_ok]) (Rep.str _)
  · cases g
theorem sim_nilCheck {x : Operand} (ho : o.op = .nilCheck x) (hs : SRel τ B w c (slots a) e) (h : val τ call e o some = some v) : Does P o a w (Left P τ B a e w c d v) := by
  unfold val at h; simp only [ho] at h
  obtain ⟨b1, hb, g⟩ := opnd_inv h
  clear h
  obtain ⟨q, hq⟩ := hb.slot hs
  obtain ⟨f, cs, e1, g⟩ := asF_inv g
  subst e1; cases g
  obtain ⟨vs, h1, _⟩ := rep_fn hq
  refine does_same (u := a.eval x) ?_ hq
  rw [h1]; simp only [execOp, ho, h1]; rfl
theorem sim_extract {x : Operand} {i : Nat} (ho : o.op = .extract x i) (hs : SRel τ B w c (slots a) e) (h : val τ call e o some = some v) : Does P o a w (Left P τ B a e w c d v) := by
  unfold val at h; simp only [ho] at h
  obtain ⟨b1, hb, g⟩ := opnd_inv h
  clear h
  obtain ⟨q, hq⟩ := hb.slot hs
  unfold compK at g
  split at g
  · rename_i l
    obtain ⟨y, hy, g⟩ := getC_inv g
    obtain ⟨hne, g⟩ := nz_inv g
    cases g
    obtain ⟨vs, h1, h2, h3⟩ := hq
    have hlt : i < l.length := (List.getElem?_eq_some_iff.1 hy).1
    have hp := h3 i y vs[i] hy (by simp [h2, hlt])
    refine does_same (u := vs[i]) (by simp [execOp, ho, h1, Instr.extract, h2, hlt]) ?_
    cases y <;> simp only [PartR] at hp <;> first
      | exact hp.1
      | exact (hp : False).elim
      | exact hp
  · cases g
theorem sim_makeFunc {f : Nat} {first caps : Array Operand} (ho : o.op = .makeFunc (.func f) first caps) (hs : SRel τ B w c (slots a) e) (h : val τ call e o some = some v) : Does P o a w (Left P τ B a e w c d v) := by
  obtain ⟨first⟩ := first
  cases first with
  | cons y ys => unfold val at h; simp only [ho] at h; cases h
  | nil =>
    unfold val at h; simp only [ho] at h
    obtain ⟨l, hl, hi, g⟩ := opnds_inv h
    clear h
    obtain ⟨hg, g⟩ := guardK_inv g
    cases g
    refine does_same (u := .func (.func f) #[] (caps.map a.eval)) ?_ ?_
    · simp only [execOp, ho, Instr.makeFunc, Sem.run_bind, Sem.run_pure, Result.andThen_ok]; simp
    · refine Rep.fn f _ _ (by simp [hl]) fun i u y hu hy => ?_
      rw [List.getElem?_map] at hy
      cases hz : l[i]? with
      | none => rw [hz] at hy; cases hy
      | some z =>
        rw [hz] at hy; cases hy
        rw [Array.getElem?_map] at hu
        cases hx : caps[i]? with
        | none => rw [hx] at hu; cases hu
        | some x =>
          rw [hx] at hu; cases hu
          obtain ⟨q, hq⟩ := (hi i x z (by simpa using hx) hz).slot hs
          have hz' := List.all_eq_true.1 hg z (List.mem_of_getElem? hz)
          cases z <;> first
            | (cases hz'; done)
            | exact hq
            | exact hq.1
theorem sim_len (hT : TabOK P τ) {args : Array Operand} {ts : Array TypeId} (ho : o.op = .call ⟨.builtin .len, args, ts⟩) (hs : SRel τ B w c (slots a) e) (h : val τ call e o some = some v) : Does P o a w (Left P τ B a e w c d v) := by
  unfold val at h; simp only [ho] at h
  unfold lenOp at h
  split at h
  · rename_i x t hx ht
    obtain ⟨args⟩ := args; obtain ⟨ts⟩ := ts
    simp only at hx ht; subst hx; subst ht
    obtain ⟨b1, hb, g⟩ := opnd_inv h
    clear h
    obtain ⟨q, hq⟩ := hb.slot hs
    have hrun : ∀ n : Int, (Builtin.len_ #[t] o.type #[a.eval x]).run P w = .ok (goInt n) w → (execOp a.eval o).run P w = .ok (.value (goInt n)) w := fun n hn => by
      simp only [execOp, ho, resolve, invoke, builtin, Sem.run_bind, Sem.run_pure, Result.andThen_ok, List.map_toArray, List.map_cons, List.map_nil, hn]
    unfold lenK at g
    split at g
    · rename_i hti
      obtain ⟨s, e1, g⟩ := asS_inv g
      subst e1; cases g
      have hk : P.underlying t = some .string := ((hT t _ hti).kind).1
      obtain ⟨bs, h1, rfl⟩ := rep_str hq
      have : bs.size = bs.data.toList.length := by simp
      exact does_same (u := goInt bs.data.toList.length) (hrun _ (by simp [Builtin.len_, run_under hk, h1])) (Rep.int _ _)
    · rename_i hti
      obtain ⟨ti, hte, g⟩ := szOf_inv g
      obtain ⟨l, hl, g⟩ := asL_inv g
      cases g
      obtain ⟨b, cap, h1, _⟩ := rep_sl (hq.isL hl)
      exact does_same (u := goInt l.length) (hrun _ (by simp [Builtin.len_, run_under (slice_of hT hti), h1])) (Rep.int _ _)
    · rename_i hti
      cases g
      have hk : P.underlying t = some (.array _ _) := (hT t _ hti).kind
      exact does_same (u := goInt _) (hrun _ (by simp [Builtin.len_, run_under hk])) (Rep.int _ _)
    · cases g
  · cases h
theorem sim_min {mx : Bool} {args : Array Operand} {ts : Array TypeId} (ho : o.op = .call ⟨.builtin (pick2 mx .max .min), args, ts⟩) (hs : SRel τ B w c (slots a) e) (h : minOp mx e ⟨.builtin (pick2 mx .max .min), args, ts⟩ some = some v) : Does P o a w (Left P τ B a e w c d v) := by
  unfold minOp at h
  split at h
  · rename_i x y hx
    obtain ⟨args⟩ := args
    simp only at hx; subst hx
    obtain ⟨b1, hb, g1⟩ := opnd_inv h
    clear h
    obtain ⟨q, hq⟩ := hb.slot hs
    obtain ⟨b2, hb2, g⟩ := opnd_inv g1
    clear g1
    obtain ⟨q2, hq2⟩ := hb2.slot hs
    unfold minK at g
    split at g
    · cases g
      have h1 := rep_int hq
      have h2 := rep_int hq2
      cases mx
      · refine does_same (u := .int _ (min _ _)) ?_ (Rep.int _ _)
        simp only [execOp, ho, pick2, resolve, invoke, builtin, Builtin.min_, Sem.run_bind, Sem.run_pure, Result.andThen_ok, List.map_toArray, List.map_cons, List.map_nil, h1, h2, List.foldlM_cons, List.foldlM_nil, Builtin.min2]
        congr 3; omega
      · refine does_same (u := .int _ (max _ _)) ?_ (Rep.int _ _)
        simp only [execOp, ho, pick2, resolve, invoke, builtin, Builtin.max_, Sem.run_bind, Sem.run_pure, Result.andThen_ok, List.map_toArray, List.map_cons, List.map_nil, h1, h2, List.foldlM_cons, List.foldlM_nil, Builtin.max2]
        congr 3; omega
    · cases g
  · cases h
end
section
variable {P : Program} {τ : Tab} {B : Nat} {w : World} {c : Cls} {a : Act} {e : Env} {o : Oper} {d : Nat} {v : AV} {call : Nat → List AV → Option AV}
/-- The bounds of a piece. -/
theorem sliceOf_inv {β α : Type} {r : α} {l : List β} {lo hi : Option Operand} {k : List β → Option α} (hs : SRel τ B w c (slots a) e) (h : sliceOf e l lo hi k = some r) :
    ∃ m n : Nat, m ≤ n ∧ n ≤ l.length ∧ k ((l.take n).drop m) = some r ∧
      (∀ u, lo.map a.eval = some u → ∃ kd, u = .int kd m) ∧ (lo = none → m = 0) ∧ (∀ u, hi.map a.eval = some u → ∃ kd, u = .int kd n) ∧ (hi = none → n = l.length) := by
  cases lo with
  | none =>
    cases hi with
    | none => exact ⟨0, l.length, by omega, by omega, by rw [List.take_length, List.drop_zero]; exact h, by simp, by simp, by simp, by simp⟩
    | some y =>
      obtain ⟨b, hb, g⟩ := opnd_inv h
      obtain ⟨q, hq⟩ := hb.slot hs
      obtain ⟨kd, n, e1, g⟩ := asN_inv g
      subst e1
      obtain ⟨hg, g⟩ := guardK_inv g
      simp only [Bool.and_eq_true, decide_eq_true_eq] at hg
      exact ⟨0, n.toNat, by omega, by omega, by rw [List.drop_zero]; exact g, by simp, by simp, fun u hu => by cases hu; exact ⟨kd, by rw [rep_int hq, Int.toNat_of_nonneg hg.1]⟩, by simp⟩
  | some x =>
    cases hi with
    | none =>
      obtain ⟨b, hb, g⟩ := opnd_inv h
      obtain ⟨q, hq⟩ := hb.slot hs
      obtain ⟨kd, n, e1, g⟩ := asN_inv g
      subst e1
      obtain ⟨hg, g⟩ := guardK_inv g
      simp only [Bool.and_eq_true, decide_eq_true_eq] at hg
      exact ⟨n.toNat, l.length, by omega, by omega, by rw [List.take_length]; exact g, fun u hu => by cases hu; exact ⟨kd, by rw [rep_int hq, Int.toNat_of_nonneg hg.1]⟩, by simp, by simp, by simp⟩
    | some y =>
      obtain ⟨b, hb, g⟩ := opnd_inv h
      obtain ⟨q, hq⟩ := hb.slot hs
      obtain ⟨kd, m, e1, g⟩ := asN_inv g
      subst e1
      obtain ⟨b2, hb2, g⟩ := opnd_inv g
      obtain ⟨q2, hq2⟩ := hb2.slot hs
      obtain ⟨kd2, n, e1, g⟩ := asN_inv g
      subst e1
      obtain ⟨hg, g⟩ := guardK_inv g
      simp only [Bool.and_eq_true, decide_eq_true_eq] at hg
      exact ⟨m.toNat, n.toNat, by omega, by omega, g, fun u hu => by cases hu; exact ⟨kd, by rw [rep_int hq, Int.toNat_of_nonneg hg.1.1]⟩, by simp,
        fun u hu => by cases hu; exact ⟨kd2, by rw [rep_int hq2, Int.toNat_of_nonneg (by omega)]⟩, by simp⟩
theorem run_sliceBounds {isS : Bool} {len cap m n : Nat} {lo hi : Option Value} (hmn : m ≤ n) (hnl : n ≤ len) (hlc : len ≤ cap)
    (h1 : ∀ u, lo = some u → ∃ kd, u = .int kd m) (h2 : lo = none → m = 0) (h3 : ∀ u, hi = some u → ∃ kd, u = .int kd n) (h4 : hi = none → n = len) :
    (Instr.sliceBounds isS len cap lo hi none).run P w = .ok (m, n, cap) w := by
  have hb : ∀ (k y : Nat) kd code, k ≤ y → (Instr.sliceBound (.int kd k) y code).run P w = .ok k w := fun k y kd code hk => by
    simp [Instr.sliceBound, asIntOf, hk]
  cases lo with
  | none =>
    obtain rfl := h2 rfl
    cases hi with
    | none => obtain rfl := h4 rfl; simp [Instr.sliceBounds]
    | some u => obtain ⟨kd, rfl⟩ := h3 u rfl; simp [Instr.sliceBounds, hb n cap kd _ (by omega)]
  | some u0 =>
    obtain ⟨kd0, rfl⟩ := h1 u0 rfl
    cases hi with
    | none => obtain rfl := h4 rfl; simp [Instr.sliceBounds, hb m n kd0 _ (by omega)]
    | some u => obtain ⟨kd, rfl⟩ := h3 u rfl; simp [Instr.sliceBounds, hb n cap kd _ (by omega), hb m n kd0 _ (by omega)]
theorem rep_cut {u : Value} {sz : Nat} {l : List (List AV)} {m n : Nat} (h : Rep w c u (.sl sz l)) (hmn : m ≤ n) (hn : n ≤ l.length) :
    ∃ b cap, u = .slice b l.length cap ∧ l.length ≤ cap ∧ Rep w c (.slice (if cap = m then b else b.map (·.add (m * sz))) (n - m) (cap - m)) (.sl sz ((l.take n).drop m)) := by
  obtain ⟨b, cap, hu, h1, h2, h3⟩ := rep_sl h
  refine ⟨b, cap, hu, h1, ?_⟩
  have hlen : ((l.take n).drop m).length = n - m := by simp [Nat.min_eq_left hn]
  by_cases he : n - m = 0
  · have hnil : (l.take n).drop m = [] := List.eq_nil_of_length_eq_zero (by rw [hlen, he])
    rw [hnil, he]
    cases b with
    | none =>
      have : cap = 0 := h2 rfl
      subst this
      simp only [Option.map_none, ite_self, Nat.zero_sub]
      exact .nil sz
    | some b =>
      simp only [Option.map_some]
      split <;> exact .emp _ _ _
  · obtain ⟨g, q, hb, h4, f, h5, h6, h7⟩ := h3 (by omega)
    subst hb
    rw [if_neg (by omega), Option.map_some, add_none]
    have hget : ∀ (i : Nat), i < n - m → ((l.take n).drop m)[i]? = l[m + i]? := fun i hi => by
      rw [List.getElem?_drop, List.getElem?_take, if_pos (by omega)]
    have := Rep.sl (w := w) (c := c) g (q + m * sz) (cap - m) sz ((l.take n).drop m) (fun i j => f (m + i) j) (by rw [hlen]; omega)
      (fun i cs hi => by
        have hlt : i < n - m := by rw [← hlen]; exact (List.getElem?_eq_some_iff.1 hi).1
        rw [hget i hlt] at hi; exact h4 _ cs hi)
      (fun i j hi hj => by
        rw [hlen] at hi
        have := h5 (m + i) j (by omega) hj
        rw [show q + m * sz + (i * sz + j) = q + ((m + i) * sz + j) by rw [Nat.add_mul]; omega]; exact this)
      (fun i j hi hj => by
        rw [hlen] at hi
        have := h6 (m + i) j (by omega) hj
        rw [show q + m * sz + (i * sz + j) = q + ((m + i) * sz + j) by rw [Nat.add_mul]; omega]; exact this)
      (fun i j cs x hi hx => by
        have hlt : i < n - m := by rw [← hlen]; exact (List.getElem?_eq_some_iff.1 hi).1
        rw [hget i hlt] at hi; exact h7 _ j cs x hi hx)
    rw [hlen] at this
    exact this
theorem sim_slice (hT : TabOK P τ) {t : Nat} {x : Operand} {lo hi : Option Operand} (ho : o.op = .slice t x lo hi none) (hs : SRel τ B w c (slots a) e) (h : val τ call e o some = some v) : Does P o a w (Left P τ B a e w c d v) := by
  unfold val at h; simp only [ho] at h
  obtain ⟨b1, hb, g1⟩ := opnd_inv h
  clear h
  obtain ⟨q, hq⟩ := hb.slot hs
  unfold cutK at g1
  split at g1
  · rename_i hti
    obtain ⟨s, e1, g⟩ := asS_inv g1
    clear g1
    subst e1
    obtain ⟨m, n, hmn, hn, g, h1, h2, h3, h4⟩ := sliceOf_inv hs g
    cases g
    have hk : P.underlying t = some .string := ((hT t _ hti).kind).1
    obtain ⟨bs, hu, rfl⟩ := rep_str hq
    have hsz : bs.size = bs.data.toList.length := by simp
    refine does_same (u := .string (bs.extract m n)) ?_ ?_
    · have := run_sliceBounds (P := P) (w := w) (isS := false) (len := bs.size) (cap := bs.size) (lo := lo.map a.eval) (hi := hi.map a.eval) hmn (by omega) (Nat.le_refl _) h1 (fun h => h2 (by simpa using h)) h3 (fun h => by rw [hsz]; exact h4 (by simpa using h))
      simp [execOp, ho, Instr.sliceAt, Instr.slice, run_under hk, hu, this]
    · have := Rep.str (w := w) (c := c) (bs.extract m n)
      rw [Lib.extract_data] at this
      have e2 : (bs.data.toList.take n).drop m = (bs.data.toList.drop m).take (n - m) := by rw [List.drop_take]
      rw [e2]; exact this
  · rename_i hti
    obtain ⟨ti, hte, g⟩ := szOf_inv g1
    clear g1
    obtain ⟨l, hl, g⟩ := asL_inv g
    obtain ⟨m, n, hmn, hn, g, h1, h2, h3, h4⟩ := sliceOf_inv hs g
    cases g
    obtain ⟨b, cap, hu, hcap, hr⟩ := rep_cut (hq.isL hl) hmn hn
    refine does_same (u := .slice (if cap = m then b else b.map (·.add (m * ti.sz))) (n - m) (cap - m)) ?_ hr
    have := run_sliceBounds (P := P) (w := w) (isS := true) (len := l.length) (cap := cap) (lo := lo.map a.eval) (hi := hi.map a.eval) hmn hn hcap h1 (fun h => h2 (by simpa using h)) h3 (fun h => h4 (by simpa using h))
    simp [execOp, ho, Instr.sliceAt, Instr.slice, run_under (slice_of hT hti), hu, this, size_of hT hte]
  · cases g1
/-- Is a type an aggregate? -/
theorem agg_of (hT : TabOK P τ) {t : Nat} {ti : TI} (hti : τ.T t = some ti) : (match ti.k with | .struct _ => (isAgg t).run P w = .ok true w | .array _ _ => (isAgg t).run P w = .ok true w | .tuple _ => True | _ => (isAgg t).run P w = .ok false w) := by
  have hk := (hT t ti hti).kind
  generalize ti.k = k at *
  cases k <;> simp only at hk ⊢
  case bool => simp [isAgg, run_under hk.1]
  case int => simp [isAgg, run_under hk.1]
  case str => simp [isAgg, run_under hk.1]
  case slice => simp [isAgg, run_under hk.1.1]
  case struct => obtain ⟨F, hF, _⟩ := hk; simp [isAgg, run_under hF]
  case func => obtain ⟨⟨p, r, v, hk⟩, _⟩ := hk; simp [isAgg, run_under hk]
  case array => simp [isAgg, run_under hk]
theorem run_load_cell {b n : Nat} {u : Value} (h : w.cell? ⟨b, n, none⟩ = some u) : (_root_.Go.load (⟨b, n, none⟩ : Addr)).run P w = .ok u w := by simp [h]
theorem run_loadCells' {b n k : Nat} {f : Nat → Value} (h : ∀ j, j < k → w.cell? ⟨b, n + j, none⟩ = some (f j)) : (loadCells ⟨b, n, none⟩ k).run P w = .ok ((List.range k).map f).toArray w :=
  run_loadCells w ⟨b, n, none⟩ k f fun j hj => by rw [add_none]; exact h j hj
theorem getD_map_range {k j : Nat} {f : Nat → Value} {u : Value} (h : ((List.range k).map f).toArray[j]? = some u) : j < k ∧ u = f j := by
  simp only [List.getElem?_toArray, List.getElem?_map] at h
  by_cases hj : j < k
  · simp [hj] at h; exact ⟨hj, h.symm⟩
  · simp [hj] at h
/-- A load from cells that nobody writes. -/
theorem sim_loadElem (hT : TabOK P τ) {t z off b n : Nat} {cs : List AV} {f : Nat → Value} (hz : cs.length = z) (hc : ∀ j, j < z → w.cell? ⟨b, n + j, none⟩ = some (f j))
    (hr : ∀ (j : Nat) (x : AV), cs[j]? = some x → Rep w c (f j) x) (h : loadElem τ t z cs off some = some v) :
    ∃ u, (loadVar t ⟨b, n + off, none⟩).run P w = .ok u w ∧ PlainR w c u v := by
  unfold loadElem at h
  split at h
  · rename_i fs sz bb zz hti
    have ha : (isAgg t).run P w = .ok true w := agg_of hT hti
    have hsz : (sizeOf t).run P w = .ok sz w := size_of hT hti
    cases hb : (Nat.beq off 0 && Nat.beq z sz)
    · rw [hb] at h
      obtain ⟨l, hl, hj, g⟩ := getCs_inv h
      cases g
      have hin : ∀ j, j < sz → off + j < z := fun j hjs => by
        have := hj j hjs
        rw [List.getElem?_eq_getElem (by omega)] at this
        rw [← hz]; exact (List.getElem?_eq_some_iff.1 this.symm).1
      refine ⟨.agg ((List.range sz).map fun j => f (off + j)).toArray, ?_, _, rfl, by simp, hl, fun j x u hx hu => ?_⟩
      · simp only [loadVar, Sem.run_bind, ha, Result.andThen_ok, if_true, hsz]
        rw [run_loadCells' (f := fun j => f (off + j)) (fun j hjs => by rw [Nat.add_assoc]; exact hc _ (hin j hjs))]
        rfl
      · obtain ⟨hjs, rfl⟩ := getD_map_range hu
        exact hr _ _ (by rw [← hj j hjs]; exact hx)
    · rw [hb] at h; cases h
      simp only [Bool.and_eq_true] at hb
      obtain rfl := Nat.eq_of_beq_eq_true hb.1
      obtain rfl := Nat.eq_of_beq_eq_true hb.2
      refine ⟨.agg ((List.range z).map f).toArray, ?_, _, rfl, by simp, hz, fun j x u hx hu => ?_⟩
      · simp only [loadVar, Sem.run_bind, ha, Result.andThen_ok, if_true, hsz]
        rw [run_loadCells' (f := f) (fun j hjs => by rw [Nat.add_zero]; exact hc _ hjs)]
        rfl
      · obtain ⟨hjs, rfl⟩ := getD_map_range hu
        exact hr _ _ hx
  · rename_i nn el sz bb zz hti
    obtain ⟨hb, g⟩ := guardK_inv h
    cases g
    have ha : (isAgg t).run P w = .ok true w := agg_of hT hti
    have hsz : (sizeOf t).run P w = .ok sz w := size_of hT hti
    simp only [Bool.and_eq_true] at hb
    obtain rfl := Nat.eq_of_beq_eq_true hb.1
    obtain rfl := Nat.eq_of_beq_eq_true hb.2
    refine ⟨.agg ((List.range z).map f).toArray, ?_, _, rfl, by simp, hz, fun j x u hx hu => ?_⟩
    · simp only [loadVar, Sem.run_bind, ha, Result.andThen_ok, if_true, hsz]
      rw [run_loadCells' (f := f) (fun j hjs => by rw [Nat.add_zero]; exact hc _ hjs)]
      rfl
    · obtain ⟨hjs, rfl⟩ := getD_map_range hu
      exact hr _ _ hx
  · rename_i hns hna
    obtain ⟨x, hx, g⟩ := getC_inv h
    obtain ⟨v', hcst, g⟩ := cast_inv g
    cases g
    have hlt : off < z := by rw [← hz]; exact (List.getElem?_eq_some_iff.1 hx).1
    refine ⟨f off, ?_, (hr _ _ hx).plain hcst⟩
    obtain ⟨_, ti, hti, hm⟩ := hcst
    have ha := agg_of (w := w) hT hti
    have hf : (isAgg t).run P w = .ok false w := by
      obtain ⟨k, sz, bb, zz⟩ := ti
      cases k <;> first
        | exact ha
        | exact absurd hti (hns _ _ _ _)
        | exact absurd hti (hna _ _ _ _ _)
        | exact hm.elim
    simp only [loadVar, Sem.run_bind, hf, Result.andThen_ok, Bool.false_eq_true, if_false]
    exact run_load_cell (hc _ hlt)
theorem patch_get : ∀ (m : List (Nat × AV)) (cs : List AV) (j : Nat) (x : AV), (patch cs m)[j]? = some x → (∃ y, ovr m j = some y ∧ x = frz y) ∨ (ovr m j = none ∧ cs[j]? = some x)
  | [], cs, j, x, h => .inr ⟨rfl, h⟩
  | (p, y) :: r, cs, j, x, h => by
    simp only [patch, List.getElem?_set] at h
    by_cases hp : p = j
    · subst hp
      simp only [if_true] at h
      split at h
      · cases h; exact .inl ⟨y, by simp [ovr, pick2], rfl⟩
      · cases h
    · rw [if_neg hp] at h
      rcases patch_get r cs j x h with ⟨z, h1, h2⟩ | ⟨h1, h2⟩
      · exact .inl ⟨z, by simp [ovr, beq_ne hp, pick2, h1], h2⟩
      · exact .inr ⟨by simp [ovr, beq_ne hp, pick2, h1], h2⟩
theorem patch_len : ∀ (m : List (Nat × AV)) (cs : List AV), (patch cs m).length = cs.length
  | [], cs => rfl
  | (p, y) :: r, cs => by simp only [patch, List.length_set]; exact patch_len r cs
theorem CellR.frz {dd j : Nat} {u : Value} {x : AV} (h : CellR B w c dd j u x) : Rep w c u (frz x) := by
  cases x <;> first
    | exact h.1
    | exact rep_frz h
theorem CellR.rep {dd j : Nat} {u : Value} {x : AV} (h : CellR B w c dd j u x) (hn : ∀ s l, x ≠ .own s l) : Rep w c u x := by
  cases x <;> first
    | exact absurd rfl (hn _ _)
    | exact h
theorem rep_isL {sz : Nat} {u : Value} {x : AV} {l : List (List AV)} (h : Rep w c u x) (hl : IsL sz x l) : Rep w c u (.sl sz l) := by
  rcases hl with ⟨rfl, rfl⟩ | rfl | rfl | ⟨q, rfl⟩ | ⟨q, o, rfl⟩
  · cases h; exact .nil sz
  · exact h
  · cases h
  · cases h
  · cases h
theorem cellR_sl {dd j sz : Nat} {u : Value} {x : AV} {l : List (List AV)} (h : CellR B w c dd j u x) (hl : IsL sz x l) : Rep w c u (.sl sz l) := by
  rcases hl with ⟨rfl, rfl⟩ | rfl | rfl | ⟨q, rfl⟩ | ⟨q, o, rfl⟩
  · have h : Rep w c u .nil := h
    cases h; exact .nil sz
  · exact h
  · exact h.1
  · have h : Rep w c u (.vw q sz l) := h
    cases h
  · have h : Rep w c u (.vwc q o sz l) := h
    cases h
theorem cellR_cst {dd j t : Nat} {u : Value} {x v' : AV} (h : CellR B w c dd j u x) (hc : Cst τ t x v') (hns : ∀ e s b z, τ.T t ≠ some ⟨.slice e, s, b, z⟩) : PlainR w c u v' := by
  refine Rep.plain (v := x) (t := t) (τ := τ) ?_ hc
  refine h.rep fun s l hx => ?_
  subst hx
  obtain ⟨⟨b, h1, _⟩ | ⟨kd, n, h1, _⟩ | ⟨s, h1, _⟩ | ⟨sz, l', hl, h1⟩ | ⟨sz, cs, h1, _⟩ | ⟨f, cs, h1, _⟩, ti, hti, hm⟩ := hc <;> first
    | cases h1
    | skip
  obtain ⟨k, s1, b1, z1⟩ := ti
  cases k <;> first
    | exact hm.elim
    | exact hns _ _ _ _ hti
/-- A load from a box. -/
theorem sim_loadBox (hT : TabOK P τ) {t dd z off : Nat} {cs : List AV} {m : List (Nat × AV)} (hb : BoxR B w c dd (slots a dd) z cs m) (he : e dd = .boxv z cs m)
    (h : loadBox τ t dd z cs m off some = some v) :
    ∃ b, slots a dd = .pointer (some ⟨b, 0, none⟩) ∧ ∃ u, (loadVar t ⟨b, off, none⟩).run P w = .ok u w ∧ SlotR B w c (slots a) e d u v := by
  obtain ⟨b, vs, ty, h1, h2, h3, h4, h5, h6, h7, h8, h9⟩ := hb
  have hcell : ∀ j, j < z → w.cell? ⟨b, j, none⟩ = some (vs.getD j undef) := fun j hj => by
    rw [cell_of h3]; simp [h5 ▸ hj]
  have hvs : ∀ j, j < z → vs[j]? = some (vs.getD j undef) := fun j hj => by simp [h5 ▸ hj]
  refine ⟨b, h1, ?_⟩
  unfold loadBox at h
  split at h
  · rename_i fs sz bb zz hti
    have ha : (isAgg t).run P w = .ok true w := agg_of hT hti
    have hsz : (sizeOf t).run P w = .ok sz w := size_of hT hti
    cases hbq : (Nat.beq off 0 && Nat.beq z sz)
    · rw [hbq] at h
      obtain ⟨l, hl, hj, g⟩ := getBs_inv h
      cases g
      have hin : ∀ j, j < sz → off + j < z := fun j hjs => by
        rcases hj j l[j] (by simp [hl, hjs]) with hx | ⟨_, hx⟩
        · exact h9 _ _ hx
        · rw [← h6]; exact (List.getElem?_eq_some_iff.1 hx).1
      refine ⟨.agg ((List.range sz).map fun j => vs.getD (off + j) undef).toArray, ?_, _, rfl, by simp, by simp [hl], fun j x u hx hu => ?_⟩
      · simp only [loadVar, Sem.run_bind, ha, Result.andThen_ok, if_true, hsz]
        rw [run_loadCells' (f := fun j => vs.getD (off + j) undef) (fun j hjs => hcell _ (hin j hjs))]
        rfl
      · obtain ⟨hjs, rfl⟩ := getD_map_range hu
        rw [List.getElem?_map] at hx
        cases hy : l[j]? with
        | none => rw [hy] at hx; cases hx
        | some y =>
          rw [hy] at hx; cases hx
          rcases hj j y hy with hx | ⟨hn, hx⟩
          · exact (h8 _ _ _ hx (hvs _ (hin j hjs))).frz
          · exact rep_frz (h7 _ _ _ hn hx (hvs _ (hin j hjs)))
    · rw [hbq] at h; cases h
      simp only [Bool.and_eq_true] at hbq
      obtain rfl := Nat.eq_of_beq_eq_true hbq.1
      obtain rfl := Nat.eq_of_beq_eq_true hbq.2
      refine ⟨.agg ((List.range z).map fun j => vs.getD j undef).toArray, ?_, _, rfl, by simp, by rw [patch_len, h6], fun j x u hx hu => ?_⟩
      · simp only [loadVar, Sem.run_bind, ha, Result.andThen_ok, if_true, hsz]
        rw [run_loadCells' (f := fun j => vs.getD j undef) (fun j hjs => by rw [Nat.zero_add]; exact hcell _ hjs)]
        rfl
      · obtain ⟨hjs, rfl⟩ := getD_map_range hu
        rcases patch_get m cs j x hx with ⟨y, hy, rfl⟩ | ⟨hy, hx'⟩
        · exact (h8 j y _ hy (hvs j hjs)).frz
        · exact h7 j x _ hy hx' (hvs j hjs)
  · rename_i el s1 bb zz hti
    obtain ⟨ti, hte, g⟩ := szOf_inv h
    clear h
    have hf : (isAgg t).run P w = .ok false w := agg_of hT hti
    have hrun : off < z → (loadVar t ⟨b, off, none⟩).run P w = .ok (vs.getD off undef) w := fun hlt => by
      simp only [loadVar, Sem.run_bind, hf, Result.andThen_ok, Bool.false_eq_true, if_false]
      exact run_load_cell (hcell _ hlt)
    split at g
    · rename_i x hx
      have hlt := h9 _ _ hx
      have hr := h8 _ _ _ hx (hvs _ hlt)
      refine ⟨_, hrun hlt, ?_⟩
      unfold sliceB at g
      split at g
      · obtain ⟨hg, g⟩ := guardK_inv g
        cases g
        rename_i s2 l2
        obtain rfl := Nat.eq_of_beq_eq_true hg
        refine ⟨hr.1, fun z' cs' m' z'' l' hq ho => ⟨b, h1, hcell _ hlt⟩⟩
      · obtain ⟨l, hl, g⟩ := asL_inv g
        cases g
        exact cellR_sl hr hl
    · rename_i hx
      obtain ⟨x, hxx, g⟩ := getC_inv g
      obtain ⟨l, hl, g⟩ := asL_inv g
      cases g
      have hlt : off < z := by rw [← h6]; exact (List.getElem?_eq_some_iff.1 hxx).1
      exact ⟨_, hrun hlt, rep_isL (h7 off x _ hx hxx (hvs off hlt)) hl⟩
  · cases h
  · rename_i hns1 hns2 hns3
    obtain ⟨x, hx, g⟩ := getB_inv h
    obtain ⟨v', hcst, g⟩ := cast_inv g
    cases g
    have hlt : off < z := by
      rcases hx with hx | ⟨_, hx⟩
      · exact h9 _ _ hx
      · rw [← h6]; exact (List.getElem?_eq_some_iff.1 hx).1
    have hp : PlainR w c (vs.getD off undef) v := by
      rcases hx with hx | ⟨hn, hx⟩
      · exact cellR_cst (h8 _ _ _ hx (hvs _ hlt)) hcst (fun e s b z => hns2 e s b z)
      · exact (h7 _ _ _ hn hx (hvs _ hlt)).plain hcst
    refine ⟨_, ?_, hp.slot⟩
    obtain ⟨_, ti, hti, hm⟩ := hcst
    have ha := agg_of (w := w) hT hti
    have hf : (isAgg t).run P w = .ok false w := by
      obtain ⟨k, sz, bb, zz⟩ := ti
      cases k <;> first
        | exact ha
        | exact absurd hti (hns1 _ _ _ _)
        | exact absurd hti (hns3 _ _ _ _ _)
        | exact hm.elim
    simp only [loadVar, Sem.run_bind, hf, Result.andThen_ok, Bool.false_eq_true, if_false]
    exact run_load_cell (hcell _ hlt)
theorem sim_load (hT : TabOK P τ) {t : Nat} {x : Operand} (ho : o.op = .load t x) (hs : SRel τ B w c (slots a) e) (h : val τ call e o some = some v) : Does P o a w (Left P τ B a e w c d v) := by
  unfold val at h; simp only [ho] at h
  have hrun : ∀ b n u, a.eval x = .pointer (some ⟨b, n, none⟩) → (loadVar t ⟨b, n, none⟩).run P w = .ok u w → (execOp a.eval o).run P w = .ok (.value u) w := fun b n u hx hl => by
    simp only [execOp, ho, Instr.loadAt, hx, Instr.sureAddr, Sem.run_bind, Sem.run_pure, Result.andThen_ok, hl]
  cases x with
  | const => cases h
  | func => cases h
  | global g =>
    unfold load at h
    simp only at h
    split at h
    · rename_i cs hg
      obtain ⟨b, n, h1, h2, f, h3, h4, h5⟩ := rep_eptr (hs.g g cs hg)
      obtain ⟨u, h6, h7⟩ := sim_loadElem (off := 0) (n := n) hT h2 h3 h5 h
      exact does_same (hrun b n u h1 (by simpa using h6)) h7.slot
    · cases h
  | tmp s =>
    have hq := hs.slot s
    have h : loadT τ e t s some (e s) = some v := h
    unfold loadT at h
    split at h
    · rename_i z cs m hx
      rw [hx] at hq
      obtain ⟨b, h1, u, h2, h3⟩ := sim_loadBox (d := d) hT hq hx h
      exact does_same (hrun b 0 u h1 h2) h3
    · rename_i dd off hx
      rw [hx] at hq
      split at h
      · rename_i z cs m hy
        obtain ⟨b, h1, h2⟩ := hq z cs m hy
        have hq2 := hs.slot dd
        rw [hy] at hq2
        obtain ⟨b', h1', u, h3, h4⟩ := sim_loadBox (d := d) hT hq2 hy h
        rw [h1] at h1'; cases h1'
        exact does_same (hrun b off u h2 h3) h4
      · cases h
    · rename_i z cs off hx
      rw [hx] at hq
      obtain ⟨b, n, h1, h2, f, h3, h4, h5⟩ := rep_eptr hq
      obtain ⟨u, h6, h7⟩ := sim_loadElem hT h2 h3 h5 h
      exact does_same (hrun b _ u h1 h6) h7.slot
    · cases h
end
end Go.Proofs.YtmdimhcjogjcgaaGreatDoor.Abs
