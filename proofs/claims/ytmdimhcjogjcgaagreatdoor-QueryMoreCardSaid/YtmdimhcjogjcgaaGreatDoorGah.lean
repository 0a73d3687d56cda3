/- 'append': what it takes and what it leaves. -/
import Derived.Test.YtmdimhcjogjcgaaGreatDoorGag
import Derived.Test.YtmdimhcjogjcgaaGreatDoorGac
set_option linter.all false
noncomputable section
namespace Go.Proofs.YtmdimhcjogjcgaaGreatDoor.Abs
open Go.RowKit
section
variable {P : Program} {τ : Tab} {B : Nat} {w : World} {c : Cls} {a : Act} {e : Env} {o : Oper} {d : Nat} {v : AV} {call : Nat → List AV → Option AV}
theorem CLL.one {sz : Nat} {us : List Value} {L : List (List AV)} (h : CLL w c sz us L) : ∀ u ∈ us, u.oneCell' = true := fun u hu => by
 obtain ⟨k, hk, rfl⟩ := List.getElem_of_mem hu
 have hk' : k < L.length * sz := by rw [← h.1]; exact hk
 have hsz : 0 < sz := Nat.pos_of_ne_zero fun h0 => by subst h0; omega
 have hi : k / sz < L.length := (Nat.div_lt_iff_lt_mul hsz).2 hk'
 have hj : k % sz < sz := Nat.mod_lt _ hsz
 have h1 : L[k / sz]? = some L[k / sz] := List.getElem?_eq_getElem hi
 have h2 := h.2.1 _ _ h1
 have h3 : (L[k / sz])[k % sz]? = some ((L[k / sz])[k % sz]'(by omega)) := List.getElem?_eq_getElem (by omega)
 refine wj (h.2.2 _ _ _ _ us[k] h1 h3 ?_)
 rw [Nat.mul_comm, Nat.div_add_mod]
 exact List.getElem?_eq_getElem hk
theorem eh.mono {B B' : Nat} {h : gp} {u : Value} {sz : Nat} {l : List (List AV)} (ho : eh B' w c h u sz l) (hB : B ≤ B') : eh B w c h u sz l :=
 ⟨ho.1, ho.2.imp id fun ⟨b, cap, vs, ty, h1, h2, h3⟩ => ⟨b, cap, vs, ty, h1, Nat.le_trans hB h2, h3⟩⟩
theorem ae9 {t ty el : TypeId} {i : TypeInfo} {bo : Option Addr} {n cap : Nat} (ht : P.underlying t = some (.slice el)) (hi : P.info? el = some i) (hn : n ≤ cap) :
  (Builtin.append_ #[t, t] ty #[.slice bo n cap, .slice none 0 0]).run P w = .ok (.slice bo n cap) w := by
 cases bo <;> simp [Builtin.append_, run_underlying ht, sizeOf, typeInfo, hi, Builtin.lenOf, Builtin.firstCells, hn, storeCells]
theorem ai8 {t ty el ty' : TypeId} {i : TypeInfo} {g n cap : Nat} {cur : Array Value} {p : Addr} {m k : Nat} {news : List Value} (ht : P.underlying t = some (.slice el)) (hi : P.info? el = some i)
  (hg : w.heap[g]? = some (.cells cur ty' (0, 0))) (hl : news.length = m * i.size) (hnews : ∀ (j : Nat) (u : Value), news[j]? = some u → w.cell? (p.add j) = some u) (h1 : ∀ u ∈ news, u.oneCell' = true)
  (hroom : n + m ≤ cap) (hfit : n * i.size + news.length ≤ cur.size) :
  (Builtin.append_ #[t, t] ty #[.slice (some ⟨g, 0, none⟩) n cap, .slice (some p) m k]).run P w =
   .ok (.slice (some ⟨g, 0, none⟩) (n + m) cap) (w.setRow g (cur.toList.take (n * i.size) ++ news ++ cur.toList.drop (n * i.size + news.length)).toArray) := by
 have hf := run_firstCells_some (P := P) w i.size m p m k news hl hnews
 have hst := run_storeCells_at P g (n * i.size) ty' news 0 cur w hg (by simpa using hfit) h1
 simp only [Nat.add_zero] at hst
 simp [Builtin.append_, run_underlying ht, sizeOf, typeInfo, hi, Builtin.lenOf, hroom, hf, Addr.add_lit, hst]
theorem am5 {e1 : Env} {H : gp} {t ty el : TypeId} {i : TypeInfo} {z u u2 : Value} {sz : Nat} {l ys : List (List AV)} (hs : ax τ B w c (aj a) e1) (hn : ¬ Live e1 H) (ho : eh B w c H u sz l) (hy : Rep w c u2 (.sl sz ys))
  (ht : P.underlying t = some (.slice el)) (hi : P.info? el = some i) (hz : i.zero = some z) (hsz : i.size = sz) (hzs : z.cells.size = sz) (hpos : 0 < sz) (hby : i.bytes ≤ 128) (hlim : l.length + ys.length ≤ lim) :
  ∃ v' w' c', (Builtin.append_ #[t, t] ty #[u, u2]).run P w = .ok v' w' ∧ Ext B w c w' c' ∧ ax τ B w' c' (aj a) e1 ∧ eh B w' c' (.slot d) v' sz (l ++ ys) := by
 subst hsz
 have h63 : l.length + ys.length ≤ maxLen := by unfold maxLen; unfold lim at hlim; omega
 have hbytes : (l.length + ys.length) * i.bytes ≤ 140737488355328 := by
  have : (l.length + ys.length) * i.bytes ≤ lim * 128 := Nat.mul_le_mul hlim hby
  unfold lim at this; omega
 obtain ⟨bo, k, news, rfl, h1, h2, h3, h4, _⟩ := oc hy
 have hone := h3.one
 cases bo with
 | none =>
  obtain rfl := h2 rfl
  have hys : ys = [] := List.eq_nil_of_length_eq_zero (by omega)
  subst hys
  rw [List.append_nil]
  obtain ⟨bo, cap, _, rfl, h5, _⟩ := oc ho.1
  exact ⟨_, w, reh B c H (.slot d), ae9 ht hi h5, wk .., hs.change (wk ..) (agu hn), ho.reh⟩
 | some p =>
  have fresh : ∀ (v' : Value) (w' : World) (us : List Value), CLL w c i.size us l → w'.ownsRow w.heap.size el i.size v' (l.length + ys.length) (us ++ news) → w.grownBy w' none →
    ∃ c', Ext B w c w' c' ∧ ax τ B w' c' (aj a) e1 ∧ eh B w' c' (.slot d) v' i.size (l ++ ys) := fun v' w' us hus hown hgr => by
   obtain ⟨c', hx, ho'⟩ := arc (h := .slot d) hgr hown (by simp) (hus.append h3)
   exact ⟨c', hx.mono hs.base, hs.alloc hx, ho'.mono hs.base⟩
  rcases ho.2 with ⟨rfl, rfl⟩ | ⟨b, cap, vs, ty', rfl, h5, h6, h7, h8, h9, h10⟩
  ·obtain ⟨v', w', hr, hown, hgr, _⟩ := run_append_own (P := P) w w.heap.size t ty el i z i.size i.bytes ht hi hz rfl rfl hzs hpos (.slice none 0 0) 0 [] (World.ownsRow_nil w w.heap.size el i.size) p ys.length k news h3.1 (fun j u hu => h4 p rfl j u hu) hone
    (by simpa using h63) (by simpa using hbytes) (Nat.le_refl _)
   obtain ⟨c', r⟩ := fresh v' w' [] ⟨by simp, fun i cs hi => by simp at hi, fun i j cs x u hi => by simp at hi⟩ (by simpa using hown) hgr
   exact ⟨v', w', c', hr, r⟩
  ·obtain ⟨bo, cap2, olds, e1', g5, _, g3, g4, _⟩ := oc ho.1
   cases e1'
   have holds : ∀ (j : Nat) (u : Value), olds[j]? = some u → vs[j]? = some u := fun j u hu => by
    have := g4 _ rfl j u hu
    rw [j6, cell_of h6, Nat.zero_add] at this; exact this
   by_cases hroom : l.length + ys.length ≤ cap
   ·have hle : (l.length + ys.length) * i.size ≤ cap * i.size := Nat.mul_le_mul_right _ hroom
    rw [Nat.add_mul] at hle
    have hfit : l.length * i.size + news.length ≤ vs.size := by rw [h3.1, h7]; exact hle
    have hr := ai8 (P := P) (ty := ty) (k := k) ht hi h6 h3.1 (fun j u hu => h4 p rfl j u hu) hone hroom hfit
    have hpre : ∀ j, j < l.length * i.size → vs[j]? = olds[j]? := fun j hj => by
     have hj' : j < olds.length := by rw [g3.1]; exact hj
     rw [List.getElem?_eq_getElem hj', holds j _ (List.getElem?_eq_getElem hj')]
    generalize hnc : (vs.toList.take (l.length * i.size) ++ news ++ vs.toList.drop (l.length * i.size + news.length)).toArray = nc at hr
    have htl : (vs.toList.take (l.length * i.size)).length = l.length * i.size := by simp; omega
    have hnew : ∀ (j : Nat) (u : Value), (olds ++ news)[j]? = some u → nc[j]? = some u := fun j u hu => by
     rw [← hnc]
     simp only [List.getElem?_toArray]
     have hj := (List.getElem?_eq_some_iff.1 hu).1
     rw [List.length_append, g3.1] at hj
     rw [List.getElem?_append_left (by rw [List.length_append, htl]; exact hj)]
     by_cases hjo : j < l.length * i.size
     ·rw [List.getElem?_append_left (by rw [htl]; exact hjo), List.getElem?_take, if_pos hjo]
      rw [List.getElem?_append_left (by rw [g3.1]; exact hjo)] at hu
      simpa using holds j u hu
     ·rw [List.getElem?_append_right (by rw [htl]; omega), htl]
      rw [List.getElem?_append_right (by rw [g3.1]; omega), g3.1] at hu
      exact hu
    have hx : Ext B w c (w.setRow b nc) (mq c b (.own ((l.length + ys.length) * i.size) (.slot d))) := by
     refine ⟨rfl, rfl, rfl, by simp [World.setRow], fun q hq hq' => ⟨setRow_other w b q nc (by omega), by simp [mq]; omega⟩, fun q j y hy hst => ?_⟩
     by_cases hqb : q = b
     ·subst hqb
      unfold dw at hst
      rw [h10] at hst
      refine ⟨?_, by unfold dw mq; simp [Nat.add_mul]; omega⟩
      rw [cell_setRow_same w q j vs nc ty' (0, 0) h6]
      rw [cell_of h6] at hy
      rw [hpre j hst] at hy
      refine hnew j y ?_
      rw [List.getElem?_append_left (by rw [g3.1]; exact hst)]; exact hy
     ·refine ⟨by rw [cell_setRow_other w b nc _ hqb]; exact hy, by unfold dw mq at *; simpa [hqb] using hst⟩
    have hch : Chg e1 w c (w.setRow b nc) (mq c b (.own ((l.length + ys.length) * i.size) (.slot d))) := fun q hq hl => by
     have hqb : q ≠ b := fun hh => hn (by rw [hh, h10] at hl; exact hl)
     exact ⟨setRow_other w b q nc hqb, by simp [mq, hqb]⟩
    have hb' := setRow_heap w b vs nc ty' (0, 0) h6
    have hncs : nc.size = cap * i.size := by
     rw [← hnc, ← h7]
     simp only [List.size_toArray, List.length_append, htl, List.length_drop, Array.length_toList]
     omega
    refine ⟨_, _, _, hr, hx, hs.change hx hch, ?_, .inr ⟨b, cap, nc, ty', by simp, h5, hb', hncs, h8, by simpa using hroom, by simp [mq]⟩⟩
    have := adj (c := mq c b (.own ((l.length + ys.length) * i.size) (.slot d))) (cap := cap) hb' ((g3.append h3).ext hx) (by simpa using hroom) hnew (fun k hk => by unfold dw mq; simpa using hk)
    simpa using this
   ·obtain ⟨v', w', hr, hown, hgr⟩ := run_append_arg_grows (P := P) w t ty el i z i.size i.bytes ht hi hz rfl rfl hzs hpos ⟨b, 0, none⟩ l.length cap olds g3.1 (fun j u hu => by rw [j6, cell_of h6, Nat.zero_add]; exact holds j u hu) p ys.length k news h3.1 (fun j u hu => h4 p rfl j u hu)
     (by omega) h63 hbytes
    obtain ⟨c', r⟩ := fresh v' w' olds g3 hown hgr
    exact ⟨v', w', c', hr, r⟩
end
end Go.Proofs.YtmdimhcjogjcgaaGreatDoor.Abs
namespace Go.Proofs.YtmdimhcjogjcgaaGreatDoor.Lat
open Go.RowKit Go.Proofs.YtmdimhcjogjcgaaGreatDoor.Abs
mutual
def ah : Tm → List AV
 | .mk k lo hi s a m o fs => [.int .i64 k, .int .i64 lo, .int .i64 hi, .str s, .bool a, .bool m, .bool o, .sl 2 (cb fs)]
def cb : List Fd → List (List AV)
 | [] => []
 | .mk n v :: r => [.str n, .sl 8 (ak v)] :: cb r
def ak : List Tm → List (List AV)
 | [] => []
 | t :: r => ah t :: ak r
end
theorem ad2 (t : Tm) : (ah t).length = 8 := by cases t; rfl
theorem je : ∀ v : List Tm, ak v = v.map ah
 | [] => by rw [ak]; rfl
 | t :: r => by rw [ak, je r]; rfl
def jg : Fd → List AV
 | .mk n v => [.str n, .sl 8 (ak v)]
theorem jq : ∀ fs : List Fd, cb fs = fs.map jg
 | [] => by rw [cb]; rfl
 | .mk n v :: r => by rw [cb, jq r]; rfl
mutual
def szT : Tm → Nat
 | .mk _ _ _ _ _ _ _ fs => 1 + szF fs
def szF : List Fd → Nat
 | [] => 0
 | .mk _ v :: r => 1 + szV v + szF r
def szV : List Tm → Nat
 | [] => 0
 | t :: r => szT t + szV r
end
theorem ie : ∀ fs : List Fd, fs.length ≤ szF fs
 | [] => by simp [szF]
 | .mk n v :: r => by have := ie r; simp [szF]; omega
theorem fx : ∀ v : List Tm, v.length ≤ szV v
 | [] => by simp [szV]
 | .mk _ _ _ _ _ _ _ fs :: r => by have := fx r; simp [szV, szT]; omega
mutual
inductive OT (w : World) (B : Nat) : Array Value → Nat → Tm → List Nat → Prop
 | mk {vs : Array Value} {o : Nat} {k lo hi : Int} {sb : ByteArray} {a m op : Bool} {fs : List Fd} {v : Value} {fp : List Nat}
   (h0 : vs[o]? = some (.int .i64 k)) (h1 : vs[o + 1]? = some (.int .i64 lo)) (h2 : vs[o + 2]? = some (.int .i64 hi)) (h3 : vs[o + 3]? = some (.string sb))
   (h4 : vs[o + 4]? = some (.bool a)) (h5 : vs[o + 5]? = some (.bool m)) (h6 : vs[o + 6]? = some (.bool op)) (h7 : vs[o + 7]? = some v)
   (hf : OF w B v fs fp) : OT w B vs o (.mk k lo hi sb.data.toList a m op fs) fp
inductive OF (w : World) (B : Nat) : Value → List Fd → List Nat → Prop
 | nil : OF w B (.slice none 0 0) [] []
 | emp {bo : Addr} {cap : Nat} : OF w B (.slice (some bo) 0 cap) [] []
 | row {b cap n : Nat} {vs : Array Value} {ty : TypeId} {fs : List Fd} {fp : List Nat} (hB : B ≤ b) (hb : w.heap[b]? = some (.cells vs ty (0, 0))) (hn : n = fs.length)
   (hc : n ≤ cap) (hs : vs.size = cap * 2) (hp : 0 < n) (hr : OFs w B vs 0 fs fp) : OF w B (.slice (some ⟨b, 0, none⟩) n cap) fs (b :: fp)
inductive OFs (w : World) (B : Nat) : Array Value → Nat → List Fd → List Nat → Prop
 | nil {vs : Array Value} {o : Nat} : OFs w B vs o [] []
 | cons {vs : Array Value} {o : Nat} {nb : ByteArray} {v : Value} {ts : List Tm} {r : List Fd} {f1 f2 : List Nat}
   (h0 : vs[o]? = some (.string nb)) (h1 : vs[o + 1]? = some v) (hv : OV w B v ts f1) (hr : OFs w B vs (o + 2) r f2) : OFs w B vs o (.mk nb.data.toList ts :: r) (f1 ++ f2)
inductive OV (w : World) (B : Nat) : Value → List Tm → List Nat → Prop
 | nil : OV w B (.slice none 0 0) [] []
 | emp {bo : Addr} {cap : Nat} : OV w B (.slice (some bo) 0 cap) [] []
 | row {b cap n : Nat} {vs : Array Value} {ty : TypeId} {ts : List Tm} {fp : List Nat} (hB : B ≤ b) (hb : w.heap[b]? = some (.cells vs ty (0, 0))) (hn : n = ts.length)
   (hc : n ≤ cap) (hs : vs.size = cap * 8) (hp : 0 < n) (hr : OTs w B vs 0 ts fp) : OV w B (.slice (some ⟨b, 0, none⟩) n cap) ts (b :: fp)
inductive OTs (w : World) (B : Nat) : Array Value → Nat → List Tm → List Nat → Prop
 | nil {vs : Array Value} {o : Nat} : OTs w B vs o [] []
 | cons {vs : Array Value} {o : Nat} {t : Tm} {r : List Tm} {f1 f2 : List Nat} (ht : OT w B vs o t f1) (hr : OTs w B vs (o + 8) r f2) : OTs w B vs o (t :: r) (f1 ++ f2)
end
section
variable {w : World} {B : Nat}
mutual
theorem OT.frame {w' : World} : ∀ {vs : Array Value} {o : Nat} {t : Tm} {fp : List Nat}, OT w B vs o t fp → (∀ b ∈ fp, w'.heap[b]? = w.heap[b]?) → OT w' B vs o t fp
 | _, _, _, _, .mk h0 h1 h2 h3 h4 h5 h6 h7 hf, he => .mk h0 h1 h2 h3 h4 h5 h6 h7 (hf.frame he)
theorem OF.frame {w' : World} : ∀ {v : Value} {fs : List Fd} {fp : List Nat}, OF w B v fs fp → (∀ b ∈ fp, w'.heap[b]? = w.heap[b]?) → OF w' B v fs fp
 | _, _, _, .nil, he => .nil
 | _, _, _, .emp, he => .emp
 | _, _, _, .row hB hb hn hc hs hp hr, he => .row hB (by rw [he _ (List.mem_cons_self ..)]; exact hb) hn hc hs hp (hr.frame fun b hb => he b (List.mem_cons_of_mem _ hb))
theorem OFs.frame {w' : World} : ∀ {vs : Array Value} {o : Nat} {fs : List Fd} {fp : List Nat}, OFs w B vs o fs fp → (∀ b ∈ fp, w'.heap[b]? = w.heap[b]?) → OFs w' B vs o fs fp
 | _, _, _, _, .nil, he => .nil
 | _, _, _, _, .cons h0 h1 hv hr, he => .cons h0 h1 (hv.frame fun b hb => he b (List.mem_append_left _ hb)) (hr.frame fun b hb => he b (List.mem_append_right _ hb))
theorem OV.frame {w' : World} : ∀ {v : Value} {ts : List Tm} {fp : List Nat}, OV w B v ts fp → (∀ b ∈ fp, w'.heap[b]? = w.heap[b]?) → OV w' B v ts fp
 | _, _, _, .nil, he => .nil
 | _, _, _, .emp, he => .emp
 | _, _, _, .row hB hb hn hc hs hp hr, he => .row hB (by rw [he _ (List.mem_cons_self ..)]; exact hb) hn hc hs hp (hr.frame fun b hb => he b (List.mem_cons_of_mem _ hb))
theorem OTs.frame {w' : World} : ∀ {vs : Array Value} {o : Nat} {ts : List Tm} {fp : List Nat}, OTs w B vs o ts fp → (∀ b ∈ fp, w'.heap[b]? = w.heap[b]?) → OTs w' B vs o ts fp
 | _, _, _, _, .nil, he => .nil
 | _, _, _, _, .cons ht hr, he => .cons (ht.frame fun b hb => he b (List.mem_append_left _ hb)) (hr.frame fun b hb => he b (List.mem_append_right _ hb))
end
mutual
theorem OT.base {B' : Nat} (hB' : B' ≤ B) : ∀ {vs : Array Value} {o : Nat} {t : Tm} {fp : List Nat}, OT w B vs o t fp → OT w B' vs o t fp
 | _, _, _, _, .mk h0 h1 h2 h3 h4 h5 h6 h7 hf => .mk h0 h1 h2 h3 h4 h5 h6 h7 (hf.base hB')
theorem OF.base {B' : Nat} (hB' : B' ≤ B) : ∀ {v : Value} {fs : List Fd} {fp : List Nat}, OF w B v fs fp → OF w B' v fs fp
 | _, _, _, .nil => .nil
 | _, _, _, .emp => .emp
 | _, _, _, .row hB hb hn hc hs hp hr => .row (Nat.le_trans hB' hB) hb hn hc hs hp (hr.base hB')
theorem OFs.base {B' : Nat} (hB' : B' ≤ B) : ∀ {vs : Array Value} {o : Nat} {fs : List Fd} {fp : List Nat}, OFs w B vs o fs fp → OFs w B' vs o fs fp
 | _, _, _, _, .nil => .nil
 | _, _, _, _, .cons h0 h1 hv hr => .cons h0 h1 (hv.base hB') (hr.base hB')
theorem OV.base {B' : Nat} (hB' : B' ≤ B) : ∀ {v : Value} {ts : List Tm} {fp : List Nat}, OV w B v ts fp → OV w B' v ts fp
 | _, _, _, .nil => .nil
 | _, _, _, .emp => .emp
 | _, _, _, .row hB hb hn hc hs hp hr => .row (Nat.le_trans hB' hB) hb hn hc hs hp (hr.base hB')
theorem OTs.base {B' : Nat} (hB' : B' ≤ B) : ∀ {vs : Array Value} {o : Nat} {ts : List Tm} {fp : List Nat}, OTs w B vs o ts fp → OTs w B' vs o ts fp
 | _, _, _, _, .nil => .nil
 | _, _, _, _, .cons ht hr => .cons (ht.base hB') (hr.base hB')
end
mutual
theorem OT.bd : ∀ {vs : Array Value} {o : Nat} {t : Tm} {fp : List Nat}, OT w B vs o t fp → ∀ b ∈ fp, B ≤ b ∧ b < w.heap.size
 | _, _, _, _, .mk h0 h1 h2 h3 h4 h5 h6 h7 hf => hf.bd
theorem OF.bd : ∀ {v : Value} {fs : List Fd} {fp : List Nat}, OF w B v fs fp → ∀ b ∈ fp, B ≤ b ∧ b < w.heap.size
 | _, _, _, .nil => fun b hb => by cases hb
 | _, _, _, .emp => fun b hb => by cases hb
 | _, _, _, .row hB hb hn hc hs hp hr => fun b hb' => by
  rcases List.mem_cons.1 hb' with rfl | hb'
  ·exact ⟨hB, (Array.getElem?_eq_some_iff.1 hb).1⟩
  ·exact hr.bd b hb'
theorem OFs.bd : ∀ {vs : Array Value} {o : Nat} {fs : List Fd} {fp : List Nat}, OFs w B vs o fs fp → ∀ b ∈ fp, B ≤ b ∧ b < w.heap.size
 | _, _, _, _, .nil => fun b hb => by cases hb
 | _, _, _, _, .cons h0 h1 hv hr => fun b hb => by
  rcases List.mem_append.1 hb with hb | hb
  ·exact hv.bd b hb
  ·exact hr.bd b hb
theorem OV.bd : ∀ {v : Value} {ts : List Tm} {fp : List Nat}, OV w B v ts fp → ∀ b ∈ fp, B ≤ b ∧ b < w.heap.size
 | _, _, _, .nil => fun b hb => by cases hb
 | _, _, _, .emp => fun b hb => by cases hb
 | _, _, _, .row hB hb hn hc hs hp hr => fun b hb' => by
  rcases List.mem_cons.1 hb' with rfl | hb'
  ·exact ⟨hB, (Array.getElem?_eq_some_iff.1 hb).1⟩
  ·exact hr.bd b hb'
theorem OTs.bd : ∀ {vs : Array Value} {o : Nat} {ts : List Tm} {fp : List Nat}, OTs w B vs o ts fp → ∀ b ∈ fp, B ≤ b ∧ b < w.heap.size
 | _, _, _, _, .nil => fun b hb => by cases hb
 | _, _, _, _, .cons ht hr => fun b hb => by
  rcases List.mem_append.1 hb with hb | hb
  ·exact ht.bd b hb
  ·exact hr.bd b hb
end
theorem OT.arr {vs vs' : Array Value} {o : Nat} {t : Tm} {fp : List Nat} (h : OT w B vs o t fp) (he : ∀ i, o ≤ i → i < o + 8 → vs'[i]? = vs[i]?) : OT w B vs' o t fp := by
 cases h with
 | mk h0 h1 h2 h3 h4 h5 h6 h7 hf =>
  have e : ∀ j, j < 8 → vs'[o + j]? = vs[o + j]? := fun j hj => he _ (by omega) (by omega)
  exact .mk ((e 0 (by omega)).trans h0) ((e 1 (by omega)).trans h1) ((e 2 (by omega)).trans h2) ((e 3 (by omega)).trans h3) ((e 4 (by omega)).trans h4) ((e 5 (by omega)).trans h5) ((e 6 (by omega)).trans h6) ((e 7 (by omega)).trans h7) hf
theorem OTs.arr {vs vs' : Array Value} : ∀ {ts : List Tm} {o : Nat} {fp : List Nat}, OTs w B vs o ts fp → (∀ i, o ≤ i → i < o + 8 * ts.length → vs'[i]? = vs[i]?) → OTs w B vs' o ts fp
 | [], _, _, h, _ => by cases h; exact .nil
 | t :: r, o, _, h, he => by
  cases h with
  | cons ht hr =>
   simp only [List.length_cons] at he
   exact .cons (ht.arr fun i h1 h2 => he i h1 (by omega)) (hr.arr fun i h1 h2 => he i (by omega) (by omega))
theorem OFs.arr {vs vs' : Array Value} : ∀ {fs : List Fd} {o : Nat} {fp : List Nat}, OFs w B vs o fs fp → (∀ i, o ≤ i → i < o + 2 * fs.length → vs'[i]? = vs[i]?) → OFs w B vs' o fs fp
 | [], _, _, h, _ => by cases h; exact .nil
 | t :: r, o, _, h, he => by
  cases h with
  | cons h0 h1 hv hr =>
   simp only [List.length_cons] at he
   exact .cons ((he o (by omega) (by omega)).trans h0) ((he (o + 1) (by omega) (by omega)).trans h1) hv (hr.arr fun i h1 h2 => he i (by omega) (by omega))
theorem OTs.snoc {vs : Array Value} {t : Tm} {f2 : List Nat} : ∀ {ts : List Tm} {o : Nat} {f1 : List Nat}, OTs w B vs o ts f1 → OT w B vs (o + 8 * ts.length) t f2 → OTs w B vs o (ts ++ [t]) (f1 ++ f2)
 | [], o, _, h, ht => by cases h; have := OTs.cons (w := w) (B := B) (r := []) (f2 := []) (by simpa using ht) .nil; simpa using this
 | x :: r, o, _, h, ht => by
  cases h with
  | cons hx hr =>
   rw [List.append_assoc]
   exact .cons hx (hr.snoc (by simp only [List.length_cons] at ht; rw [show o + 8 + 8 * r.length = o + 8 * (r.length + 1) by omega]; exact ht))
theorem OFs.snoc {vs : Array Value} {nb : ByteArray} {v : Value} {ts : List Tm} {f2 : List Nat} : ∀ {fs : List Fd} {o : Nat} {f1 : List Nat}, OFs w B vs o fs f1 →
  vs[o + 2 * fs.length]? = some (.string nb) → vs[o + 2 * fs.length + 1]? = some v → OV w B v ts f2 → OFs w B vs o (fs ++ [.mk nb.data.toList ts]) (f1 ++ f2)
 | [], o, _, h, h0, h1, hv => by cases h; have := OFs.cons (w := w) (B := B) (r := []) (f2 := []) (by simpa using h0) (by simpa using h1) hv .nil; simpa using this
 | x :: r, o, _, h, h0, h1, hv => by
  cases h with
  | cons g0 g1 gv hr =>
   rw [List.append_assoc]
   simp only [List.length_cons] at h0 h1
   exact .cons g0 g1 gv (hr.snoc (by rw [show o + 2 + 2 * r.length = o + 2 * (r.length + 1) by omega]; exact h0) (by rw [show o + 2 + 2 * r.length = o + 2 * (r.length + 1) by omega]; exact h1) hv)
end
section
variable {w : World} {B : Nat} {c : Cls} (hfz : ∀ b, B ≤ b → c b = .frz)
include hfz
mutual
theorem OT.rep : ∀ {vs : Array Value} {o : Nat} {t : Tm} {fp : List Nat}, OT w B vs o t fp → ∀ (j : Nat) (a : AV), (ah t)[j]? = some a → ∃ u, vs[o + j]? = some u ∧ Rep w c u a
 | vs, o, _, _, .mk h0 h1 h2 h3 h4 h5 h6 h7 hf, j, a, ha => by
  rw [ah] at ha
  have hj := (List.getElem?_eq_some_iff.1 ha).1
  simp only [List.length_cons, List.length_nil] at hj
  rcases (by omega : j = 0 ∨ j = 1 ∨ j = 2 ∨ j = 3 ∨ j = 4 ∨ j = 5 ∨ j = 6 ∨ j = 7) with rfl | rfl | rfl | rfl | rfl | rfl | rfl | rfl
  all_goals (simp only [List.getElem?_cons_zero, List.getElem?_cons_succ, Option.some.injEq] at ha; subst ha)
  ·exact ⟨_, h0, .int _ _⟩
  ·exact ⟨_, h1, .int _ _⟩
  ·exact ⟨_, h2, .int _ _⟩
  ·exact ⟨_, h3, .str _⟩
  ·exact ⟨_, h4, .bool _⟩
  ·exact ⟨_, h5, .bool _⟩
  ·exact ⟨_, h6, .bool _⟩
  ·exact ⟨_, h7, hf.rep⟩
theorem OF.rep : ∀ {v : Value} {fs : List Fd} {fp : List Nat}, OF w B v fs fp → Rep w c v (.sl 2 (cb fs))
 | _, _, _, .nil => by rw [cb]; exact .nil _
 | _, _, _, .emp => by rw [cb]; exact .emp _ _ _
 | _, fs, _, .row (b := b) (cap := cap) (n := n) (vs := vs) hB hb hn hc hs hp hr => by
  have hl : (cb fs).length = n := by rw [jq, List.length_map, hn]
  rw [← hl]
  refine Rep.sl b 0 cap 2 (cb fs) (fun i j => vs.getD (i * 2 + j) undef) (by omega) (fun i cs hi => ?_) (fun i j hi hj => ?_) (fun i j hi hj => ?_) (fun i j cs a hi hj => ?_)
  ·rw [jq, List.getElem?_map] at hi
   cases hx : fs[i]? with
   | none => rw [hx] at hi; cases hi
   | some f => rw [hx] at hi; obtain ⟨n, v⟩ := f; cases hi; rfl
  ·rw [cell_of hb, Nat.zero_add]
   have : i * 2 + j < vs.size := by omega
   simp [Array.getD_eq_getD_getElem?, this]
  ·unfold dw; rw [hfz b hB]; trivial
  ·obtain ⟨u, h1, h2⟩ := hr.rep i j cs a hi hj
   rw [Nat.zero_add] at h1
   show Rep w c (vs.getD (i * 2 + j) undef) a
   simp only [Array.getD_eq_getD_getElem?, h1, Option.getD_some]; exact h2
theorem OFs.rep : ∀ {vs : Array Value} {o : Nat} {fs : List Fd} {fp : List Nat}, OFs w B vs o fs fp → ∀ (i j : Nat) (cs : List AV) (a : AV), (cb fs)[i]? = some cs → cs[j]? = some a → ∃ u, vs[o + (i * 2 + j)]? = some u ∧ Rep w c u a
 | _, _, _, _, .nil, i, j, cs, a, hi, hj => by rw [cb] at hi; simp at hi
 | vs, o, _, _, .cons h0 h1 hv hr, i, j, cs, a, hi, hj => by
  rw [cb] at hi
  cases i with
  | succ i =>
   obtain ⟨u, h1, h2⟩ := hr.rep i j cs a (by simpa using hi) hj
   exact ⟨u, by rw [show o + ((i + 1) * 2 + j) = o + 2 + (i * 2 + j) by omega]; exact h1, h2⟩
  | zero =>
   simp only [List.getElem?_cons_zero, Option.some.injEq] at hi
   subst hi
   have hj' := (List.getElem?_eq_some_iff.1 hj).1
   simp only [List.length_cons, List.length_nil] at hj'
   rcases (by omega : j = 0 ∨ j = 1) with rfl | rfl
   all_goals (simp only [List.getElem?_cons_zero, List.getElem?_cons_succ, Option.some.injEq] at hj; subst hj)
   ·exact ⟨_, by simpa using h0, .str _⟩
   ·exact ⟨_, by simpa using h1, hv.rep⟩
theorem OV.rep : ∀ {v : Value} {ts : List Tm} {fp : List Nat}, OV w B v ts fp → Rep w c v (.sl 8 (ak ts))
 | _, _, _, .nil => by rw [ak]; exact .nil _
 | _, _, _, .emp => by rw [ak]; exact .emp _ _ _
 | _, ts, _, .row (b := b) (cap := cap) (n := n) (vs := vs) hB hb hn hc hs hp hr => by
  have hl : (ak ts).length = n := by rw [je, List.length_map, hn]
  rw [← hl]
  refine Rep.sl b 0 cap 8 (ak ts) (fun i j => vs.getD (i * 8 + j) undef) (by omega) (fun i cs hi => ?_) (fun i j hi hj => ?_) (fun i j hi hj => ?_) (fun i j cs a hi hj => ?_)
  ·rw [je, List.getElem?_map] at hi
   cases hx : ts[i]? with
   | none => rw [hx] at hi; cases hi
   | some f => rw [hx] at hi; cases hi; exact ad2 f
  ·rw [cell_of hb, Nat.zero_add]
   have : i * 8 + j < vs.size := by omega
   simp [Array.getD_eq_getD_getElem?, this]
  ·unfold dw; rw [hfz b hB]; trivial
  ·obtain ⟨u, h1, h2⟩ := hr.rep i j cs a hi hj
   rw [Nat.zero_add] at h1
   show Rep w c (vs.getD (i * 8 + j) undef) a
   simp only [Array.getD_eq_getD_getElem?, h1, Option.getD_some]; exact h2
theorem OTs.rep : ∀ {vs : Array Value} {o : Nat} {ts : List Tm} {fp : List Nat}, OTs w B vs o ts fp → ∀ (i j : Nat) (cs : List AV) (a : AV), (ak ts)[i]? = some cs → cs[j]? = some a → ∃ u, vs[o + (i * 8 + j)]? = some u ∧ Rep w c u a
 | _, _, _, _, .nil, i, j, cs, a, hi, hj => by rw [ak] at hi; simp at hi
 | vs, o, _, _, .cons ht hr, i, j, cs, a, hi, hj => by
  rw [ak] at hi
  cases i with
  | succ i =>
   obtain ⟨u, h1, h2⟩ := hr.rep i j cs a (by simpa using hi) hj
   exact ⟨u, by rw [show o + ((i + 1) * 8 + j) = o + 8 + (i * 8 + j) by omega]; exact h1, h2⟩
  | zero =>
   simp only [List.getElem?_cons_zero, Option.some.injEq] at hi
   subst hi
   obtain ⟨u, h1, h2⟩ := ht.rep j a hj
   exact ⟨u, by simpa using h1, h2⟩
end
end
end Go.Proofs.YtmdimhcjogjcgaaGreatDoor.Lat
