/- rings, settle and strings.Join are told: their places among the oracles. -/
import Derived.Test.YtmdimhcjogjcgaaGreatDoorGba
import Derived.Test.YtmdimhcjogjcgaaGreatDoorGbg
import Derived.Lib.Join
set_option linter.all false
set_option maxRecDepth 100000
set_option maxHeartbeats 4000000
noncomputable section
namespace Go.Proofs.YtmdimhcjogjcgaaGreatDoor.Abs
open Go.RowKit Go.Proofs.YtmdimhcjogjcgaaGreatDoor.Lat Go.Proofs.YtmdimhcjogjcgaaGreatDoor.Gr
def aop (ts : List Th) : Prop := ts.length ≤ 16384 ∧ ∀ t ∈ ts, t.d.length ≤ 16384 ∧ t.n.length ≤ maxLen
theorem agx : ∀ {a b : List Bs}, ar a = ar b → a = b
 | [], [], _ => rfl
 | [], _ :: _, h => by simp [ar] at h
 | _ :: _, [], h => by simp [ar] at h
 | x :: a, y :: b, h => by
  simp only [ar, List.map_cons, List.cons.injEq, AV.str.injEq, and_true] at h
  rw [h.1, agx (a := a) (b := b) h.2]
theorem ayd : ∀ {a b : List Th}, cy a = cy b → tds a = tds b
 | [], [], _ => rfl
 | [], _ :: _, h => by simp [cy] at h
 | _ :: _, [], h => by simp [cy] at h
 | x :: a, y :: b, h => by
  simp only [cy, aam, List.map_cons, List.cons.injEq, AV.str.injEq, AV.sl.injEq, and_true, true_and] at h
  have ih := ayd (a := a) (b := b) h.2
  simp only [tds, List.map_cons, List.cons.injEq, Prod.mk.injEq]
  exact ⟨⟨h.1.1, agx h.1.2.2⟩, ih⟩
def ado (l : List AV) : Option AV := open Classical in if h : ∃ ts, aop ts ∧ l = [.sl 3 (cy ts)] then some (.bool (og (tds (Classical.choose h)))) else none
theorem a4i {l : List AV} {r : AV} (h : ado l = some r) : ∃ ts, aop ts ∧ l = [.sl 3 (cy ts)] ∧ r = .bool (og (tds ts)) := by
 unfold ado at h
 split at h
 ·rename_i hx
  cases h
  exact ⟨_, (Classical.choose_spec hx).1, (Classical.choose_spec hx).2, rfl⟩
 ·cases h
theorem a4j {ts : List Th} (hs : aop ts) : ado [.sl 3 (cy ts)] = some (.bool (og (tds ts))) := by
 unfold ado
 have hx : ∃ q, aop q ∧ [AV.sl 3 (cy ts)] = [.sl 3 (cy q)] := ⟨ts, hs, rfl⟩
 rw [dif_pos hx]
 have h2 := (Classical.choose_spec hx).2
 have h3 := (AV.sl.inj (List.cons.inj h2).1).2
 exact congrArg (fun x => some (AV.bool (og x))) (ayd h3).symm
theorem ah6 {w : World} {c : Cls} {v : Value} {s : Bs} (h : Rep w c v (.str s)) : v = .string ⟨s.toArray⟩ := by
 obtain ⟨b, rfl, rfl⟩ := lh h
 congr 1
theorem bi3 {w : World} {c : Cls} {v : Value} {ts : List Th} (h : Rep w c v (.sl 3 (cy ts))) : RT w v (tds ts) := by
 obtain ⟨A, cap, rfl, _, _, hm⟩ := lr h
 have hlen : (tds ts).length = (cy ts).length := by simp [tds, cy]
 refine ⟨A, cap, by rw [hlen], fun i n ds hi => ?_⟩
 have hi' : i < ts.length := by have := (List.getElem?_eq_some_iff.1 hi).1; simpa [tds] using this
 have e1 : ts[i]? = some ts[i] := List.getElem?_eq_getElem hi'
 have e2 : (ts[i].n, ts[i].d) = (n, ds) := by
  rw [tds, List.getElem?_map, e1] at hi; simpa using hi
 obtain ⟨rfl, rfl⟩ := Prod.mk.inj e2
 obtain ⟨g, o, rfl, _, f, hc, _, hr⟩ := hm (by rw [jm]; omega)
 have hl : i < (cy ts).length := by rw [jm]; exact hi'
 have r0 := ah6 (hr i 0 _ _ (fy e1) rfl)
 obtain ⟨A1, cap1, r1, _⟩ := lr (hr i 1 _ _ (fy e1) rfl)
 obtain ⟨A2, cap2, r2, _, _, hm2⟩ := lr (hr i 2 _ _ (fy e1) rfl)
 refine ⟨g, o, A1, (al ts[i].v).length, cap1, A2, cap2, rfl, ?_, ?_, ?_, fun j s hs => ?_⟩
 ·have := hc i 0 hl (by omega); rw [r0] at this; exact this
 ·have := hc i 1 hl (by omega); rw [r1] at this; exact this
 ·have := hc i 2 hl (by omega); rw [r2, br] at this; exact this
 ·have hj : j < ts[i].d.length := (List.getElem?_eq_some_iff.1 hs).1
  obtain ⟨g2, o2, rfl, _, f2, hc2, _, hr2⟩ := hm2 (by rw [br]; omega)
  refine ⟨g2, o2, rfl, ?_⟩
  have := hc2 j 0 (by rw [br]; exact hj) (by omega)
  rw [ah6 (hr2 j 0 _ _ (gn hs) rfl)] at this
  simpa using this
theorem a0d {w : World} {c : Cls} {v : Value} {ts : List Th} (hG : GOK τ w c) (hR : Rep w c v (.sl 3 (cy ts))) (hl : ts.length ≤ 1073741824) (W : World) (hB : Below w.heap.size w W) (s : Bs) :
  Calls Tryz.prog 34 #[v, .string ⟨s.toArray⟩] W fun e w' => ∃ i : Int, e = .returned (.int .i64 i) ∧ (0 ≤ i ↔ s ∈ nms (tds ts)) ∧ Below W.heap.size W w' := by
 refine (St.xf abz (show ah S 34 _ = _ from azb ts hl s) (vs := #[v, .string ⟨s.toArray⟩]) Tryz.func34 rfl (by decide +kernel) (hG.ext (ly c hB)) rfl (fun i x y hx hy => ?_)).mono fun e w' ⟨x, c', he, hx, hr⟩ => ?_
 ·rcases i with _ | _ | i
  ·simp at hx hy; subst hx; subst hy; exact .inr (hR.ext (ly c hB))
  ·simp at hx hy; subst hx; subst hy
   have := Rep.str (w := W) (c := fun b => if b < w.heap.size then c b else .frz) ⟨s.toArray⟩
   exact .inr (by simpa using this)
  ·simp at hx
 ·obtain rfl := iu (show Rep w' c' x (.int .i64 _) from hr)
  exact ⟨_, he, by rw [aca]; exact afg _ _ _, St.ah5 hx⟩
theorem bck {ts : List Th} (hs : aop ts) : PC Tryz.prog τ 78 [.sl 3 (cy ts)] (.bool (og (tds ts))) := by
 refine arw Tryz.func78 rfl (by decide +kernel) fun w c vs hG hsz ha => ?_
 obtain ⟨v, rfl, hv⟩ := afm hsz ha
 have hR : Rep w c v (.sl 3 (cy ts)) := by rcases hv with hv | hv <;> exact hv
 refine (a3r (bi3 hR) (by simpa [tds] using hs.1) (fun t ht => ?_) (fun x hx => ?_) fun W hB s => ?_).mono fun e w' ⟨he, hB⟩ => ⟨_, he, hB, fun c' => Rep.bool _⟩
 ·obtain ⟨u, hu, rfl⟩ := List.mem_map.1 ht
  exact (hs.2 u hu).1
 ·rw [aca] at hx
  obtain ⟨u, hu, rfl⟩ := List.mem_map.1 hx
  exact (hs.2 u hu).2
 ·exact a0d hG hR (by have := hs.1; omega) W hB s
def zw (l : List AV) : Option AV := open Classical in if ∃ t : Tm, szV [t] ≤ 1073741824 ∧ wtV [t] ≤ 512 ∧ l = [.sl 8 [ao t]] then (match l with | [.sl 8 x] => some (.tup [.agg 1 [.sl 8 x], .int .i64 0]) | _ => none) else none
theorem a0e {l : List AV} {r : AV} (h : zw l = some r) : ∃ t : Tm, szV [t] ≤ 1073741824 ∧ wtV [t] ≤ 512 ∧ l = [.sl 8 [ao t]] ∧ r = .tup [.agg 1 [.sl 8 [ao t]], .int .i64 0] := by
 unfold zw at h
 split at h
 ·rename_i hx
  obtain ⟨t, h1, h2, rfl⟩ := hx
  cases h
  exact ⟨t, h1, h2, rfl, rfl⟩
 ·cases h
theorem a0f {t : Tm} (h1 : szV [t] ≤ 1073741824) (h2 : wtV [t] ≤ 512) : zw [.sl 8 [ao t]] = some (.tup [.agg 1 [.sl 8 [ao t]], .int .i64 0]) := by
 unfold zw
 rw [if_pos ⟨t, h1, h2, rfl⟩]; rfl
theorem a83 {t : Tm} (h1 : szV [t] ≤ 1073741824) (h2 : wtV [t] ≤ 512) : PC Tryz.prog τ 195 [.sl 8 [ao t]] (.tup [.agg 1 [.sl 8 [ao t]], .int .i64 0]) := by
 intro w c vs hG hsz ha
 obtain ⟨v, rfl, hv⟩ := afm hsz ha
 have hR : Rep w c v (.sl 8 [ao t]) := by rcases hv with hv | hv <;> exact hv
 refine .inl ⟨by simp [callFunc, Tryz.func195, (show ¬ Tryz.f195.name = "runtime.NumGoroutine" by decide +kernel), (show Tryz.f195.body = some _ from rfl)], ?_⟩
 refine (St.a0b w c v t hR h1 hG h2).mono fun e w' ⟨v', fp, he, hB, hO⟩ => ⟨_, he, _, ly c hB, ?_⟩
 have e1 : [ao t] = al [t] := by rw [nw]; rfl
 refine ⟨_, rfl, rfl, fun i x y hx hy => ?_⟩
 rcases i with _ | _ | i
 ·simp at hx hy
  subst hx; subst hy
  exact ⟨_, rfl, rfl, rfl, fun j a z ha hz => by
   rcases j with _ | j
   ·simp at ha hz; subst ha; subst hz; rw [e1]; exact hO.rep (fun b hb => by simp; omega)
   ·simp at ha⟩
 ·simp at hx hy; subst hx; subst hy; exact .int _ _
 ·simp at hx
def adp : List (List AV) → Option (List Bs)
 | [] => some []
 | [.str s] :: r => (adp r).map (s :: ·)
 | _ => none
theorem am1 : ∀ d : List Bs, adp (ar d) = some d
 | [] => rfl
 | s :: r => by
  show (adp (ar r)).map (s :: ·) = _
  rw [am1 r]; rfl
theorem aqq : ∀ {l : List (List AV)} {d : List Bs}, adp l = some d → l = ar d
 | [], d, h => by cases h; rfl
 | x :: r, d, h => by
  unfold adp at h
  split at h
  ·rename_i h1; cases h1
  ·rename_i s q h1
   cases h1
   cases hq : adp r with
   | none => rw [hq] at h; cases h
   | some e =>
    rw [hq] at h; cases h
    rw [aqq hq]; rfl
  ·cases h
def am2 (d : List Bs) (sep : Bs) : Prop := d.length ≤ 1073741824 ∧ (Lib.join d sep).length ≤ 1099511627776
instance (d : List Bs) (sep : Bs) : Decidable (am2 d sep) := by unfold am2; infer_instance
def ajf : List AV → Option AV
 | [.sl 1 l, .str sep] => (match adp l with
  | some d => if am2 d sep then some (.str (Lib.join d sep)) else none
  | none => none)
 | _ => none
theorem bgd (l : List AV) (r : AV) (h : ajf l = some r) : PC Tryz.prog τ 107 l r := by
 unfold ajf at h
 split at h
 ·rename_i l sep
  split at h
  ·rename_i d hd
   split at h
   ·rename_i hok
    cases h
    obtain rfl := aqq hd
    refine arw Tryz.func107 rfl (by decide +kernel) fun w c vs hG hsz ha => ?_
    obtain ⟨v, u, rfl, hv, hu⟩ := adn hsz ha
    have hR : Rep w c v (.sl 1 (ar d)) := by rcases hv with hv | hv <;> exact hv
    have hU : Rep w c u (.str sep) := by rcases hu with hu | hu <;> exact hu
    obtain ⟨sb, rfl, rfl⟩ := lh hU
    obtain ⟨A, cap, rfl, hcap, _, hm⟩ := lr hR
    rw [br] at hcap hm ⊢
    by_cases h0 : d.length = 0
    ·obtain rfl := List.eq_nil_of_length_eq_zero h0
     refine (Tryz.strings_Join_none A cap sb w).mono fun e w' ⟨he, hw⟩ => ⟨_, he, ?_, fun c' => ?_⟩
     ·rw [hw]; exact Below.refl _ _
     ·exact Rep.str ⟨#[]⟩
    ·obtain ⟨g, o, rfl, _, f, hc, _, hr⟩ := hm (by omega)
     have hcell : ∀ (j : Nat) (x : ByteArray), (d.map fun s => (⟨s.toArray⟩ : ByteArray))[j]? = some x → w.cell? ⟨g, o + j, none⟩ = some (.string x) := fun j x hx => by
      rw [List.getElem?_map] at hx
      cases hj : d[j]? with
      | none => rw [hj] at hx; cases hx
      | some s =>
       rw [hj] at hx; cases hx
       have hjl := (List.getElem?_eq_some_iff.1 hj).1
       have hcj := hc j 0 hjl (by omega)
       rw [ah6 (hr j 0 _ _ (gn hj) rfl)] at hcj
       simpa using hcj
     have hmm : (d.map fun s => (⟨s.toArray⟩ : ByteArray)).map (·.data.toList) = d := by
      rw [List.map_map]
      conv => rhs; rw [← List.map_id d]
      exact List.map_congr_left fun s _ => rfl
     have hlt : g < w.heap.size := wc (hcell 0 _ (List.getElem?_eq_getElem (by rw [List.length_map]; omega)))
     have C := Tryz.strings_Join g o cap (d.map fun s => (⟨s.toArray⟩ : ByteArray)) sb w hcell hlt (by rw [List.length_map]; have := hok.1; omega) (by rw [List.length_map]; exact hcap) (by rw [hmm]; have := hok.2; omega)
     rw [hmm, List.length_map] at C
     refine C.mono fun e w' ⟨he, hB⟩ => ⟨_, he, hB, fun c' => ?_⟩
     have := Rep.str (w := w') (c := c') ⟨(Lib.join d sb.data.toList).toArray⟩
     show Rep w' c' _ _
     simpa using this
   ·cases h
  ·cases h
 ·cases h
def Y1 : Abs.Sys := wj S 78 ado
def Y2 : Abs.Sys := wj Y1 195 zw
def Y3 : Abs.Sys := wj Y2 107 ajf
end Go.Proofs.YtmdimhcjogjcgaaGreatDoor.Abs
namespace Go.Proofs.YtmdimhcjogjcgaaGreatDoor.Qw
open Go.Shelf Go.RowKit Go.Lib Go.Proofs.YtmdimhcjogjcgaaGreatDoor.Abs Go.Proofs.YtmdimhcjogjcgaaGreatDoor.Lat Go.Proofs.YtmdimhcjogjcgaaGreatDoor.Lat.Cp Go.Proofs.YtmdimhcjogjcgaaGreatDoor.Gr Go.Proofs.YtmdimhcjogjcgaaGreatDoor.Th
abbrev L8 := List UInt8
def pre (x : L8) : List L8 → List L8
 | [] => [x]
 | h :: r => (x ++ h) :: r
def eu : L8 → List L8
 | [] => [[]]
 | c :: r => if c = 46 then [] :: eu r else pre [c] (eu r)
theorem pre_nil (l : List L8) (h : l ≠ []) : pre [] l = l := by cases l with | nil => exact absurd rfl h | cons a r => rfl
theorem np (l : L8) : eu l ≠ [] := by
  cases l with
  | nil => simp [eu]
  | cons c r => unfold eu; split; · simp
                · cases eu r <;> simp [pre]
theorem aye (x y : L8) (l : List L8) (h : l ≠ []) : pre x (pre y l) = pre (x ++ y) l := by
 cases l with | nil => exact absurd rfl h | cons a r => simp [pre]
theorem am3 : ∀ s : L8, Lib.splitK [46] 0 (Lib.count s [46]) s = eu s
 | [] => by rfl
 | c :: r => by
  have ih := am3 r
  unfold eu
  by_cases hc : c = 46
  ·subst hc
   rw [if_pos rfl, Lib.count_cons_eq, Nat.add_comm, Lib.splitK]
   have hi : Lib.index (46 :: r) [46] = 0 := by rw [Lib.index_one]; simp [Lib.indexByte]
   rw [hi, if_neg (by decide)]
   simpa using ih
  ·rw [if_neg hc, Lib.count_cons_ne _ _ _ hc, ← ih]
   cases hk : Lib.count r [46] with
   | zero => rfl
   | succ k =>
    have hi : Lib.index (c :: r) [46] = if Lib.index r [46] == -1 then -1 else Lib.index r [46] + 1 := by
     rw [Lib.index_one, Lib.index_one, Lib.indexByte, if_neg (by simpa using hc)]
    have hge := Lib.index_ge r [46]
    unfold Lib.splitK
    by_cases hm : Lib.index r [46] = -1
    ·rw [hi, hm]; rfl
    ·obtain ⟨i, e⟩ : ∃ i : Nat, Lib.index r [46] = i := ⟨(Lib.index r [46]).toNat, by omega⟩
     rw [hi, e, if_neg (by simp <;> omega), if_neg (by simp <;> omega), if_neg (by simp <;> omega)]
     rw [show ((i : Int) + 1).toNat = i + 1 from by omega, Int.toNat_natCast]
     rfl
theorem ajg (x y : L8) (r : List L8) (sep : L8) : Lib.join (x :: y :: r) sep = x ++ sep ++ Lib.join (y :: r) sep := by
 rw [Lib.join_cons, Lib.join_cons]
 simp [Lib.joinTail]
theorem ak4 : ∀ s : L8, Lib.join (eu s) [46] = s
 | [] => by rfl
 | c :: r => by
  have ih := ak4 r
  unfold eu
  cases hd : eu r with
  | nil => exact absurd hd (np r)
  | cons h t =>
   rw [hd] at ih
   split
   ·rename_i hc; rw [ajg, ih, hc]; rfl
   ·rw [pre, Lib.join_cons]
    rw [Lib.join_cons] at ih
    rw [← ih]; simp
theorem yf : ∀ s : L8, (eu s).length ≤ s.length + 1
 | [] => by simp [eu]
 | c :: r => by
  have ih := yf r
  unfold eu
  split
  ·simp; omega
  ·cases hd : eu r with
   | nil => exact absurd hd (np r)
   | cons h t => rw [hd] at ih; simp [pre] at ih ⊢; omega
theorem ayf : ∀ (s : L8), ∀ x ∈ eu s, x.length ≤ s.length
 | [], x, h => by simp [eu] at h; simp [h]
 | c :: r, x, h => by
  have ih := ayf r
  unfold eu at h
  split at h
  ·rw [List.mem_cons] at h
   rcases h with rfl | h
   ·simp
   ·have := ih x h; simp; omega
  ·cases hd : eu r with
   | nil => exact absurd hd (np r)
   | cons y t =>
    rw [hd] at h ih
    rw [pre, List.mem_cons] at h
    rcases h with rfl | h
    ·have := ih y (by simp); simp; omega
    ·have := ih x (by simp [h]); simp; omega
def dot : ByteArray := ⟨#[46]⟩
theorem a4k (s : ByteArray) (w : World) (hs : s.size < 4294967281) : Calls Tryz.prog 100 #[.string s, .string dot] w fun e w' =>
   e = .returned (.slice (some ⟨w.heap.size, 0, none⟩) (Lib.countB s dot + 1) (Lib.countB s dot + 1)) ∧ w' = w.alloc (.cells ((Lib.splitB dot 0 (Lib.countB s dot) s).map Value.string).toArray 9) := by
 have L := Tryz.bcj
 have h1 : 1 ≤ dot.size := by decide
 have hle := Lib.countB_le dot h1 s.size s (Nat.le_refl _)
 have hlen := Lib.splitB_all dot h1 0 _ s rfl
 have hi9 : (Tryz.prog.info? 9).map (fun i => (i.zero, i.size, i.bytes)) = some (some (.string ByteArray.empty), 1, 16) := by kernel_rfl
 have hI : ∀ (x : ByteArray) (c : Array Value), x.size ≤ s.size → Calls Tryz.prog (Tryz.pe.f 143) #[.string x, .string dot] (w.alloc (.cells c (Tryz.pe.t 9))) fun e w' => e = .returned (.int .i64 (Lib.indexB x dot)) ∧ w' = w.alloc (.cells c (Tryz.pe.t 9)) := fun x c hx => by
  refine (Any.strings_Index_one (ρ := Tryz.pe) { L with } x 46 _).mono fun e w' ⟨he, hw⟩ => ⟨?_, hw⟩
  rw [he]
  show _ = Ending.returned (Value.int .i64 (Lib.index x.data.toList [46]))
  rw [Lib.index_one]
 have hC : Calls Tryz.prog (Tryz.pe.f 138) #[.string s, .string dot] w fun e w' => e = .returned (.int .i64 (Lib.countB s dot)) ∧ w' = w := by
  refine (Any.strings_Count_one (ρ := Tryz.pe) { L with } s 46 w).mono fun e w' ⟨he, hw⟩ => ⟨?_, hw⟩
  rw [he]
  show _ = Ending.returned (Value.int .i64 ((Lib.count s.data.toList [46] : Nat) : Int))
  rw [Lib.count_one]
  rfl
 have c := Any.strings_genSplit_core (ρ := Tryz.pe) { L with } hi9 s dot 0 (-1) (Lib.countB s dot + 1) w hs h1 (Nat.zero_le _) hI hC (by decide) (by decide) (by rw [if_pos (by decide)]; omega)
 rw [Nat.add_sub_cancel, hlen] at c
 have e2 : Lib.cellsOf (Lib.splitB dot 0 (Lib.countB s dot) s) (Lib.countB s dot + 1) = ((Lib.splitB dot 0 (Lib.countB s dot) s).map Value.string).toArray := by rw [← hlen]; exact Lib.cellsOf_full _
 rw [e2] at c
 replace c := Lib.hid c
 clear hI hC
 go_enter Tryz.func100, Tryz.ntmps100
 go_wp2_with fail
 refine c.out.mono ?_
 rintro e w' ⟨rfl, hw⟩
 rw [hw]
 go_wp2_with fail
 go_ret
 exact ⟨rfl, rfl⟩
theorem a84 (s : ByteArray) : (Lib.splitB dot 0 (Lib.countB s dot) s).map (·.data.toList) = eu s.data.toList :=
 (Lib.splitB_data dot 0 (Lib.countB s dot) s).trans (am3 s.data.toList)
theorem bcl (w : World) (c : Cls) (L : List ByteArray) : Rep (w.alloc (.cells (L.map Value.string).toArray 9)) (fun b => if b < w.heap.size then c b else .frz) (.slice (some ⟨w.heap.size, 0, none⟩) L.length L.length) (.sl 1 (ar (L.map (·.data.toList)))) := by
 have hlen : (ar (L.map (·.data.toList))).length = L.length := by simp [ar]
 rw [← hlen]
 refine Rep.sl w.heap.size 0 _ 1 _ (fun i _ => (L.map Value.string).toArray.getD i undef) (Nat.le_refl _) (fun i cs hi => ?_) (fun i j hi hj => ?_) (fun i j hi hj => ?_) (fun i j cs a hi hj => ?_)
 ·rw [ar, List.getElem?_map, List.getElem?_map] at hi
  cases hx : L[i]? with
  | none => rw [hx] at hi; cases hi
  | some f => rw [hx] at hi; cases hi; rfl
 ·obtain rfl : j = 0 := by omega
  rw [cell_of (heap_alloc_new w _)]
  have : i < L.length := by rw [hlen] at hi; exact hi
  simp [Array.getD_eq_getD_getElem?, this]
 ·exact zu.2 fun h => absurd h (Nat.lt_irrefl _)
 ·rw [ar, List.getElem?_map, List.getElem?_map] at hi
  cases hx : L[i]? with
  | none => rw [hx] at hi; cases hi
  | some f =>
   rw [hx] at hi
   cases hi
   have hj0 : j = 0 := by have := (List.getElem?_eq_some_iff.1 hj).1; simp at this; exact this
   subst hj0
   cases hj
   have he : (L.map Value.string).toArray.getD i undef = .string f := by simp [Array.getD_eq_getD_getElem?, hx]
   rw [he]
   exact Rep.str f
def ah7 : List AV → Option AV
 | [.str s, .str sep] => if s.length ≤ 1073741824 ∧ sep = [46] then some (.sl 1 (ar (eu s))) else none
 | _ => none
theorem bcm (l : List AV) (r : AV) (h : ah7 l = some r) : PC Tryz.prog τ 100 l r := by
 unfold ah7 at h
 split at h
 ·rename_i s sep
  split at h
  ·rename_i hok
   cases h
   obtain ⟨h1, rfl⟩ := hok
   intro w c vs hG hsz ha
   obtain ⟨v, u, rfl, hv, hu⟩ := adn hsz ha
   have hS : Rep w c v (.str s) := by rcases hv with hv | hv <;> exact hv
   have hU : Rep w c u (.str [46]) := by rcases hu with hu | hu <;> exact hu
   obtain ⟨sb, rfl, rfl⟩ := lh hS
   have hsd : sb.size ≤ 1073741824 := by rw [Lib.size_eq]; exact h1
   have hu2 : u = .string dot := by rw [ah6 hU]; rfl
   subst hu2
   refine .inl ⟨by simp [callFunc, Tryz.func100, (show ¬ Tryz.f100.name = "runtime.NumGoroutine" by decide +kernel), (show Tryz.f100.body = some _ from rfl)], ?_⟩
   refine (a4k sb w (by omega)).mono fun e w' ⟨he, hw⟩ => ?_
   subst hw
   have hB : Below w.heap.size w (w.alloc (.cells ((Lib.splitB dot 0 (Lib.countB sb dot) sb).map Value.string).toArray 9)) := (Below.refl _ w).alloc (Nat.le_refl _) _
   refine ⟨_, he, _, Abs.ly c hB, ?_⟩
   have hl : (Lib.splitB dot 0 (Lib.countB sb dot) sb).length = Lib.countB sb dot + 1 := Lib.splitB_all dot (by decide) 0 _ sb rfl
   have hm := a84 sb
   generalize Lib.splitB dot 0 (Lib.countB sb dot) sb = L at hl hm hB ⊢
   rw [← hl, ← hm]
   exact bcl w c L
  ·cases h
 ·cases h
end Go.Proofs.YtmdimhcjogjcgaaGreatDoor.Qw
namespace Go.Proofs.YtmdimhcjogjcgaaGreatDoor.Qw
open Go.RowKit Go.Lib Go.Proofs.YtmdimhcjogjcgaaGreatDoor.Abs Go.Proofs.YtmdimhcjogjcgaaGreatDoor.Lat Go.Proofs.YtmdimhcjogjcgaaGreatDoor.Lat.Cp Go.Proofs.YtmdimhcjogjcgaaGreatDoor.Gr Go.Proofs.YtmdimhcjogjcgaaGreatDoor.Th
theorem bge : (Tryz.prog.info? 47).map (fun i => (i.zero, i.size, i.bytes)) = some (some (.agg #[.string ⟨#[]⟩, .slice none 0 0]), 2, 40) := by kernel_rfl
theorem a4l (w : World) (x y : Value) (t : TypeId) : ∀ (j : Nat) (u : Value), [x, y][j]? = some u → (w.alloc (.cells #[x, y] t)).cell? ((⟨w.heap.size, 0, none⟩ : Addr).add j) = some u := fun j u hu => by
 rw [pn, cell_of (heap_alloc_new w _), Nat.zero_add]
 simpa using hu
theorem a4m {w : World} {B : Nat} {t k n : Nat} {v : Value} {xs : List Value} (h : w.ownsRow B t k v n xs) : ∃ A cap, v = .slice A n cap := by
 obtain ⟨h1, ⟨rfl, h2⟩ | ⟨g, cap, cur, rfl, _⟩⟩ := h
 ·exact ⟨none, 0, by rw [h2]⟩
 ·exact ⟨_, _, rfl⟩
theorem bi4 {W W6 : World} {b : Nat} {v : Value} {x y : Value} {t u : TypeId} (hb : W.heap[b]? = some (.cells #[v] 39 (0, 0))) (hvb : v.ownBlock ≠ some b) (hg : ((W.alloc (.cells #[x, y] t)).alloc (.cells #[x, y] u)).grownBy W6 v.ownBlock) : W6.heap[b]? = some (.cells #[v] 39 (0, 0)) := by
 have hlt := fj hb
 rw [hg.block b (by simp; omega) (fun e => hvb e.symm), Below.heap_alloc _ _ _ (by simp; omega), Below.heap_alloc _ _ _ hlt, hb]
theorem uk.set {w : World} {B b : Nat} {c : Cls} {v : Value} {l : List Hit} (h : uk w B b c v l) (hv : v.ownBlock ≠ some b) (u : Value) : uk (w.setCell ⟨b, 0, none⟩ u) B b c v l := by
 obtain ⟨xs, h1, h2⟩ := h.ex
 refine ⟨xs, ownsRow_setCell_other h1 hv u, fun i t j a hi hj => ?_⟩
 obtain ⟨x, e, hr⟩ := h2 i t j a hi hj
 have hB : Below 0 w (w.setCell ⟨b, 0, none⟩ u) := (Below.refl 0 w).setCell (Nat.zero_le _) u
 exact ⟨x, e, aep hr hB.size hB.os hB.tape hB.output (fun q hq _ hqb => Below.heap_setCell w _ u q hqb) (.inl rfl)⟩
theorem a4n (w1 : World) (c : Cls) (b : Nat) (l : List Hit) (W : World) (hl : l.length ≤ 1073741824) (v : Value) (hb : W.heap[b]? = some (.cells #[v] 39 (0, 0))) (hrow : uk W w1.heap.size b c v l) (hvb : v.ownBlock ≠ some b) (bel : Below w1.heap.size w1 W) (ge : w1.heap.size ≤ b)
  (s : ByteArray) (A : Option Addr) (n cap : Nat) (ts : List Tm) (hR : Rep W (Hx w1.heap.size b c v) (.slice A n cap) (.sl 8 (al ts))) :
  Calls Tryz.prog 66 #[.agg #[.string s, .slice A n cap], .pointer (some ⟨b, 0, none⟩)] W fun e W' => e = .returned (.tuple #[]) ∧ HI w1 c b (l ++ [⟨s.data.toList, ts⟩]) W' ∧ ∀ q, q < W.heap.size → q ≠ b → v.ownBlock ≠ some q → W'.heap[q]? = W.heap[q]? := by
 obtain ⟨i0, hi, hz0, hz1, hz2⟩ := info_parts bge
 have hi' := Lib.hid (And.intro hi (And.intro hz0 (And.intro hz1 hz2)))
 obtain ⟨xs, hown, hxs⟩ := hrow.ex
 have hlt := fj hb
 have hxl := hown.1
 have hownA : ((W.alloc (.cells #[.string s, .slice A n cap] 47)).alloc (.cells #[.string s, .slice A n cap] 47)).ownsRow w1.heap.size 47 2 v l.length xs := (hown.alloc _).alloc _
 have b1' : l.length + 1 ≤ maxLen := by unfold maxLen; omega
 have b2' : (l.length + 1) * 40 ≤ 140737488355328 := by omega
 have b3' : w1.heap.size ≤ ((W.alloc (.cells #[.string s, .slice A n cap] 47)).alloc (.cells #[.string s, .slice A n cap] 47)).heap.size := by have := bel.size; simp; omega
 have hc : W.cell? ⟨b, 0, none⟩ = some v := by rw [cell_of hb]; rfl
 have hcl : ∀ (j : Nat) (u : Value), [Value.string s, .slice A n cap][j]? = some u → ((W.alloc (.cells #[.string s, .slice A n cap] 47)).alloc (.cells #[.string s, .slice A n cap] 47)).cell? ((⟨W.heap.size + 1, 0, none⟩ : Addr).add j) = some u := fun j u hu => by
  have := a4l (W.alloc (.cells #[.string s, .slice A n cap] 47)) (.string s) (.slice A n cap) 47 j u hu
  simpa using this
 replace hxs := Lib.hid hxs
 replace hR := Lib.hid hR
 replace hrow := Lib.hid hrow
 replace bel := Lib.hid bel
 clear hown hi hz0 hz1 hz2
 go_enter Tryz.func66, Tryz.ntmps66
 go_wp2_with (at_builtin; refine wpList_append_own_at _ rfl _ _ 39 rfl w1.heap.size 47 i0 _ 2 40 Tryz.underlying39 hi'.out.1 hi'.out.2.1 hi'.out.2.2.1 hi'.out.2.2.2 rfl (by decide) v l.length xs rfl hownA ⟨W.heap.size + 1, 0, none⟩ 1 1 [.string s, .slice A n cap] rfl rfl hcl (by simp [Value.oneCell']) b1' b2' b3' ?_; intro v' w6 hown' hgrow hnil hloc; obtain ⟨A', cap', rfl⟩ := a4m hown'; have hb6 := bi4 hb hvb hgrow; have hc6 : w6.cell? ⟨b, 0, none⟩ = some v := (by rw [cell_of hb6]; rfl); have hf6 : w6.frozen? ⟨b, 0, none⟩ = false := (by unfold World.frozen?; simp [hb6]); replace hb6 := Lib.hid hb6; replace hown' := Lib.hid hown'; replace hgrow := Lib.hid hgrow; replace hloc := Lib.hid hloc; clear hownA hcl hnil)
 refine bodyPost_end (results_none rfl _ _ _) rfl ?_
 refine ⟨rfl, ?_⟩
 have h2 : Below W.heap.size W ((W.alloc (.cells #[.string s, .slice A n cap] 47)).alloc (.cells #[.string s, .slice A n cap] 47)) := ((Below.refl _ W).alloc (Nat.le_refl _) _).alloc (by simp) _
 have hblk := avg hrow.out
 have om : ∀ {u a}, Rep W (Hx w1.heap.size b c v) u a → Rep ((W.alloc (.cells #[.string s, .slice A n cap] 47)).alloc (.cells #[.string s, .slice A n cap] 47)) (Hx w1.heap.size b c v) u a :=
  fun hr => aep hr h2.size h2.os h2.tape h2.output (fun q hq _ _ => h2.block q hq) (.inl rfl)
 have hne : (Value.slice A' (l.length + 1) cap').ownBlock ≠ some b := fun e => by
  rcases hloc.out with q | q
  ·exact hvb (q.symm.trans e)
  ·rw [q] at e
   have := Option.some.inj e
   simp at this; omega
 have hr6 : uk w6 w1.heap.size b c (.slice A' (l.length + 1) cap') (l ++ [⟨s.data.toList, ts⟩]) := by
  refine uk.snoc (xs := xs) (us := [.string s, .slice A n cap]) (fun i t j a hi hj => ?_) hxl (fun j a hj => ?_) hown'.out hgrow.out hloc.out
  ·obtain ⟨u, e, hr⟩ := hxs.out i t j a hi hj
   exact ⟨u, e, om hr⟩
  ·have hj2 := (List.getElem?_eq_some_iff.1 hj).1
   rcases (by simpa [abh] using hj2 : j < 2) |> fun h => (by omega : j = 0 ∨ j = 1) with rfl | rfl
   ·cases hj; exact ⟨_, rfl, Rep.str s⟩
   ·cases hj; exact ⟨_, rfl, om hR.out⟩
 refine ⟨⟨⟨_, one_setCell hb6.out, hr6.set hne _, hne⟩, ?_, ge⟩, fun q hq hqb hqv => ?_⟩
 case refine_2 =>
  rw [Below.heap_setCell _ _ _ q hqb, hgrow.out.block q (Nat.lt_of_lt_of_le hq h2.size) (fun e => hqv e.symm), h2.block q hq]
 have hb1 : Below w1.heap.size w1 ((W.alloc (.cells #[.string s, .slice A n cap] 47)).alloc (.cells #[.string s, .slice A n cap] 47)) := gl bel.out (Nat.le_refl _) h2
 exact (hb1.grown hgrow.out b3' (fun k hk => (hblk k hk).1)).setCell ge _
end Go.Proofs.YtmdimhcjogjcgaaGreatDoor.Qw
namespace Go.Proofs.YtmdimhcjogjcgaaGreatDoor.Lat
def a0g (p : Bs) (l : List Bs) (deep : Bool) (n : Bs) (v : List Tm) (a b : List Hit) : List Hit := match l with
 | [] => ⟨p ++ 46 :: n, v⟩ :: a
 | x :: l' => if x = [42] ∨ x = n then (if l' = [] then ⟨p ++ 46 :: n, v⟩ :: (if deep = true then a else []) else b) else []
mutual
def wkT (p : Bs) (l : List Bs) (deep : Bool) : Tm → List Hit
 | .mk _ _ _ _ _ _ _ fs => wkF p l deep fs
def wkF (p : Bs) (l : List Bs) (deep : Bool) : List Fd → List Hit
 | [] => []
 | .mk n v :: r => a0g p l deep n v (wkL (p ++ 46 :: n) [] true v) (wkL (p ++ 46 :: n) l.tail deep v) ++ wkF p l deep r
def wkL (p : Bs) (l : List Bs) (deep : Bool) : List Tm → List Hit
 | [] => []
 | t :: r => wkT p l deep t ++ wkL p l deep r
end
def wkV (p : Bs) (l : List Bs) (deep : Bool) (v : List Tm) : List Hit := if l = [] then ⟨p, v⟩ :: (if deep = true then wkL p [] true v else []) else wkL p l deep v
theorem bgf (p : Bs) (l : List Bs) (deep : Bool) (t : Tm) : wkT p l deep t = wkF p l deep t.fs := by cases t; rw [wkT]; rfl
theorem adq (p : Bs) (l : List Bs) (deep : Bool) (f : Fd) (r : List Fd) : wkF p l deep (f :: r) = (match l with
  | [] => wkV (p ++ 46 :: f.n) [] true f.v
  | x :: l' => if x = [42] ∨ x = f.n then wkV (p ++ 46 :: f.n) l' deep f.v else []) ++ wkF p l deep r := by
 cases f with
 | mk n v =>
  rw [wkF]
  cases l with
  | nil => rfl
  | cons x l' => rfl
theorem ak5 (p : Bs) (l : List Bs) (deep : Bool) (t : Tm) (r : List Tm) : wkL p l deep (t :: r) = wkF p l deep t.fs ++ wkL p l deep r := by rw [wkL, bgf]
theorem bcn (p : Bs) (l : List Bs) (deep : Bool) (a : List Tm) : ∀ b : List Tm, wkL p l deep (a ++ b) = wkL p l deep a ++ wkL p l deep b := by
 induction a with
 | nil => intro b; rw [wkL]; rfl
 | cons t r ih => intro b; rw [List.cons_append, ak5, ak5, ih, List.append_assoc]
theorem bco (p : Bs) (l : List Bs) (deep : Bool) (a : List Fd) : ∀ b : List Fd, wkF p l deep (a ++ b) = wkF p l deep a ++ wkF p l deep b := by
 induction a with
 | nil => intro b; rw [wkF]; rfl
 | cons t r ih => intro b; rw [List.cons_append, adq, adq, ih, List.append_assoc]
mutual
theorem bcp (p : Bs) (l : List Bs) (deep : Bool) : ∀ t : Tm, (wkT p l deep t).length ≤ szT t
 | .mk _ _ _ _ _ _ _ fs => by rw [wkT, szT]; have := ajh p l deep fs; omega
theorem ajh (p : Bs) (l : List Bs) (deep : Bool) : ∀ fs : List Fd, (wkF p l deep fs).length ≤ szF fs
 | [] => by rw [wkF]; exact Nat.zero_le _
 | .mk n v :: r => by
  have h1 := ajh p l deep r
  have h2 := fun (q : Bs) (m : List Bs) (d : Bool) => acg q m d v
  have h3 := h2 (p ++ 46 :: n) [] true
  rw [wkF, szF, List.length_append]
  unfold a0g
  cases l with
  | nil => simp only [List.length_cons]; omega
  | cons x l' =>
   have h4 := h2 (p ++ 46 :: n) l' deep
   dsimp only [List.tail_cons]
   split
   ·split
    ·split
     ·simp only [List.length_cons]; omega
     ·simp; omega
    ·omega
   ·simp; omega
theorem acg (p : Bs) (l : List Bs) (deep : Bool) : ∀ v : List Tm, (wkL p l deep v).length ≤ szV v
 | [] => by rw [wkL]; exact Nat.zero_le _
 | t :: r => by
  have h1 := bcp p l deep t
  have h2 := acg p l deep r
  rw [wkL, szV, List.length_append]; omega
end
theorem bcq (p : Bs) (l : List Bs) (deep : Bool) (v : List Tm) : (wkV p l deep v).length ≤ szV v + 1 := by
 have h1 := acg p [] true v
 have h2 := acg p l deep v
 unfold wkV
 split
 ·split
  ·simp only [List.length_cons]; omega
  ·simp
 ·omega
mutual
def nmT : Tm → Bool
 | .mk _ _ _ _ _ _ _ fs => nmF fs
def nmF : List Fd → Bool
 | [] => true
 | .mk n v :: r => decide (n.length ≤ 16) && nmL v && nmF r
def nmL : List Tm → Bool
 | [] => true
 | t :: r => nmT t && nmL r
end
theorem aoq : ∀ {v : List Tm} {t : Tm}, nmL v = true → t ∈ v → nmF t.fs = true
 | t :: r, u, h, hm => by
  rw [nmL, Bool.and_eq_true] at h
  rcases List.mem_cons.1 hm with rfl | hm
  ·cases u; have := h.1; rw [nmT] at this; exact this
  ·exact aoq h.2 hm
theorem aor : ∀ {fs : List Fd} {f : Fd}, nmF fs = true → f ∈ fs → f.n.length ≤ 16 ∧ nmL f.v = true
 | .mk n v :: r, f, h, hm => by
  rw [nmF, Bool.and_eq_true, Bool.and_eq_true] at h
  rcases List.mem_cons.1 hm with rfl | hm
  ·exact ⟨of_decide_eq_true h.1.1, h.1.2⟩
  ·exact aor h.2 hm
end Go.Proofs.YtmdimhcjogjcgaaGreatDoor.Lat
namespace Go.Proofs.YtmdimhcjogjcgaaGreatDoor.Qw
open Go.RowKit Go.Lib Go.Proofs.YtmdimhcjogjcgaaGreatDoor.Abs Go.Proofs.YtmdimhcjogjcgaaGreatDoor.Lat Go.Proofs.YtmdimhcjogjcgaaGreatDoor.Lat.Cp Go.Proofs.YtmdimhcjogjcgaaGreatDoor.Gr Go.Proofs.YtmdimhcjogjcgaaGreatDoor.Th
structure AtT (w : World) (c : Cls) (A : Option Addr) (i : Nat) (t : Tm) : Prop where
 ex : ∃ g o s b1 n1 c1, A = some ⟨g, o, none⟩ ∧ w.cell? ⟨g, o + i * 8, none⟩ = some (.int .i64 t.k) ∧ w.cell? ⟨g, o + i * 8 + 1, none⟩ = some (.int .i64 t.lo) ∧ w.cell? ⟨g, o + i * 8 + 2, none⟩ = some (.int .i64 t.hi) ∧
  w.cell? ⟨g, o + i * 8 + 3, none⟩ = some (.string s) ∧ w.cell? ⟨g, o + i * 8 + 4, none⟩ = some (.bool t.a) ∧ w.cell? ⟨g, o + i * 8 + 5, none⟩ = some (.bool t.m) ∧ w.cell? ⟨g, o + i * 8 + 6, none⟩ = some (.bool t.o) ∧
  w.cell? ⟨g, o + i * 8 + 7, none⟩ = some (.slice b1 n1 c1) ∧ Rep w c (.slice b1 n1 c1) (.sl 2 (cq t.fs))
theorem ak6 {w : World} {c : Cls} {v : Value} {l : List Tm} (h : Rep w c v (.sl 8 (al l))) : ∃ A cap, v = .slice A l.length cap ∧ ∀ i t, l[i]? = some t → AtT w c A i t := by
 obtain ⟨A, cap, rfl, _, _, hm⟩ := lr h
 have hL : (al l).length = l.length := by rw [nw, List.length_map]
 rw [hL] at hm ⊢
 refine ⟨A, cap, rfl, fun i t hi => ?_⟩
 have hl := (List.getElem?_eq_some_iff.1 hi).1
 obtain ⟨g, o, rfl, _, f, hc, _, hr⟩ := hm (by omega)
 have et : (al l)[i]? = some (ao t) := gm hi
 obtain ⟨k, lo, hh, s, a, m, q, fs⟩ := t
 have e0 := iu (hr i 0 _ _ et rfl)
 have e1 := iu (hr i 1 _ _ et rfl)
 have e2 := iu (hr i 2 _ _ et rfl)
 obtain ⟨sb, e3, _⟩ := lh (hr i 3 _ _ et rfl)
 have e4 := j8 (hr i 4 _ _ et rfl)
 have e5 := j8 (hr i 5 _ _ et rfl)
 have e6 := j8 (hr i 6 _ _ et rfl)
 obtain ⟨A7, cap7, r7, _⟩ := lr (hr i 7 _ _ et rfl)
 have h7 := hr i 7 _ _ et rfl
 rw [r7] at h7
 have c0 := hc i 0 hl (by omega)
 have c1 := hc i 1 hl (by omega)
 have c2 := hc i 2 hl (by omega)
 have c3 := hc i 3 hl (by omega)
 have c4 := hc i 4 hl (by omega)
 have c5 := hc i 5 hl (by omega)
 have c6 := hc i 6 hl (by omega)
 have c7 := hc i 7 hl (by omega)
 rw [e0] at c0
 rw [e1] at c1
 rw [e2] at c2
 rw [e3] at c3
 rw [e4] at c4
 rw [e5] at c5
 rw [e6] at c6
 rw [r7] at c7
 exact ⟨g, o, sb, A7, _, cap7, rfl, c0, c1, c2, c3, c4, c5, c6, c7, h7⟩
structure AtF (w : World) (c : Cls) (A : Option Addr) (i : Nat) (f : Lat.Fd) : Prop where
 ex : ∃ g o s b1 n1 c1, A = some ⟨g, o, none⟩ ∧ s.data.toList = f.n ∧ w.cell? ⟨g, o + i * 2, none⟩ = some (.string s) ∧ w.cell? ⟨g, o + i * 2 + 1, none⟩ = some (.slice b1 n1 c1) ∧ Rep w c (.slice b1 n1 c1) (.sl 8 (al f.v))
theorem aeq {w : World} {c : Cls} {v : Value} {l : List Lat.Fd} (h : Rep w c v (.sl 2 (cq l))) : ∃ A cap, v = .slice A l.length cap ∧ ∀ i t, l[i]? = some t → AtF w c A i t := by
 obtain ⟨A, cap, rfl, _, _, hm⟩ := lr h
 have hL : (cq l).length = l.length := by rw [nx, List.length_map]
 rw [hL] at hm ⊢
 refine ⟨A, cap, rfl, fun i t hi => ?_⟩
 have hl := (List.getElem?_eq_some_iff.1 hi).1
 obtain ⟨g, o, rfl, _, f, hc, _, hr⟩ := hm (by omega)
 have et : (cq l)[i]? = some (kg t) := dx hi
 obtain ⟨n, v⟩ := t
 obtain ⟨sb, e0, e1⟩ := lh (hr i 0 _ _ et rfl)
 obtain ⟨A7, cap7, r7, _⟩ := lr (hr i 1 _ _ et rfl)
 have h7 := hr i 1 _ _ et rfl
 rw [r7] at h7
 have c0 := hc i 0 hl (by omega)
 have c1 := hc i 1 hl (by omega)
 rw [e0] at c0
 rw [r7] at c1
 exact ⟨g, o, sb, A7, _, cap7, rfl, e1, c0, c1, h7⟩
theorem am4 {w : World} {c : Cls} {v : Value} {x : Bs} {r : List Bs} (h : Rep w c v (.sl 1 (ar (x :: r)))) : ∃ g o s cap, v = .slice (some ⟨g, o, none⟩) (r.length + 1) cap ∧ r.length + 1 ≤ cap ∧ s.data.toList = x ∧ w.cell? ⟨g, o, none⟩ = some (.string s) ∧ Rep w c (.slice (some ⟨g, o + 1, none⟩) r.length (cap - 1)) (.sl 1 (ar r)) := by
 obtain ⟨A, cap, rfl, hcap, _, hm⟩ := lr h
 rw [br, List.length_cons] at hcap hm ⊢
 obtain ⟨g, o, rfl, _, f, hc, hst, hr⟩ := hm (by omega)
 have ex : (ar (x :: r))[0]? = some [AV.str x] := gn rfl
 obtain ⟨s, e0, e1⟩ := lh (hr 0 0 _ _ ex rfl)
 have c0 := hc 0 0 (by omega) (by omega)
 rw [e0] at c0
 refine ⟨g, o, s, cap, rfl, hcap, e1, by simpa using c0, ?_⟩
 have hlen := br r
 rw [← hlen]
 refine Rep.sl g (o + 1) (cap - 1) 1 _ (fun i j => f (i + 1) j) (by rw [hlen]; omega) (fun i cs hi => ?_) (fun i j hi hj => ?_) (fun i j hi hj => ?_) (fun i j cs a hi hj => ?_)
 ·rw [ar, List.getElem?_map] at hi
  cases hx : r[i]? with
  | none => rw [hx] at hi; cases hi
  | some q => rw [hx] at hi; cases hi; rfl
 ·have := hc (i + 1) j (by omega) hj
  rw [show o + 1 + (i * 1 + j) = o + ((i + 1) * 1 + j) by omega]; exact this
 ·have := hst (i + 1) j (by omega) hj
  rw [show o + 1 + (i * 1 + j) = o + ((i + 1) * 1 + j) by omega]; exact this
 ·refine hr (i + 1) j cs a ?_ hj
  rw [ar, List.getElem?_map] at hi ⊢
  exact hi
end Go.Proofs.YtmdimhcjogjcgaaGreatDoor.Qw
