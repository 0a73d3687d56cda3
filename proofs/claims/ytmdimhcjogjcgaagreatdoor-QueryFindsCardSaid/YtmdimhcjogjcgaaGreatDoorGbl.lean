/- The walk of query.Find. -/
import Derived.Test.YtmdimhcjogjcgaaGreatDoorGbk
import Derived.Test.YtmdimhcjogjcgaaGreatDoorGbj
set_option linter.all false
set_option maxRecDepth 100000
set_option maxHeartbeats 8000000
noncomputable section
namespace Go.Proofs.YtmdimhcjogjcgaaGreatDoor.Qw
open Go.RowKit Go.Lib Go.Proofs.YtmdimhcjogjcgaaGreatDoor.Abs Go.Proofs.YtmdimhcjogjcgaaGreatDoor.Lat Go.Proofs.YtmdimhcjogjcgaaGreatDoor.Lat.Cp Go.Proofs.YtmdimhcjogjcgaaGreatDoor.Gr Go.Proofs.YtmdimhcjogjcgaaGreatDoor.Th
theorem a9h (w : World) (c : Cls) (v : Value) (ts : List Th) (sb : ByteArray) (hR : Rep w c v (.sl 3 (cy ts))) (hG : GOK τ w c) (hl : ts.length ≤ 256) (hs : ∀ t ∈ ts, adh t) :
  Calls Tryz.prog 19 #[v, .string sb] w fun e w' => ∃ x c', e = .returned (.tuple #[x, .int .i64 (fdV ts sb.data.toList).2]) ∧ Ext w.heap.size w c w' c' ∧ Rep w' c' x (.sl 2 (mj (fdV ts sb.data.toList).1)) := by
 have C64 := Lib.hid (awk w c sb hG)
 have C33 := Lib.hid fun (w' : World) (c' : Cls) (hE : Ext w.heap.size w c w' c') => awl w' c' v ts hl hs (hR.ext hE) (hG.ext hE)
 have hgoal : fdV ts sb.data.toList = (if jf sb.data.toList = true then (if p9 ts = true then (fds (iw (Qw.eu sb.data.toList)).1 (iw (Qw.eu sb.data.toList)).2 ts, 0) else ([], 1)) else ([], 2)) := rfl
 have hne := ayh (s := sb.data.toList)
 rw [hgoal]
 clear hgoal
 generalize jf sb.data.toList = po at C64 ⊢
 generalize (iw (Qw.eu sb.data.toList)).2 = deep at C64 ⊢
 generalize (iw (Qw.eu sb.data.toList)).1 = l at C64 hne ⊢
 have hth : p9 ts = true → _ := ag1 (ts := ts)
 generalize p9 ts = rb at C33 hth ⊢
 replace hR := Lib.hid hR
 obtain ⟨x0, r, rfl⟩ : ∃ x0 r, l = x0 :: r := by
  cases l with
  | nil => exact absurd rfl hne
  | cons a b => exact ⟨a, b, rfl⟩
 clear hne hG
 go_enter Tryz.func19, Tryz.ntmps19
 go_wp2_with fail
 refine C64.out.mono ?_
 rintro e w2 ⟨x, c2, hE2, h1, h2⟩
 clear C64
 cases po with
 | false =>
  obtain ⟨y, rfl⟩ := h2 rfl
  clear h1 h2
  go_wp2_with fail
  refine bodyPost_ret (results_tmp2 rfl _ _ _) rfl ?_
  exact ⟨_, rfl, c2, hE2, .nil _⟩
 | true =>
  obtain ⟨rfl, hx⟩ := h1 rfl
  clear h1 h2
  replace hx := Lib.hid hx
  go_wp2_with fail
  refine (C33.out w2 c2 hE2).mono ?_
  rintro e w3 ⟨c3, hE3, rfl⟩
  clear C33
  cases rb with
  | false =>
   go_wp2_with fail
   refine bodyPost_ret (results_tmp2 rfl _ _ _) rfl ?_
   exact ⟨_, rfl, c3, hE2.trans (hE3.mono hE2.size), .nil _⟩
  | true =>
   have hth2 := hth rfl
   obtain ⟨A, cap, rfl, hA⟩ := bgm ((hR.out.ext hE2).ext hE3)
   obtain ⟨g2, o2, s2, cap2, rfl, hcap2, hs2, hl0, hLr⟩ := am4 (hx.out.ext hE3)
   have hE := Lib.hid (hE2.trans (hE3.mono hE2.size))
   replace hA := Lib.hid hA
   replace hl0 := Lib.hid hl0
   replace hLr := Lib.hid hLr
   replace hth2 := Lib.hid hth2
   clear hE2 hE3 hR hx hth
   have hI0 := Lib.hid (show HI w3 c3 w3.heap.size [] (w3.alloc (.cells #[.slice none 0 0] 39)) from ⟨⟨_, heap_alloc_new w3 _, uk.nil _ _ _ _, by simp [Value.ownBlock]⟩, (Below.refl _ w3).alloc (Nat.le_refl _) _, Nat.le_refl _⟩)
   go_wp2_with fail
   go_loopg [27] ts.length (fun gk v27 W => ∃ i : Nat, i + gk = ts.length ∧ v27 = .int .i64 i ∧ Gr.Ax (HI w3 c3 w3.heap.size (fds (x0 :: r) deep (ts.take i)) W))
   case atStart => exact ⟨0, by omega, rfl, ⟨by rw [List.take_zero]; exact hI0.out⟩⟩
   case round =>
    clear hI0
    obtain ⟨i, hig, rfl, HM⟩ := hrel
    by_cases hil : i < ts.length
    ·obtain ⟨m1, rfl⟩ : ∃ j, gk = j + 1 := ⟨gk - 1, by omega⟩
     obtain ⟨t, ht⟩ : ∃ t, ts[i]? = some t := ⟨ts[i], List.getElem?_eq_getElem hil⟩
     obtain ⟨g3, o3, s3, b3, n3, c3', b4, n4, c4, rfl, hs3, u0, u1, u2, hV3⟩ := (hA.out i t ht).ex
     have u0 := cg HM.out.bel u0
     have u1 := cg HM.out.bel u1
     have u2 := cg HM.out.bel u2
     have l0 := cg HM.out.bel hl0.out
     obtain ⟨hz, hnm, hn16⟩ := hth2.out t (List.mem_of_getElem? ht)
     have hs3z : s3.size = t.n.length := by rw [Lib.size_eq, hs3]
     have hlen := ayi (l := x0 :: r) (deep := deep) (ts := ts.take i) fun t ht => (hth2.out t (List.mem_of_mem_take ht)).1
     rw [List.length_take] at hlen
     go_wp2_with fail
     have l1 : (wr.alloc (.cells #[.string s3, .slice b3 n3 c3', .slice b4 n4 c4] 70)).cell? ⟨g2, o2, none⟩ = some (.string s2) := by
      rw [World.cell?_alloc_old _ _ _ (Nat.ne_of_lt (wc l0))]; exact l0
     have l2 : (wr.alloc (.cells #[.string s3, .slice b3 n3 c3', .slice b4 n4 c4] 70)).cell? ⟨wr.heap.size, 0, none⟩ = some (.string s3) := by
      rw [cell_of (heap_alloc_new wr _)]; rfl
     have hinj : ∀ {u v : ByteArray}, u.toList = v.toList → u = v := fun {u v} h => by
      rw [Lib.toList_data, Lib.toList_data] at h
      cases u with | mk u => cases v with | mk v => exact congrArg ByteArray.mk (Array.ext' h)
     have ix1 : (1 : Int) ≤ (r.length : Int) + 1 := by omega
     obtain ⟨Ab, hAb⟩ : ∃ Ab : Option Addr, Ab = if cap2 = 1 then some ⟨g2, o2, none⟩ else some ⟨g2, o2 + 1, none⟩ := ⟨_, rfl⟩
     have hTl : Rep w3 c3 (.slice Ab r.length (cap2 - 1)) (.sl 1 (ar r)) := by rw [hAb]; exact avi hcap2 hLr.out
     have hrec := Lib.hid fun (w5 : World) (hB5 : Below wr.heap.size wr w5) => a9b w3 c3 w3.heap.size (szV t.v) (by omega) t.v r deep s3 _ w5.drew (.slice b3 n3 c3') _ (Nat.le_refl _) hnm (by omega) (by omega) hV3 hTl ((HM.out.below hB5).below ((Below.refl _ w5).drew))
     by_cases e1 : s2 = ⟨#[42]⟩
     ·have d1 : (s2.toList == (⟨#[42]⟩ : ByteArray).toList) = true := by rw [e1]; exact beq_self_eq_true _
      go_quiet (fail)
      go_wp2
      have hB5 : Below wr.heap.size wr ((wr.alloc (.cells #[.string s3, .slice b3 n3 c3', .slice b4 n4 c4] 70)).drewN nq) := ⟨rfl, rfl, rfl, ((Below.refl _ wr).alloc (Nat.le_refl _) (.cells #[.string s3, .slice b3 n3 c3', .slice b4 n4 c4] 70)).size, ((Below.refl _ wr).alloc (Nat.le_refl _) (.cells #[.string s3, .slice b3 n3 c3', .slice b4 n4 c4] 70)).block⟩
      have z0 : ((wr.alloc (.cells #[.string s3, .slice b3 n3 c3', .slice b4 n4 c4] 70)).drewN nq).cell? ⟨wr.heap.size, 0, none⟩ = some (.string s3) := by
       show (wr.alloc _).cell? _ = _
       rw [cell_of (heap_alloc_new wr _)]; rfl
      have z1 : ((wr.alloc (.cells #[.string s3, .slice b3 n3 c3', .slice b4 n4 c4] 70)).drewN nq).cell? ⟨wr.heap.size, 1, none⟩ = some (.slice b3 n3 c3') := by
       show (wr.alloc _).cell? _ = _
       rw [cell_of (heap_alloc_new wr _)]; rfl
      generalize ((wr.alloc (.cells #[.string s3, .slice b3 n3 c3', .slice b4 n4 c4] 70)).drewN nq) = w5 at hB5 z0 z1 ⊢
      go_still_tail 8, (by kernel_rfl)
      rw [← hAb]
      clear hAb
      change wpList _ _ _ _ _ w5.drew
      go_wp2_with fail
      refine (hrec.out w5 hB5).mono ?_
      rintro e w6 ⟨rfl, h6⟩
      have hnx := Lib.hid (show HI w3 c3 w3.heap.size (fds (x0 :: r) deep (ts.take (i + 1))) w6 from by
       rw [ak9 ht, show fd1 (x0 :: r) deep t = wkV t.n r deep t.v from if_pos (.inl (by rw [← hs2, e1])), ← hs3]; exact h6)
      clear h6
      go_wp2_with fail
      go_roundg m1
      case measure => omega
      case rel => exact ⟨i + 1, by omega, by go_num, ⟨hnx.out⟩⟩
     ·have d1 : (s2.toList == [42]) = false := beq_eq_false_iff_ne.2 fun h => e1 (hinj (h.trans (by rw [Lib.toList_data])))
      by_cases e2 : s2 = s3
      ·have d2 : (s2.toList == s3.toList) = true := by rw [e2]; exact beq_self_eq_true _
       have d3 : (s3.toList == [42]) = false := by rw [← e2]; exact d1
       go_quiet (fail)
       go_wp2
       have hB5 : Below wr.heap.size wr ((wr.alloc (.cells #[.string s3, .slice b3 n3 c3', .slice b4 n4 c4] 70)).drewN nq) := ⟨rfl, rfl, rfl, ((Below.refl _ wr).alloc (Nat.le_refl _) (.cells #[.string s3, .slice b3 n3 c3', .slice b4 n4 c4] 70)).size, ((Below.refl _ wr).alloc (Nat.le_refl _) (.cells #[.string s3, .slice b3 n3 c3', .slice b4 n4 c4] 70)).block⟩
       have z0 : ((wr.alloc (.cells #[.string s3, .slice b3 n3 c3', .slice b4 n4 c4] 70)).drewN nq).cell? ⟨wr.heap.size, 0, none⟩ = some (.string s3) := by
        show (wr.alloc _).cell? _ = _
        rw [cell_of (heap_alloc_new wr _)]; rfl
       have z1 : ((wr.alloc (.cells #[.string s3, .slice b3 n3 c3', .slice b4 n4 c4] 70)).drewN nq).cell? ⟨wr.heap.size, 1, none⟩ = some (.slice b3 n3 c3') := by
        show (wr.alloc _).cell? _ = _
        rw [cell_of (heap_alloc_new wr _)]; rfl
       generalize ((wr.alloc (.cells #[.string s3, .slice b3 n3 c3', .slice b4 n4 c4] 70)).drewN nq) = w5 at hB5 z0 z1 ⊢
       go_still_tail 8, (by kernel_rfl)
       rw [← hAb]
       clear hAb
       change wpList _ _ _ _ _ w5.drew
       go_wp2_with fail
       refine (hrec.out w5 hB5).mono ?_
       rintro e w6 ⟨rfl, h6⟩
       have hnx := Lib.hid (show HI w3 c3 w3.heap.size (fds (x0 :: r) deep (ts.take (i + 1))) w6 from by
        rw [ak9 ht, show fd1 (x0 :: r) deep t = wkV t.n r deep t.v from if_pos (.inr (by rw [← hs2, ← hs3, e2])), ← hs3]; exact h6)
       clear h6
       go_wp2_with fail
       go_roundg m1
       case measure => omega
       case rel => exact ⟨i + 1, by omega, by go_num, ⟨hnx.out⟩⟩
      ·have d2 : (s2.toList == s3.toList) = false := beq_eq_false_iff_ne.2 fun h => e2 (hinj h)
       go_quiet (fail)
       go_wp2
       have hno : ¬ (x0 = [42] ∨ x0 = t.n) := by
        rintro (h | h)
        ·exact e1 (hinj (by rw [Lib.toList_data, Lib.toList_data, hs2, h]))
        ·exact e2 (hinj (by rw [Lib.toList_data, Lib.toList_data, hs2, hs3, h]))
       have hnx := Lib.hid (show HI w3 c3 w3.heap.size (fds (x0 :: r) deep (ts.take (i + 1))) ((wr.alloc (.cells #[.string s3, .slice b3 n3 c3', .slice b4 n4 c4] 70)).drewN nq) from by
        rw [ak9 ht, show fd1 (x0 :: r) deep t = [] from if_neg hno, List.append_nil]
        exact HM.out.below ⟨rfl, rfl, rfl, ((Below.refl _ wr).alloc (Nat.le_refl _) (.cells #[.string s3, .slice b3 n3 c3', .slice b4 n4 c4] 70)).size, ((Below.refl _ wr).alloc (Nat.le_refl _) (.cells #[.string s3, .slice b3 n3 c3', .slice b4 n4 c4] 70)).block⟩)
       go_roundg m1
       case measure => omega
       case rel => exact ⟨i + 1, by omega, by go_num, ⟨hnx.out⟩⟩
    ·obtain rfl : gk = 0 := by omega
     obtain rfl : i = ts.length := by omega
     have hI := HM.out
     rw [List.take_of_length_le (Nat.le_refl _)] at hI
     clear HM
     obtain ⟨v9, hv9, hrow, hne9⟩ := hI.ex
     have hz9 : wr.cell? ⟨w3.heap.size, 0, none⟩ = some v9 := by rw [cell_of hv9]; rfl
     have hrep := Lib.hid hrow.rep
     have hbel := Lib.hid hI.bel
     clear hI hrow hv9
     go_wp2_with fail
     refine bodyPost_ret (results_tmp2 rfl _ _ _) rfl ?_
     exact ⟨_, rfl, _, hE.out.trans ((Abs.ly c3 hbel.out).mono hE.out.size), hrep.out⟩
end Go.Proofs.YtmdimhcjogjcgaaGreatDoor.Qw
namespace Go.Proofs.YtmdimhcjogjcgaaGreatDoor.Xp
open Go.Proofs.YtmdimhcjogjcgaaGreatDoor.Abs Go.Proofs.YtmdimhcjogjcgaaGreatDoor.Lat Go.Proofs.YtmdimhcjogjcgaaGreatDoor.Gr
def um (h : Hit) : Bs × Int := if (vaX h.v).2 = 0 then (h.p ++ 58 :: 32 :: ((vaX h.v).1 ++ [10]), 0) else ([], (vaX h.v).2)
theorem a9i {h : Hit} (hp : h.p.length ≤ 1000000) : (um h).1.length ≤ 11240010 := by
 have := aok h.v
 unfold um
 split
 ·simp only [List.length_append, List.length_cons, List.length_nil]; omega
 ·simp
def txH (l : List Hit) : Bs × Int := lnX um l
structure ajj (l : List Hit) : Prop where
 ln : l.length ≤ 1048576
 ok : ∀ x ∈ l, x.p.length ≤ 1000000 ∧ szV x.v ≤ 1073741824
end Go.Proofs.YtmdimhcjogjcgaaGreatDoor.Xp
namespace Go.Proofs.YtmdimhcjogjcgaaGreatDoor.Qw
open Go.RowKit Go.Lib Go.Proofs.YtmdimhcjogjcgaaGreatDoor.Abs Go.Proofs.YtmdimhcjogjcgaaGreatDoor.Lat Go.Proofs.YtmdimhcjogjcgaaGreatDoor.Lat.Cp Go.Proofs.YtmdimhcjogjcgaaGreatDoor.Gr Go.Proofs.YtmdimhcjogjcgaaGreatDoor.Th
open Go.Proofs.YtmdimhcjogjcgaaGreatDoor.Xp (um txH ajj vaX lnX xy)
theorem a5b {T e B b : Nat} {bs : List Value} {w w' : World} (h : Lib.IsBuilder T e B b bs w) (hB : Below w.heap.size w w') : Lib.IsBuilder T e B b bs w' := by
 have k : ∀ {p}, Lib.BuilderAt T e B b p bs w → Lib.BuilderAt T e B b p bs w' := fun h => by
  obtain ⟨h1, v, h2, h3, h4⟩ := h
  exact ⟨h1, v, (hB.block b (fj h2)).trans h2, bgh h3 hB, h4⟩
 exact h.imp k k
theorem bc0 (l : List Hit) : mj l = cq (l.map fun h => Lat.Fd.mk h.p h.v) := by
 rw [nx, mj, List.map_map]
 exact List.map_congr_left fun h _ => by show abh h = kg _; rw [kg]; rfl
structure TI (w : World) (l : List Hit) (i : Nat) (W : World) : Prop where
 ex : ∃ acc : Bs, xy [] (txH l) = xy acc (lnX um (l.drop i)) ∧ acc.length ≤ 11240010 * i ∧ Lib.IsBuilder 125 5 w.heap.size w.heap.size (Lib.byteCells acc) W
 bel : Below w.heap.size w W
theorem awm (w : World) (c : Cls) (v : Value) (t : List Tm) (hz : szV t ≤ 1073741824) (hR : Rep w c v (.sl 8 (al t))) (hG : GOK τ w c) : Calls Tryz.prog 68 #[.agg #[v]] w fun e w' => Below w.heap.size w w' ∧ e = .returned (.tuple #[.string ⟨(vaX t).1.toArray⟩, .int .i64 (vaX t).2]) := by
 refine (St.xf am7 (show ah Z 68 _ = _ from Xp.a4x t hz) (vs := #[.agg #[v]]) (c := c) Tryz.func68 rfl (by decide +kernel) hG rfl (fun i x a hx ha => ?_)).mono fun e w' ⟨y, c', he, hx, hr⟩ => ?_
 ·rcases i with _ | i
  ·simp at hx ha; subst hx; subst ha
   refine .inl ⟨#[v], rfl, rfl, rfl, fun j a u ha hu => ?_⟩
   rcases j with _ | j
   ·simp at ha hu; subst ha; subst hu; exact hR
   ·simp at ha
  ·simp at hx
 ·obtain ⟨vs, rfl, hsz, h⟩ := hr
  obtain ⟨vs⟩ := vs
  match vs, hsz with
  | [x, y], _ =>
   have h0 := ah6 (show Rep w' c' x (.str _) from h 0 _ x rfl rfl)
   have h1 := iu (show Rep w' c' y (.int .i64 _) from h 1 _ y rfl rfl)
   subst h0; subst h1
   exact ⟨St.ah5 hx, he⟩
theorem awn (w : World) (B b : Nat) (acc : Bs) (s : ByteArray) (h : Lib.IsBuilder 125 5 B b (Lib.byteCells acc) w) (hlen : acc.length + s.size ≤ 140737488355328) (hB : B ≤ w.heap.size) :
  Calls Tryz.prog 74 #[.pointer (some ⟨b, 0, none⟩), .string s] w fun e w' => e = .returned (.tuple #[.int .i64 s.size, .nilIface]) ∧ Lib.IsBuilder 125 5 B b (Lib.byteCells (acc ++ s.data.toList)) w' ∧ Below B w w' := by
 have L := Tryz.aje
 refine (Any.Builder_WriteString (ρ := Tryz.aap) { L with } Tryz.rm B b (Lib.byteCells acc) s w h (by rw [Lib.byteCells_length]; exact hlen) hB).mono fun e w' ⟨he, h1, h2⟩ => ⟨he, .inr ?_, h2⟩
 rw [Lib.byteCells_append, ← Lib.strCells_eq]; exact h1
theorem avp (w : World) (B b : Nat) (acc : Bs) (h : Lib.IsBuilder 125 5 B b (Lib.byteCells acc) w) (hB : B ≤ w.heap.size) :
  Calls Tryz.prog 75 #[.pointer (some ⟨b, 0, none⟩)] w fun e w' => e = .returned (.string ⟨acc.toArray⟩) ∧ Below B w w' := by
 have L := Tryz.aje
 exact Any.Builder_String_any (ρ := Tryz.aap) { L with } Tryz.rm B b acc w h hB
theorem akc (w : World) (c : Cls) (v : Value) (l : List Hit) (hl : ajj l) (hR : Rep w c v (.sl 2 (mj l))) (hG : GOK τ w c) :
  Calls Tryz.prog 31 #[v] w fun e w' => e = .returned (.tuple #[.string ⟨(txH l).1.toArray⟩, .int .i64 (txH l).2]) ∧ Below w.heap.size w w' := by
 have hll := hl.ln
 have hh := Lib.hid hl.ok
 have hx0 : xy [] (txH l) = txH l := Xp.auq _ (Xp.ax7 um l)
 rw [bc0] at hR
 obtain ⟨A, cap, rfl, hA⟩ := aeq hR
 rw [List.length_map] at hR ⊢
 have hI0 := Lib.hid (show TI w l 0 (w.alloc (.cells #[.pointer none, .slice none 0 0] 125)) from ⟨⟨[], by rw [List.drop_zero]; rfl, Nat.zero_le _, Lib.fresh_isBuilder 125 5 w⟩, (Below.refl _ w).alloc (Nat.le_refl _) _⟩)
 have hV := Lib.hid fun (h : Hit) (hm : h ∈ l) (u : Value) (W : World) (hB : Below w.heap.size w W) (hr : Rep w c u (.sl 8 (al h.v))) => awm W _ u h.v (hl.ok h hm).2 (hr.ext (Abs.ly c hB)) (hG.ext (Abs.ly c hB))
 replace hA := Lib.hid hA
 replace hx0 := Lib.hid hx0
 clear hR hG hl
 go_enter Tryz.func31, Tryz.ntmps31
 go_wp2_with fail
 go_loopg [11] l.length (fun gk v11 W => ∃ i : Nat, i + gk = l.length ∧ v11 = .int .i64 i ∧ Gr.Ax (TI w l i W))
 case atStart => exact ⟨0, by omega, rfl, ⟨hI0.out⟩⟩
 case round =>
  clear hI0
  obtain ⟨i, hig, rfl, HM⟩ := hrel
  by_cases hil : i < l.length
  ·obtain ⟨m1, rfl⟩ : ∃ j, gk = j + 1 := ⟨gk - 1, by omega⟩
   obtain ⟨t, ht⟩ : ∃ t, l[i]? = some t := ⟨l[i], List.getElem?_eq_getElem hil⟩
   obtain ⟨g3, o3, s3, b3, n3, c3, rfl, hs3, u0, u1, hV3⟩ := (hA.out i (.mk t.p t.v) (by rw [List.getElem?_map, ht]; rfl)).ex
   have hs3 : s3.data.toList = t.p := hs3
   have hV3 : Rep w c (.slice b3 n3 c3) (.sl 8 (al t.v)) := hV3
   have u0 := cg HM.out.bel u0
   have u1 := cg HM.out.bel u1
   have hm := List.mem_of_getElem? ht
   obtain ⟨hp6, _⟩ := hh.out t hm
   have hvl := Xp.aok t.v
   have hs3z : s3.size = t.p.length := by rw [Lib.size_eq, hs3]
   have hB0 : Below wr.heap.size wr (wr.alloc (.cells #[.string s3, .slice b3 n3 c3] 47)) := (Below.refl _ wr).alloc (Nat.le_refl _) _
   have CV := Lib.hid (hV.out t hm _ _ (gl HM.out.bel (Nat.le_refl _) hB0) hV3)
   have hdr : l.drop i = t :: l.drop (i + 1) := by
    rw [List.drop_eq_getElem_cons hil]
    rw [List.getElem?_eq_getElem hil] at ht
    cases ht; rfl
   obtain ⟨acc, ha, hal, hbu⟩ := HM.out.ex
   have hbel := HM.out.bel
   have hxt : (um t) = if (vaX t.v).2 = 0 then (t.p ++ 58 :: 32 :: ((vaX t.v).1 ++ [10]), 0) else ([], (vaX t.v).2) := rfl
   rw [hdr] at ha
   replace ha := Lib.hid ha
   replace hbu := Lib.hid hbu
   replace hbel := Lib.hid hbel
   replace hxt := Lib.hid hxt
   generalize (vaX t.v).1 = tx at CV hvl hxt
   generalize (vaX t.v).2 = e2 at CV hxt
   have htz : (⟨tx.toArray⟩ : ByteArray).size ≤ 10240000 := by rw [Lib.size_eq]; exact hvl
   clear HM hV3
   go_wp2_with fail
   refine CV.out.mono ?_
   rintro e w2 ⟨hB2, rfl⟩
   have hbu2 := a5b hbu.out (je hB0 hB2)
   have hbel2 := gl hbel.out (Nat.le_refl _) (je hB0 hB2)
   have u2 : w2.cell? ⟨wr.heap.size, 0, none⟩ = some (.string s3) := cg hB2 (by rw [cell_of (heap_alloc_new wr _)]; rfl)
   have hB2s := hbel2.size
   clear CV hB0 hB2 hbu hbel u0 u1
   by_cases h0 : e2 = 0
   ·subst h0
    have hS : (s3 ++ ⟨#[58, 32]⟩ ++ ⟨tx.toArray⟩ ++ ⟨#[10]⟩ : ByteArray).data.toList = (um t).1 := by
     rw [hxt.out, if_pos rfl, ← hs3]
     simp [ByteArray.data_append]
    have hSz : (s3 ++ ⟨#[58, 32]⟩ ++ ⟨tx.toArray⟩ ++ ⟨#[10]⟩ : ByteArray).size = s3.size + 2 + (⟨tx.toArray⟩ : ByteArray).size + 1 := by
     rw [ByteArray.size_append, ByteArray.size_append, ByteArray.size_append]; rfl
    have CW := Lib.hid (awn w2 w.heap.size w.heap.size acc (s3 ++ ⟨#[58, 32]⟩ ++ ⟨tx.toArray⟩ ++ ⟨#[10]⟩) hbu2 (by rw [hSz]; omega) hB2s)
    have he0 : (um t).2 = 0 := by rw [hxt.out, if_pos rfl]
    have hnx := Lib.hid fun (W : World) (hi : Lib.IsBuilder 125 5 w.heap.size w.heap.size (Lib.byteCells (acc ++ (s3 ++ ⟨#[58, 32]⟩ ++ ⟨tx.toArray⟩ ++ ⟨#[10]⟩ : ByteArray).data.toList)) W) (hB : Below w.heap.size w2 W) => show TI w l (i + 1) W from by
     have hlen := Xp.a9i (h := t) hp6
     refine ⟨⟨acc ++ (um t).1, ?_, ?_, by rw [← hS]; exact hi⟩, ⟨hB.os.trans hbel2.os, hB.tape.trans hbel2.tape, hB.output.trans hbel2.output, Nat.le_trans hbel2.size hB.size, fun k hk => (hB.block k hk).trans (hbel2.block k hk)⟩⟩
     ·rw [ha.out, Xp.aqh _ _ _ _ he0]
     ·rw [List.length_append]; omega
    clear hS ha hxt hbu2 hbel2
    go_wp2_with fail
    refine CW.out.mono ?_
    rintro e w3 ⟨rfl, h3, hB3⟩
    have hnx3 := Lib.hid (hnx.out w3 h3 hB3)
    clear hnx h3 hB3 CW
    go_wp2_with fail
    go_roundg m1
    case measure => omega
    case rel => exact ⟨i + 1, by omega, by go_num, ⟨hnx3.out⟩⟩
   ·have hres : txH l = ([], e2) := by
     rw [← hx0.out, ha.out]
     have : (um t).2 = e2 := by rw [hxt.out, if_neg h0]
     rw [Xp.aup _ _ _ _ (by rw [this]; exact h0), this]
    replace hres := Lib.hid hres
    clear ha hxt hbu2
    go_wp2_with fail
    refine bodyPost_ret (results_tmp2 rfl _ _ _) rfl ?_
    rw [hres.out]
    exact ⟨rfl, hbel2⟩
  ·obtain rfl : gk = 0 := by omega
   obtain rfl : i = l.length := by omega
   obtain ⟨acc, ha, hal, hbu⟩ := HM.out.ex
   have hbel := HM.out.bel
   have CS := Lib.hid (avp wr w.heap.size w.heap.size acc hbu hbel.size)
   have hres : txH l = (acc, 0) := by
    rw [← hx0.out, ha, List.drop_eq_nil_of_le (Nat.le_refl _), lnX]
    unfold xy
    rw [if_pos rfl, List.append_nil]
   replace hres := Lib.hid hres
   clear HM ha hbu
   go_wp2_with fail
   refine CS.out.mono ?_
   rintro e w3 ⟨rfl, hB3⟩
   go_wp2_with fail
   refine bodyPost_ret (results_tmp2 rfl _ _ _) rfl ?_
   rw [hres.out]
   exact ⟨rfl, ⟨hB3.os.trans hbel.os, hB3.tape.trans hbel.tape, hB3.output.trans hbel.output, Nat.le_trans hbel.size hB3.size, fun k hk => (hB3.block k hk).trans (hbel.block k hk)⟩⟩
end Go.Proofs.YtmdimhcjogjcgaaGreatDoor.Qw
namespace Go.Proofs.YtmdimhcjogjcgaaGreatDoor.Lat
open Go.Proofs.YtmdimhcjogjcgaaGreatDoor.Abs
mutual
theorem a9j : ∀ t u : Tm, ao t = ao u → t = u
 | .mk k lo hi s a m o fs, .mk k' lo' hi' s' a' m' o' fs', h => by
  rw [ao, ao] at h
  simp only [List.cons.injEq, AV.int.injEq, AV.str.injEq, AV.bool.injEq, AV.sl.injEq, true_and, and_true] at h
  obtain ⟨rfl, rfl, rfl, rfl, rfl, rfl, rfl, h⟩ := h
  rw [avq fs fs' h]
theorem avq : ∀ a b : List Fd, cq a = cq b → a = b
 | [], [], _ => rfl
 | [], .mk _ _ :: _, h => by rw [cq, cq] at h; cases h
 | .mk _ _ :: _, [], h => by rw [cq, cq] at h; cases h
 | .mk n v :: r, .mk n' v' :: r', h => by
  rw [cq, cq] at h
  simp only [List.cons.injEq, AV.str.injEq, AV.sl.injEq, true_and, and_true] at h
  obtain ⟨⟨rfl, h1⟩, h2⟩ := h
  rw [adv v v' h1, avq r r' h2]
theorem adv : ∀ a b : List Tm, al a = al b → a = b
 | [], [], _ => rfl
 | [], _ :: _, h => by rw [al, al] at h; cases h
 | _ :: _, [], h => by rw [al, al] at h; cases h
 | t :: r, t' :: r', h => by
  rw [al, al] at h
  simp only [List.cons.injEq] at h
  rw [a9j t t' h.1, adv r r' h.2]
end
theorem aqt : ∀ {a b : List Th}, cy a = cy b → a = b
 | [], [], _ => rfl
 | [], _ :: _, h => by simp [cy] at h
 | _ :: _, [], h => by simp [cy] at h
 | ⟨n, v, d⟩ :: a, ⟨n', v', d'⟩ :: b, h => by
  simp only [cy, aam, List.map_cons, List.cons.injEq, AV.str.injEq, AV.sl.injEq, and_true, true_and] at h
  obtain ⟨⟨rfl, h1, h2⟩, h3⟩ := h
  rw [adv _ _ h1, agx h2, aqt h3]
theorem aqu : ∀ {a b : List Hit}, mj a = mj b → a = b
 | [], [], _ => rfl
 | [], _ :: _, h => by simp [mj] at h
 | _ :: _, [], h => by simp [mj] at h
 | ⟨n, v⟩ :: a, ⟨n', v'⟩ :: b, h => by
  simp only [mj, abh, List.map_cons, List.cons.injEq, AV.str.injEq, AV.sl.injEq, and_true, true_and] at h
  obtain ⟨⟨rfl, h1⟩, h3⟩ := h
  rw [adv _ _ h1, aqu h3]
end Go.Proofs.YtmdimhcjogjcgaaGreatDoor.Lat
namespace Go.Proofs.YtmdimhcjogjcgaaGreatDoor.Abs
open Go.RowKit Go.Proofs.YtmdimhcjogjcgaaGreatDoor.Lat Go.Proofs.YtmdimhcjogjcgaaGreatDoor.Gr Go.Proofs.YtmdimhcjogjcgaaGreatDoor.Th Go.Proofs.YtmdimhcjogjcgaaGreatDoor.Qw
def told {α : Type} (ok : α → Prop) (enc : α → List AV) (res : α → AV) (l : List AV) : Option AV := open Classical in if h : ∃ a, ok a ∧ l = enc a then some (res (Classical.choose h)) else none
theorem aow {α : Type} {ok : α → Prop} {enc : α → List AV} {res : α → AV} {l : List AV} {r : AV} (h : told ok enc res l = some r) : ∃ a, ok a ∧ l = enc a ∧ r = res a := by
 unfold told at h
 split at h
 ·rename_i hx
  cases h
  exact ⟨_, (Classical.choose_spec hx).1, (Classical.choose_spec hx).2, rfl⟩
 ·cases h
theorem aox {α : Type} {ok : α → Prop} {enc : α → List AV} {res : α → AV} {a : α} (hi : ∀ b, enc a = enc b → a = b) (h : ok a) : told ok enc res (enc a) = some (res a) := by
 unfold told
 have hx : ∃ b, ok b ∧ enc a = enc b := ⟨a, h, rfl⟩
 rw [dif_pos hx, ← hi _ (Classical.choose_spec hx).2]
def a9k (p : List Th × Bs) : Prop := p.1.length ≤ 256 ∧ ∀ t ∈ p.1, adh t
def a0o := told a9k (fun p => [.sl 3 (cy p.1), .str p.2]) fun p => .tup [.sl 2 (mj (fdV p.1 p.2).1), .int .i64 (fdV p.1 p.2).2]
def a0p := told Xp.ajj (fun l => [.sl 2 (mj l)]) fun l => .tup [.str (Xp.txH l).1, .int .i64 (Xp.txH l).2]
def a9l (p : List Bs × List Tm) : Prop := 0 < p.1.length ∧ p.1.length + szV p.2 + 1 ≤ 1073741824
def avr := told a9l (fun p => [.sl 1 (ar p.1), .agg 1 [.sl 8 (al p.2)]]) fun p => .sl 2 (fk (qb p.1 p.2))
theorem bgn {p : List Th × Bs} (h : a9k p) : PC Tryz.prog τ 19 [.sl 3 (cy p.1), .str p.2] (.tup [.sl 2 (mj (fdV p.1 p.2).1), .int .i64 (fdV p.1 p.2).2]) := by
 intro w c vs hG hsz ha
 obtain ⟨v, u, rfl, hv, hu⟩ := adn hsz ha
 have hR : Rep w c v (.sl 3 (cy p.1)) := by rcases hv with hv | hv <;> exact hv
 have hU : Rep w c u (.str p.2) := by rcases hu with hu | hu <;> exact hu
 obtain ⟨sb, rfl, e⟩ := lh hU
 rw [← e]
 refine .inl ⟨by simp [callFunc, Tryz.func19, (show ¬ Tryz.f19.name = "runtime.NumGoroutine" by decide +kernel), (show Tryz.f19.body = some _ from rfl)], ?_⟩
 refine (a9h w c v p.1 sb hR hG h.1 h.2).mono fun e' w' ⟨x, c', he, hx, hr⟩ => ⟨_, he, c', hx, _, rfl, rfl, fun i a y hi hy => ?_⟩
 rcases i with _ | _ | i
 ·cases hi; cases hy; exact hr
 ·cases hi; cases hy; exact Rep.int _ _
 ·simp at hi
theorem bgo {l : List Hit} (h : Xp.ajj l) : PC Tryz.prog τ 31 [.sl 2 (mj l)] (.tup [.str (Xp.txH l).1, .int .i64 (Xp.txH l).2]) := by
 intro w c vs hG hsz ha
 obtain ⟨v, rfl, hv⟩ := afm hsz ha
 have hR : Rep w c v (.sl 2 (mj l)) := by rcases hv with hv | hv <;> exact hv
 refine .inl ⟨by simp [callFunc, Tryz.func31, (show ¬ Tryz.f31.name = "runtime.NumGoroutine" by decide +kernel), (show Tryz.f31.body = some _ from rfl)], ?_⟩
 refine (akc w c v l h hR hG).mono fun e' w' ⟨he, hx⟩ => ⟨_, he, _, Abs.ly c hx, _, rfl, rfl, fun i a y hi hy => ?_⟩
 rcases i with _ | _ | i
 ·cases hi; cases hy
  have := Rep.str (w := w') (c := fun b => if b < w.heap.size then c b else .frz) ⟨(Xp.txH l).1.toArray⟩
  show Rep w' _ _ _
  simpa using this
 ·cases hi; cases hy; exact Rep.int _ _
 ·simp at hi
theorem bc1 {p : List Bs × List Tm} (h : a9l p) : PC Tryz.prog τ 72 [.sl 1 (ar p.1), .agg 1 [.sl 8 (al p.2)]] (.sl 2 (fk (qb p.1 p.2))) := by
 intro w c vs hG hsz ha
 obtain ⟨v, u, rfl, hv, hu⟩ := adn hsz ha
 have hR : Rep w c v (.sl 1 (ar p.1)) := by rcases hv with hv | hv <;> exact hv
 obtain ⟨vv, rfl, hV⟩ : ∃ vv, u = .agg #[vv] ∧ Rep w c vv (.sl 8 (al p.2)) := by
  rcases hu with hu | hu
  ·obtain ⟨vs, rfl, h1, _, h3⟩ := hu
   obtain ⟨vs⟩ := vs
   match vs, h1 with
   | [x], _ => exact ⟨x, rfl, h3 0 _ x rfl rfl⟩
  ·cases hu
 refine .inl ⟨by simp [callFunc, Tryz.func72, (show ¬ Tryz.f72.name = "runtime.NumGoroutine" by decide +kernel), (show Tryz.f72.body = some _ from rfl)], ?_⟩
 exact (a4v (szV p.2) (by have := h.2; omega) w c p.1 v p.2 vv (Nat.le_refl _) h.1 h.2 hR hV).mono fun e' w' ⟨x, he, hx, hr⟩ => ⟨_, he, _, Abs.ly c hx, hr⟩
def Q1 : Abs.Sys := wj Z 19 a0o
def Q2 : Abs.Sys := wj Q1 31 a0p
def Q : Abs.Sys := wj Q2 72 avr
theorem bgp {f : Nat} {l : List AV} {v : AV} (h : ah Z f l = some v) : ah Q f l = some v := agw Q2 72 avr rfl (agw Q1 31 a0p rfl (agw Z 19 a0o rfl h))
theorem upQ {f : Nat} {l : List AV} {v : AV} (h : ah S f l = some v) : ah Q f l = some v := bgp (upZ h)
theorem a5c : agu Tryz.prog Q := ⟨abz.tab, abz.fol, fun f g h l r hr => by
 by_cases hf : f = 72
 ·subst hf
  rw [Q, nk] at h
  cases h
  obtain ⟨p, hp, rfl, rfl⟩ := aow hr
  exact bc1 hp
 rw [Q, ky _ _ _ hf] at h
 by_cases hf1 : f = 31
 ·subst hf1
  rw [Q2, nk] at h
  cases h
  obtain ⟨p, hp, rfl, rfl⟩ := aow hr
  exact bgo hp
 rw [Q2, ky _ _ _ hf1] at h
 by_cases hf2 : f = 19
 ·subst hf2
  rw [Q1, nk] at h
  cases h
  obtain ⟨p, hp, rfl, rfl⟩ := aow hr
  exact bgn hp
 rw [Q1, ky _ _ _ hf2] at h
 exact am7.or f g h l r hr, fun f d h => abz.fn f d h⟩
theorem avs {ts : List Th} {s : Bs} (h : a9k (ts, s)) : ah Q 19 [.sl 3 (cy ts), .str s] = some (.tup [.sl 2 (mj (fdV ts s).1), .int .i64 (fdV ts s).2]) := by
 rw [rr, ahg Q 19 _ a0o (by rw [Q, ky _ _ _ (by decide), Q2, ky _ _ _ (by decide), Q1, nk])]
 refine aox (a := (ts, s)) (fun b e => ?_) h
 simp only [List.cons.injEq, AV.sl.injEq, AV.str.injEq, true_and, and_true] at e
 rw [aqt e.1, e.2]
theorem bgq {l : List Hit} (h : Xp.ajj l) : ah Q 31 [.sl 2 (mj l)] = some (.tup [.str (Xp.txH l).1, .int .i64 (Xp.txH l).2]) := by
 rw [rr, ahg Q 31 _ a0p (by rw [Q, ky _ _ _ (by decide), Q2, nk])]
 refine aox (a := l) (fun b e => ?_) h
 simp only [List.cons.injEq, AV.sl.injEq, true_and, and_true] at e
 exact aqu e
theorem bc2 {p : List Bs} {v : List Tm} (h : a9l (p, v)) : ah Q 72 [.sl 1 (ar p), .agg 1 [.sl 8 (al v)]] = some (.sl 2 (fk (qb p v))) := by
 rw [rr, ahg Q 72 _ avr (by rw [Q, nk])]
 refine aox (a := (p, v)) (fun b e => ?_) h
 simp only [List.cons.injEq, AV.sl.injEq, AV.agg.injEq, true_and, and_true] at e
 rw [agx e.1, adv _ _ e.2]
def ae2 (a0 : AV) : Option AV := ah Q 12 [a0]
theorem avt {a0 : AV} {v : AV} (h : fm a0 = some v) : ae2 a0 = some v := upQ h
def fe (a0 a1 : AV) : Option AV := ah Q 7 [a0, a1]
def qe : Option AV := ah Q 17 []
def aaq (a0 : AV) : Option AV := ah Q 62 [a0]
theorem avu {a0 : AV} {v : AV} (h : aeb a0 = some v) : aaq a0 = some v := upQ h
def sr (a0 : AV) : Option AV := ah Q 63 [a0]
theorem aeu {a0 : AV} {v : AV} (h : vg a0 = some v) : sr a0 = some v := upQ h
def ot (a0 a1 : AV) : Option AV := ah Q 19 [a0, a1]
def ag8 (a0 : AV) : Option AV := ah Q 29 [a0]
def aif (a0 : AV) : Option AV := ah Q 31 [a0]
def abl (a0 : AV) : Option AV := ah Q 14 [a0]
theorem aoy {a0 : AV} {v : AV} (h : jg a0 = some v) : abl a0 = some v := upQ h
def dn (a0 a1 : AV) : Option AV := ah Q 28 [a0, a1]
def abm (a0 : AV) : Option AV := ah Q 18 [a0]
theorem aoz {a0 : AV} {v : AV} (h : iq a0 = some v) : abm a0 = some v := upQ h
def uc (a0 : AV) : Option AV := ah Q 16 [a0]
theorem afo {a0 : AV} {v : AV} (h : jw a0 = some v) : uc a0 = some v := upQ h
def adw (a0 a1 a2 : AV) : Option AV := ah Q 30 [a0, a1, a2]
theorem arf {a0 a1 a2 : AV} {v : AV} (h : yo a0 a1 a2 = some v) : adw a0 a1 a2 = some v := upQ h
def adx (a0 : AV) : Option AV := ah Q 32 [a0]
theorem arh {a0 : AV} {v : AV} (h : lj a0 = some v) : adx a0 = some v := upQ h
def zh (a0 a1 : AV) : Option AV := ah Q 73 [a0, a1]
theorem ala {a0 a1 : AV} {v : AV} (h : dw a0 a1 = some v) : zh a0 a1 = some v := upQ h
def ag9 (a0 a1 : AV) : Option AV := ah Q 72 [a0, a1]
def fe.l0 (a5 a7 a9 : AV) : Option AV := bn Q 7 d7 [1, 1, 1, 1, 1, 0, 1, 0] (look [(5, a5), (7, a7), (9, a9)])
theorem fe.ae (l1 : LL) (s2 : B8) : fe (.sl 3 l1) (.str s2) = ((ae2 (.sl 3 l1)).bind fun r3 => asB r3 fun b4 => (ifB (!b4) (some true) (some (decide ((300 : Int) < (s2.length : Int)))) : Option Bool).bind fun b5 => ifB b5 (qe.bind fun r6 => asB r6 fun b7 => some (.bool b7)) ((ot (.sl 3 l1) (.str s2)).bind fun r8 => ja r8 fun a9 a10 => asL 2 a9 fun l11 => asI .i64 a10 fun n12 => (dn (.sl 3 l1) (.str s2)).bind fun r13 => ja r13 fun a14 a15 => asL 2 a14 fun l16 => asI .i64 a15 fun n17 => (ag8 (.str s2)).bind fun r18 => asB r18 fun b19 => (uc (.str s2)).bind fun r20 => asB r20 fun b21 => (ifB (!(b19 == b21)) (some true) (some (!decide ((l11.length : Int) = (l16.length : Int)))) : Option Bool).bind fun b22 => (ifB b22 (some true) (some (!decide (n12 = n17))) : Option Bool).bind fun b23 => ifB b23 (some (.bool false)) (fe.l0 (.sl 2 l11) (.sl 2 l16) (.int .i64 0)))) := (af Q 7 _ d7 rfl h7).trans (by kernel_rfl)
theorem fe.ai (l1 l2 : LL) (n3 : Int) : fe.l0 (.sl 2 l1) (.sl 2 l2) (.int .i64 n3) = (ifB (decide (n3 < (l2.length : Int))) (idx l1 n3 fun c4 => aa c4 0 fun a5 => asS a5 fun s6 => idx l1 n3 fun c7 => aa c7 1 fun a8 => idx l2 n3 fun c9 => (adw (.str s6) (.agg 1 [a8]) (.agg 2 c9)).bind fun r10 => asB r10 fun b11 => ifB (!b11) (some (.bool false)) (fe.l0 (.sl 2 l1) (.sl 2 l2) (.int .i64 (w64 (n3 + 1))))) ((aif (.sl 2 l1)).bind fun r12 => ja r12 fun a13 a14 => asS a13 fun s15 => asI .i64 a14 fun n16 => (adx (.sl 2 l2)).bind fun r17 => ja r17 fun a18 a19 => asS a18 fun s20 => asI .i64 a19 fun n21 => qe.bind fun r22 => asB r22 fun b23 => (ifB b23 (some (decide (s15 = s20))) (some false) : Option Bool).bind fun b24 => (ifB b24 (some (decide (n16 = n21))) (some false) : Option Bool).bind fun b25 => some (.bool b25))) := (ak ..).trans (by kernel_rfl)
theorem qe.ae  : qe = ((sr (.int .i64 1)).bind fun r1 => asC 1 r1 fun c2 => (sr (.int .i64 4)).bind fun r3 => asC 1 r3 fun c4 => (aaq (.sl 2 ([(js [.str [110], .sl 8 []] 1 c4)]))).bind fun r5 => asC 1 r5 fun c6 => (aaq (.sl 2 ([(js [.str [105, 100], .sl 8 []] 1 c2), (js [.str [110, 101, 116], .sl 8 []] 1 c6)]))).bind fun r7 => asC 1 r7 fun c8 => (ot (.sl 3 ([(js [.str [119, 101, 98], .sl 8 [], .sl 1 []] 1 c8)])) (.str [119, 101, 98, 46, 42])).bind fun r9 => ja r9 fun a10 a11 => asL 2 a10 fun l12 => asI .i64 a11 fun n13 => (ot (.sl 3 ([(js [.str [119, 101, 98], .sl 8 [], .sl 1 []] 1 c8)])) (.str [119, 101, 98, 46, 42, 42])).bind fun r14 => ja r14 fun a15 a16 => asL 2 a15 fun l17 => asI .i64 a16 fun n18 => (ifB (decide (n13 = 0)) (some (decide ((l12.length : Int) = 2))) (some false) : Option Bool).bind fun b19 => (ifB b19 (idx l12 1 fun c21 => aa c21 0 fun a22 => asS a22 fun s23 => some (decide (s23 = [119, 101, 98, 46, 110, 101, 116]))) (some false) : Option Bool).bind fun b20 => (ifB b20 (some (decide (n18 = 0))) (some false) : Option Bool).bind fun b24 => (ifB b24 (some (decide ((l17.length : Int) = 4))) (some false) : Option Bool).bind fun b25 => (ifB b25 (idx l17 0 fun c27 => aa c27 0 fun a28 => asS a28 fun s29 => some (decide (s29 = [119, 101, 98]))) (some false) : Option Bool).bind fun b26 => (ifB b26 (idx l17 3 fun c31 => aa c31 0 fun a32 => asS a32 fun s33 => some (decide (s33 = [119, 101, 98, 46, 110, 101, 116, 46, 110]))) (some false) : Option Bool).bind fun b30 => some (.bool b30)) := (af Q 17 _ d17 rfl h17).trans (by kernel_rfl)
def dn.l0 (a0 a6 a7 a8 : AV) : Option AV := bn Q 28 d28 [1, 1, 1, 1, 1, 0, 1, 0] (look [(0, a0), (6, a6), (7, a7), (8, a8)])
def dn.l1 (a0 a6 a7 a8 a9 a10 : AV) : Option AV := bn Q 28 d28 [1, 1, 1, 1, 1, 0, 1, 0, 0, 1, 0, 0, 1, 1, 0] (look [(0, a0), (6, a6), (7, a7), (8, a8), (9, a9), (10, a10)])
theorem dn.ae (l1 : LL) (s2 : B8) : dn (.sl 3 l1) (.str s2) = ((uc (.str s2)).bind fun r3 => asB r3 fun b4 => ifB (!b4) (some (.tup [.own 2 [], .int .i64 2])) ((abl (.sl 3 l1)).bind fun r5 => asB r5 fun b6 => ifB (!b6) (some (.tup [.own 2 [], .int .i64 1])) ((abm (.str s2)).bind fun r7 => asL 1 r7 fun l8 => dn.l0 (.sl 3 l1) (.sl 1 l8) (.own 2 []) (.int .i64 0)))) := (af Q 28 _ d28 rfl h28).trans (by kernel_rfl)
theorem dn.ai (l1 l2 l3 : LL) (n4 : Int) : dn.l0 (.sl 3 l1) (.sl 1 l2) (.own 2 l3) (.int .i64 n4) = (ifB (decide (n4 < (l1.length : Int))) (idx l1 n4 fun c5 => aa c5 0 fun a6 => asS a6 fun s7 => idx l1 n4 fun c8 => aa c8 1 fun a9 => (ag9 (.sl 1 ([[.str s7]])) (.agg 1 [a9])).bind fun r10 => asL 2 r10 fun l11 => dn.l1 (.sl 3 l1) (.sl 1 l2) (.own 2 l3) (.int .i64 n4) (.sl 2 l11) (.int .i64 0)) (some (.tup [.own 2 l3, .int .i64 0]))) := (ak ..).trans (by kernel_rfl)
theorem dn.en (l1 l2 l3 : LL) (n4 : Int) (l5 : LL) (n6 : Int) : dn.l1 (.sl 3 l1) (.sl 1 l2) (.own 2 l3) (.int .i64 n4) (.sl 2 l5) (.int .i64 n6) = (ifB (decide (n6 < (l5.length : Int))) (idx l5 n6 fun c7 => aa c7 0 fun a8 => asL 1 a8 fun l9 => (zh (.sl 1 l2) (.sl 1 l9)).bind fun r10 => asB r10 fun b11 => ifB b11 (idx l5 n6 fun c12 => aq (Nat.ble (List.length l3 + List.length [c12]) lim) <| dn.l1 (.sl 3 l1) (.sl 1 l2) (.own 2 (l3 ++ [c12])) (.int .i64 n4) (.sl 2 l5) (.int .i64 (w64 (n6 + 1)))) (dn.l1 (.sl 3 l1) (.sl 1 l2) (.own 2 l3) (.int .i64 n4) (.sl 2 l5) (.int .i64 (w64 (n6 + 1))))) (dn.l0 (.sl 3 l1) (.sl 1 l2) (.own 2 l3) (.int .i64 (w64 (n4 + 1))))) := (ak ..).trans (by kernel_rfl)
end Go.Proofs.YtmdimhcjogjcgaaGreatDoor.Abs
