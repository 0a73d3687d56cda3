/- The walk over all paths. -/
import Derived.Test.YtmdimhcjogjcgaaGreatDoorGbi
import Derived.Test.YtmdimhcjogjcgaaGreatDoorGbh
set_option linter.all false
set_option maxRecDepth 100000
set_option maxHeartbeats 8000000
noncomputable section
namespace Go.Proofs.YtmdimhcjogjcgaaGreatDoor.Qw
open Go.RowKit Go.Lib Go.Proofs.YtmdimhcjogjcgaaGreatDoor.Abs Go.Proofs.YtmdimhcjogjcgaaGreatDoor.Lat Go.Proofs.YtmdimhcjogjcgaaGreatDoor.Lat.Cp Go.Proofs.YtmdimhcjogjcgaaGreatDoor.Gr Go.Proofs.YtmdimhcjogjcgaaGreatDoor.Th
theorem bgi : (Tryz.prog.info? 62).map (fun i => (i.zero, i.size, i.bytes)) = some (some (.agg #[.slice none 0 0, .slice none 0 0]), 2, 48) := by kernel_rfl
theorem azs : (Tryz.prog.info? 9).map (fun i => (i.zero, i.size, i.bytes)) = some (some (.string ByteArray.empty), 1, 16) := by kernel_rfl
structure PI (w : World) (c : Cls) (A : Option Addr) (n cap : Nat) (L : List (List AV)) (x : Value) (W : World) : Prop where
 bel : Below w.heap.size w W
 row : PR W w.heap.size c 62 2 x L
 box : W.heap[w.heap.size]? = some (.cells #[.slice A n cap] 45 (0, 0))
 ne : x.ownBlock ≠ some w.heap.size
theorem PI.below {w : World} {c : Cls} {A : Option Addr} {n cap : Nat} {L : List (List AV)} {x : Value} {W W' : World} (h : PI w c A n cap L x W) (hB : Below W.heap.size W W') : PI w c A n cap L x W' :=
 ⟨gl h.bel (Nat.le_refl _) hB, h.row.below hB, (hB.block _ (fj h.box)).trans h.box, h.ne⟩
def aos (n : Nat) : Prop := ∀ (w : World) (c : Cls) (path : List Bs) (pv : Value) (v : List Tm) (vv : Value), szV v ≤ n → 0 < path.length → path.length + szV v + 1 ≤ 1073741824 → Rep w c pv (.sl 1 (ar path)) → Rep w c vv (.sl 8 (al v)) →
 Calls Tryz.prog 72 #[pv, .agg #[vv]] w fun e w' => ∃ x, e = .returned x ∧ Below w.heap.size w w' ∧ Rep w' (fun b => if b < w.heap.size then c b else .frz) x (.sl 2 (fk (qb path v)))
theorem bgj {W : World} {B g : Nat} (hb : W.heap[g]? = some (.cells #[] 9 (0, 0))) (h : B ≤ g) : W.ownsRow B 9 1 (.slice (some ⟨g, 0, none⟩) 0 0) 0 [] :=
 ⟨rfl, .inr ⟨g, 0, #[], rfl, h, hb, Nat.le_refl _, Nat.zero_le _, rfl, rfl⟩⟩
theorem a4t {W : World} {B e k g n cap m : Nat} {xs : List Value} (h : W.ownsRow B e k (.slice (some ⟨g, 0, none⟩) n cap) m xs) : B ≤ g := by
 obtain ⟨_, ⟨q, _⟩ | ⟨g', cap', cur, q, h2, _⟩⟩ := h
 ·cases q
 ·cases q; exact h2
theorem avj (w : World) (a b : Obj) : ((w.alloc a).alloc b).heap[w.heap.size + 1]? = some b := by
 have := heap_alloc_new (w.alloc a) b
 simpa using this
theorem avk (w : World) (a b : Obj) : ((w.alloc a).alloc b).heap[w.heap.size]? = some a := (Below.heap_alloc _ _ _ (by simp)).trans (heap_alloc_new w a)
theorem bcs {w w' : World} {c c' : Cls} {us : List Value} {d : List Bs} (h : CLL w c 1 us (ar d)) : CLL w' c' 1 us (ar d) :=
 ⟨h.1, h.2.1, fun i j cs x u hi hj hu => by
  have hr := h.2.2 i j cs x u hi hj hu
  rw [ar, List.getElem?_map] at hi
  cases hx : d[i]? with
  | none => rw [hx] at hi; cases hi
  | some s =>
   rw [hx] at hi; cases hi
   have hj0 : j = 0 := by have := (List.getElem?_eq_some_iff.1 hj).1; simp at this; exact this
   subst hj0
   cases hj
   obtain ⟨sb, rfl, rfl⟩ := lh hr
   exact .str sb⟩
theorem bct (w : World) (c : Cls) (s : ByteArray) : CLL w c 1 [.string s] (ar [s.data.toList]) :=
 ⟨rfl, fun i cs hi => by
  rcases i with _ | i
  ·cases hi; rfl
  ·simp [ar] at hi, fun i j cs x u hi hj hu => by
  rcases i with _ | i
  ·cases hi
   rcases j with _ | j
   ·cases hj; cases hu; exact .str s
   ·simp at hj
  ·simp [ar] at hi⟩
theorem a9c {wr wA w5 wB w6 : World} {B0 : Nat} {c c0 : Cls} {x : Value} {w : World} {us : List Value} {path : List Bs} {s : ByteArray} {g5 cap5 g6 cap6 : Nat} {v5 : Value} (hcl : CLL w c0 1 us (ar path)) (hx : ∀ g, x.ownBlock = some g → g < wr.heap.size) (hB0 : B0 ≤ wr.heap.size)
  (hA : Below wr.heap.size wr wA) (hv5 : ∀ k, v5.ownBlock = some k → wr.heap.size ≤ k) (hg5 : wA.grownBy w5 v5.ownBlock) (hB : Below w5.heap.size w5 wB) (hge : wr.heap.size ≤ g5)
  (hg6 : wB.grownBy w6 (Value.slice (some ⟨g5, 0, none⟩) path.length cap5).ownBlock) (hown : w6.ownsRow wr.heap.size 9 1 (.slice (some ⟨g6, 0, none⟩) (path.length + 1) cap6) (path.length + 1) (us ++ [.string s])) :
  Below wr.heap.size wr w6 ∧ Rep w6 (Sx B0 c x) (.slice (some ⟨g6, 0, none⟩) (path.length + 1) cap6) (.sl 1 (ar (path ++ [s.data.toList]))) := by
 have h5 : Below wr.heap.size wr w5 := ⟨hg5.os.trans hA.os, hg5.tape.trans hA.tape, hg5.output.trans hA.output, Nat.le_trans hA.size hg5.size, fun k hk => (hg5.block k (Nat.lt_of_lt_of_le hk hA.size) fun e => by have := hv5 k e.symm; omega).trans (hA.block k hk)⟩
 have h6 := gl h5 (Nat.le_refl _) hB
 refine ⟨⟨hg6.os.trans h6.os, hg6.tape.trans h6.tape, hg6.output.trans h6.output, Nat.le_trans h6.size hg6.size, fun k hk => (hg6.block k (Nat.lt_of_lt_of_le hk h6.size) fun e => by
  have : g5 = k := by simpa [Value.ownBlock] using e.symm
  omega).trans (h6.block k hk)⟩, ?_⟩
 obtain ⟨h1, ⟨e, _⟩ | ⟨g, cap, cur, e, h2, h3, h4, h5', h7, h8⟩⟩ := hown
 ·cases e
 ·cases e
  have hc : CLL w6 (Sx B0 c x) 1 (us ++ [.string s]) (ar (path ++ [s.data.toList])) := by
   rw [ar, List.map_append]
   exact (bcs hcl).append (bct ..)
  have hl : (ar (path ++ [s.data.toList])).length = path.length + 1 := by rw [br, List.length_append]; rfl
  rw [← hl]
  refine aag h3 hc (by rw [hl]; exact h4) (fun k u hu => ?_) fun k hk => acf.2 ⟨fun e => ?_, fun h => by omega⟩
  ·rw [← h8, List.getElem?_take] at hu
   split at hu
   ·simpa using hu
   ·cases hu
  ·have := hx _ e; omega
theorem avl {w W : World} {c : Cls} {x u : Value} {a : AV} (h : Rep w c u a) (hB : Below w.heap.size w W) (hx : ∀ g, x.ownBlock = some g → w.heap.size ≤ g) : Rep W (Sx w.heap.size c x) u a :=
 h.ext (ak3 hB.size hB.os hB.tape hB.output fun b i hb hl => ⟨hB.block b hl, acf.2 ⟨fun e => by have := hx b e; omega, fun _ => hb⟩⟩)
theorem PI.app {w W W' : World} {c : Cls} {A : Option Addr} {n cap : Nat} {L M : List (List AV)} {x x' : Value} {us news : List Value} (h : PI w c A n cap L x W) (hc : CLL W (Sx w.heap.size c x) 2 us L) (hm : CLL W (Sx w.heap.size c x) 2 news M)
  (hown : W'.ownsRow w.heap.size 62 2 x' (L.length + M.length) (us ++ news)) (hg : W.grownBy W' x.ownBlock) (hat : x'.ownBlock = x.ownBlock ∨ x'.ownBlock = some W.heap.size) : PI w c A n cap (L ++ M) x' W' := by
 have hblk := am5 h.row
 have hlt := fj h.box
 refine ⟨⟨hg.os.trans h.bel.os, hg.tape.trans h.bel.tape, hg.output.trans h.bel.output, Nat.le_trans h.bel.size hg.size, fun k hk => (hg.block k (Nat.lt_of_lt_of_le hk h.bel.size) fun e => ?_).trans (h.bel.block k hk)⟩, PR.app hc hm hown hg hat, (hg.block _ hlt fun e => h.ne e.symm).trans h.box, fun e => ?_⟩
 ·have := (hblk k e.symm).1; omega
 ·rcases hat with q | q
  ·exact h.ne (q.symm.trans e)
  ·rw [q] at e; have := Option.some.inj e; omega
theorem a4u (a b : List RH) : fk (a ++ b) = fk a ++ fk b := by simp [fk]
theorem pi0 {w : World} {c : Cls} {A : Option Addr} {cap gp op capP : Nat} {path : List Bs} {v : List Tm} (hP : Rep w c (.slice (some ⟨gp, op, none⟩) path.length capP) (.sl 1 (ar path))) (hV : Rep w c (.slice A v.length cap) (.sl 8 (al v))) :
  PI w c A v.length cap (fk (⟨path, v⟩ :: il path (v.take 0))) (.slice (some ⟨w.heap.size + 1, 0, none⟩) 1 1) ((w.alloc (.cells #[.slice A v.length cap] 45)).alloc (.cells #[.slice (some ⟨gp, op, none⟩) path.length capP, .slice A v.length cap] 62)) := by
 have hB : Below w.heap.size w ((w.alloc (.cells #[.slice A v.length cap] 45)).alloc (.cells #[.slice (some ⟨gp, op, none⟩) path.length capP, .slice A v.length cap] 62)) := ((Below.refl _ w).alloc (Nat.le_refl _) _).alloc (by simp) _
 have hx : ∀ g, (Value.slice (some ⟨w.heap.size + 1, 0, none⟩) 1 1).ownBlock = some g → w.heap.size ≤ g := fun g e => by
  have : w.heap.size + 1 = g := by simpa [Value.ownBlock] using e
  omega
 refine ⟨hB, ⟨[.slice (some ⟨gp, op, none⟩) path.length capP, .slice A v.length cap], ⟨rfl, .inr ⟨_, 1, _, rfl, by omega, avj .., by rw [List.take_zero, il]; exact Nat.le_refl _, by decide, rfl, rfl⟩⟩, rfl, fun i cs hi => ?_, fun i j cs x u hi hj hu => ?_⟩, avk .., by simp [Value.ownBlock]⟩
 ·rw [List.take_zero, il] at hi
  rcases i with _ | i
  ·cases hi; rfl
  ·simp [fk] at hi
 ·rw [List.take_zero, il] at hi
  rcases i with _ | i
  ·cases hi
   rcases j with _ | _ | j
   ·cases hj; cases hu; exact avl hP hB hx
   ·cases hj; cases hu; exact avl hV hB hx
   ·simp [ah8] at hj
  ·simp [fk] at hi
theorem a0k (n : Nat) (hn : n ≤ 1073741824) (ih : ∀ m, m < n → aos m) : aos n := by
 intro w c path pv v vv hs hp hb hP hV
 obtain ⟨A, cap, rfl, hA⟩ := ak6 hV
 obtain ⟨bo, capP, us, rfl, hcap, hnone, hcll, hcells, hspot⟩ := qx hP
 rw [br] at *
 obtain ⟨gp, op, rfl⟩ : ∃ gp op, bo = some ⟨gp, op, none⟩ := by
  cases bo with
  | none => have := hnone rfl; omega
  | some p =>
   obtain ⟨g, o, s⟩ := p
   have := hspot _ rfl hp
   cases this
   exact ⟨g, o, rfl⟩
 have hvl := fh v
 obtain ⟨i0, hi, hz0, hz1, hz2⟩ := info_parts bgi
 have hi62 := Lib.hid (And.intro hi (And.intro hz0 (And.intro hz1 hz2)))
 obtain ⟨j0, hj, hy0, hy1, hy2⟩ := info_parts azs
 have hi9 := Lib.hid (And.intro hj (And.intro hy0 (And.intro hy1 hy2)))
 have hI0 := Lib.hid (show PI w c A v.length cap (fk (⟨path, v⟩ :: il path (v.take 0))) (.slice (some ⟨w.heap.size + 1, 0, none⟩) 1 1) ((w.alloc (.cells #[.slice A v.length cap] 45)).alloc (.cells #[.slice (some ⟨gp, op, none⟩) path.length capP, .slice A v.length cap] 62)) from pi0 hP hV)
 replace hA := Lib.hid hA
 replace ih := Lib.hid ih
 replace hcll := Lib.hid hcll
 replace hcells := Lib.hid hcells
 clear hP hV hi hz0 hz1 hz2 hj hy0 hy1 hy2 hnone hspot
 go_enter Tryz.func72, Tryz.ntmps72
 go_wp2_with fail
 go_loopg [6, 5] v.length (fun gk v6 v5 W => ∃ i : Nat, i + gk = v.length ∧ v6 = .int .i64 i ∧ Gr.Ax (PI w c A v.length cap (fk (⟨path, v⟩ :: il path (v.take i))) v5 W))
 case atStart => exact ⟨0, by omega, rfl, ⟨hI0.out⟩⟩
 case round =>
  clear hI0
  obtain ⟨i, hig, rfl, HM⟩ := hrel
  have hbx : wr.cell? ⟨w.heap.size, 0, none⟩ = some (.slice A v.length cap) := by rw [cell_of HM.out.box]; rfl
  by_cases hil : i < v.length
  ·obtain ⟨m1, rfl⟩ : ∃ j, gk = j + 1 := ⟨gk - 1, by omega⟩
   obtain ⟨t, ht⟩ : ∃ t, v[i]? = some t := ⟨v[i], List.getElem?_eq_getElem hil⟩
   obtain ⟨g, o, s, b1, n1, c1, rfl, q0, q1, q2, q3, q4, q5, q6, q7, hF⟩ := (hA.out i t ht).ex
   obtain ⟨Af, capf, e7, hAF⟩ := aeq hF
   cases e7
   have q7 := cg HM.out.bel q7
   have hzt := ll (List.mem_of_getElem? ht)
   rw [fw] at hzt
   have hfl := gw t.fs
   replace hAF := Lib.hid hAF
   clear hF q0 q1 q2 q3 q4 q5 q6
   go_wp2_with fail
   go_loopg [8, 5] t.fs.length (fun gk v8 v5 W => ∃ k : Nat, k + gk = t.fs.length ∧ v8 = .int .i64 k ∧ Gr.Ax (PI w c (some ⟨g, o, none⟩) v.length cap (fk (⟨path, v⟩ :: (il path (v.take i) ++ kc path (t.fs.take k)))) v5 W))
   case atStart => exact ⟨0, by omega, rfl, ⟨by rw [List.take_zero, kc, List.append_nil]; exact HM.out⟩⟩
   case round =>
    clear HM q7 hbx
    obtain ⟨k, hkg, rfl, HF⟩ := hrel
    by_cases hkl : k < t.fs.length
    ·obtain ⟨m2, rfl⟩ : ∃ j, gk = j + 1 := ⟨gk - 1, by omega⟩
     obtain ⟨f, hf⟩ : ∃ f, t.fs[k]? = some f := ⟨t.fs[k], List.getElem?_eq_getElem hkl⟩
     obtain ⟨g3, o3, s3, b3, n3, c3, rfl, hs3, r0, r1, hV3⟩ := (hAF.out k f hf).ex
     have r0 := cg HF.out.bel r0
     have r1 := cg HF.out.bel r1
     go_wp2_with fail
     have hcw := Lib.hid (show ∀ W, Below wr.heap.size wr W → ∀ j u, us[j]? = some u → W.cell? ((⟨gp, op, none⟩ : Addr).add j) = some u from fun W hB j u hj => by
      have := cg (gl HF.out.bel (Nat.le_refl _) hB) (hcells.out _ rfl j u hj)
      exact this)
     have hone := Lib.hid hcll.out.one
     have r0' := r0
     have hg3 : g3 < wr.heap.size := wc r0
     have hul : us.length = path.length * 1 := by have := hcll.out.1; rw [br] at this; exact this
     have h63 : 0 + path.length ≤ maxLen := by unfold maxLen; omega
     have h63b : path.length + 1 ≤ maxLen := by unfold maxLen; omega
     have hby1 : (0 + path.length) * 16 ≤ 140737488355328 := by omega
     have hby2 : (path.length + 1) * 16 ≤ 140737488355328 := by omega
     go_region_held3 (fun W => W.cell? ⟨g3, o3 + k * 2, none⟩ = some (.string s3)) (first | go_keep | (rw [hgrow5.cell_far _ (by simp; omega) (by simp [Value.ownBlock]; omega)]; go_keep) | (have hz := hgrow5.size; simp at hz; rw [hgrow6.cell_far _ (by simp; omega) (by simp [Value.ownBlock]; omega)]; rw [hgrow5.cell_far _ (by simp; omega) (by simp [Value.ownBlock]; omega)]; go_keep) | (have hz := hgrow5.size; simp at hz; rw [hgrow6.cell_far _ (by simp; omega) (by simp [Value.ownBlock]; omega)]; go_keep))
      (first
       | ((refine step_append_lies _ (by rfl) _ _ _ (by rfl) wr.heap.size 9 j0 _ 1 16 Tryz.underlying37 hi9.out.1 hi9.out.2.1 hi9.out.2.2.1 hi9.out.2.2.2 rfl (by decide) (.slice (some ⟨wr.heap.size, 0, none⟩) 0 0) 0 [] (by rfl) (bgj (by first | exact heap_alloc_new wr _ | exact avk wr _ _) (by omega)) ⟨gp, op, none⟩ path.length capP us (by rfl) hul (hcw.out _ (by first | exact (Below.refl _ wr).alloc (by simp) _ | exact (Below.refl _ wr.drew).alloc (by simp) _ | exact ((Below.refl _ wr).alloc (by simp) _).drew | exact ((Below.refl _ wr).alloc (Nat.le_refl _) _).alloc (by simp) _ | exact ((Below.refl _ wr).alloc (by simp) _).drew.alloc (by simp) _)) hone.out hp h63 hby1 (by simp <;> omega) _ rfl ?_); intro g5 cap5 w5 hown5 hgrow5 hat5 hlt5; have hge5 := a4t hown5; simp only [Nat.zero_add, List.nil_append] at hown5 ⊢)
       | ((refine step_append_lies _ (by rfl) _ _ _ (by rfl) wr.heap.size 9 j0 _ 1 16 Tryz.underlying37 hi9.out.1 hi9.out.2.1 hi9.out.2.2.1 hi9.out.2.2.2 rfl (by decide) (.slice (some ⟨wr.heap.size + 1, 0, none⟩) 0 0) 0 [] (by rfl) (bgj (avj wr _ _) (by omega)) ⟨gp, op, none⟩ path.length capP us (by rfl) hul (hcw.out _ (by first | exact (Below.refl _ wr).alloc (by simp) _ | exact (Below.refl _ wr.drew).alloc (by simp) _ | exact ((Below.refl _ wr).alloc (by simp) _).drew | exact ((Below.refl _ wr).alloc (Nat.le_refl _) _).alloc (by simp) _ | exact ((Below.refl _ wr).alloc (by simp) _).drew.alloc (by simp) _)) hone.out hp h63 hby1 (by simp <;> omega) _ rfl ?_); intro g5 cap5 w5 hown5 hgrow5 hat5 hlt5; have hge5 := a4t hown5; simp only [Nat.zero_add, List.nil_append] at hown5 ⊢)
       | ((refine step_append_lies _ (by rfl) _ _ _ (by rfl) wr.heap.size 9 j0 _ 1 16 Tryz.underlying37 hi9.out.1 hi9.out.2.1 hi9.out.2.2.1 hi9.out.2.2.2 rfl (by decide) (.slice (some ⟨g5, 0, none⟩) path.length cap5) path.length us (by rfl) (by simpa using hown5.alloc (.cells #[.string s3] 9)) ⟨w5.heap.size, 0, none⟩ 1 1 [.string s3] (by rfl) (by rfl) (World.news_of_block (cs := #[.string s3]) (t := 9) (fr := (0, 0)) (heap_alloc_new w5 _)) (by simp [Value.oneCell']) (by omega) h63b hby2 (by have := hgrow5.size; simp at this ⊢; omega) _ rfl ?_); intro g6 cap6 w6 hown6 hgrow6 hat6 hlt6)
       | ((refine step_append_lies _ (by rfl) _ _ _ (by rfl) wr.heap.size 9 j0 _ 1 16 Tryz.underlying37 hi9.out.1 hi9.out.2.1 hi9.out.2.2.1 hi9.out.2.2.2 rfl (by decide) (.slice (some ⟨g5, 0, none⟩) path.length cap5) path.length us (by rfl) (by simpa using hown5) ⟨wr.heap.size + 1, 0, none⟩ 1 1 [.string s3] (by rfl) (by rfl) (World.news_of_block (cs := #[.string s3]) (t := 9) (fr := (0, 0)) ((hgrow5.block (wr.heap.size + 1) (by simp) (by simp [Value.ownBlock])).trans (avj wr _ _))) (by simp [Value.oneCell']) (by omega) h63b hby2 (by have := hgrow5.size; simp at this ⊢; omega) _ rfl ?_); intro g6 cap6 w6 hown6 hgrow6 hat6 hlt6)
       | ((refine step_append_lies _ (by rfl) _ _ _ (by rfl) wr.heap.size 9 j0 _ 1 16 Tryz.underlying37 hi9.out.1 hi9.out.2.1 hi9.out.2.2.1 hi9.out.2.2.2 rfl (by decide) (.slice (some ⟨g5, 0, none⟩) path.length cap5) path.length us (by rfl) (by simpa using hown5) ⟨wr.heap.size, 0, none⟩ 1 1 [.string s3] (by rfl) (by rfl) (World.news_of_block (cs := #[.string s3]) (t := 9) (fr := (0, 0)) ((hgrow5.block wr.heap.size (by simp <;> omega) (by simp [Value.ownBlock])).trans (avk wr _ _))) (by simp [Value.oneCell']) (by omega) h63b hby2 (by have := hgrow5.size; simp at this ⊢; omega) _ rfl ?_); intro g6 cap6 w6 hown6 hgrow6 hat6 hlt6))
     all_goals
      obtain ⟨hB6, hN⟩ := a9c (c := c) (B0 := w.heap.size) (x := u5) hcll.out (fun g e => (am5 HF.out.row g e).2) HF.out.bel.size (by first | exact (Below.refl _ wr).alloc (by simp) _ | exact (Below.refl _ wr.drew).alloc (by simp) _ | exact ((Below.refl _ wr).alloc (by simp) _).drew | exact ((Below.refl _ wr).alloc (Nat.le_refl _) _).alloc (by simp) _ | exact ((Below.refl _ wr).alloc (by simp) _).drew.alloc (by simp) _) (fun k e => by simp [Value.ownBlock] at e; omega) hgrow5 (by first | exact (Below.refl _ w5).alloc (Nat.le_refl _) _ | exact Below.refl _ w5) hge5 hgrow6 hown6
      have hrow5 := am5 HF.out.row
      have hI6 := HF.out.below hB6
      have hrec := Lib.hid (ih.out (szV f.v) (by have := pr hf; omega) w6 (Sx w.heap.size c u5) (path ++ [f.n]) (.slice (some ⟨g6, 0, none⟩) (path.length + 1) cap6) f.v (.slice b3 n3 c3) (Nat.le_refl _) (by simp) (by have := pr hf; rw [List.length_append]; simp; omega) (by rw [← hs3]; exact hN) (avl hV3 hI6.bel fun g e => (hrow5 g e).1))
      have r0 := cg hB6 r0
      have r1 := cg hB6 r1
      have hI6 := Lib.hid hI6
      have hl1 := agy path (v.take i)
      have hl2 := ak7 path (t.fs.take k)
      have hl3 := ak8 (path ++ [f.n]) f.v
      have hl4 := aes ht
      have hl5 := aer hf
      clear hown6 hgrow6 hat6 hlt6 hown5 hgrow5 hat5 hlt5 hge5 hB6 hN hcw hone hul h63 h63b hby1 hby2 HF r0' hrow5
      go_wp2_with fail
      refine hrec.out.mono ?_
      rintro e w7 ⟨x', rfl, hB7, hR7⟩
      have hI7 := hI6.out.below hB7
      have hR7 := bgg hR7 (fun g e => (am5 hI6.out.row g e).2) hI6.out.bel.size
      obtain ⟨bo7, cap7, news, rfl, hcap7, hnone7, hcl7, hc7, hsp7⟩ := qx hR7
      obtain ⟨us5, hown5, hcl5⟩ := hI7.row.ex
      have hpos : 0 < (fk (qb (path ++ [f.n]) f.v)).length := by rw [oq, qb]; exact Nat.zero_lt_succ _
      obtain ⟨ad, rfl⟩ : ∃ ad, bo7 = some ad := by
       cases bo7 with
       | none => have := hnone7 rfl; omega
       | some p => exact ⟨p, rfl⟩
      have hone := hcl7.one
      have hl6 := oq (qb (path ++ [f.n]) f.v)
      have hl7 := oq (⟨path, v⟩ :: (il path (v.take i) ++ kc path (t.fs.take k)))
      rw [List.length_cons, List.length_append] at hl7
      have hmx : (fk (⟨path, v⟩ :: (il path (v.take i) ++ kc path (t.fs.take k)))).length + (fk (qb (path ++ [f.n]) f.v)).length ≤ maxLen := by unfold maxLen; omega
      have hby : ((fk (⟨path, v⟩ :: (il path (v.take i) ++ kc path (t.fs.take k)))).length + (fk (qb (path ++ [f.n]) f.v)).length) * 48 ≤ 140737488355328 := by omega
      have hbs := hI7.bel.size
      have hnw := hc7 ad rfl
      have hnl := hcl7.1
      have hEq : fk (⟨path, v⟩ :: (il path (v.take i) ++ kc path (t.fs.take k))) ++ fk (qb (path ++ [f.n]) f.v) = fk (⟨path, v⟩ :: (il path (v.take i) ++ kc path (t.fs.take (k + 1)))) := by
       rw [a4p path hf, ← a4u]; simp [List.append_assoc]
      replace hI7 := Lib.hid hI7
      replace hcl5 := Lib.hid hcl5
      replace hcl7 := Lib.hid hcl7
      replace hEq := Lib.hid hEq
      clear hR7 hI6 hrec hnone7 hc7 hsp7 hB7 r0 r1 hl1 hl2 hl3 hl6 hl7
      generalize fk (⟨path, v⟩ :: (il path (v.take i) ++ kc path (t.fs.take k))) = L at *
      generalize fk (qb (path ++ [f.n]) f.v) = M at *
      go_wp2_with (at_builtin; refine wpList_append_own_at _ rfl _ _ 57 rfl w.heap.size 62 i0 _ 2 48 Tryz.underlying57 hi62.out.1 hi62.out.2.1 hi62.out.2.2.1 hi62.out.2.2.2 rfl (by decide) u5 L.length us5 rfl hown5 ad M.length cap7 news rfl hnl hnw hone hmx hby hbs ?_; intro v' w8 hown' hgrow hnil hloc)
      have hnx := Lib.hid (show PI w c (some ⟨g, o, none⟩) v.length cap (fk (⟨path, v⟩ :: (il path (v.take i) ++ kc path (t.fs.take (k + 1))))) v' w8 from by
       rw [← hEq.out]; exact hI7.out.app hcl5.out hcl7.out hown' hgrow hloc)
      clear hown' hgrow hnil hloc hown5 hI7 hcl5 hcl7 hEq hnl hnw hone hmx hby hbs hpos hcap7
      go_roundg m2
      case measure => omega
      case rel => exact ⟨k + 1, by omega, by go_num, ⟨hnx.out⟩⟩
    ·obtain rfl : gk = 0 := by omega
     obtain rfl : k = t.fs.length := by omega
     have hnx := Lib.hid (show PI w c (some ⟨g, o, none⟩) v.length cap (fk (⟨path, v⟩ :: il path (v.take (i + 1)))) u5 wr from by
      have := HF.out
      rw [List.take_of_length_le (Nat.le_refl _)] at this
      rw [a4o path ht]; exact this)
     clear HF
     go_wp2_with fail
     go_roundg m1
     case measure => omega
     case rel => exact ⟨i + 1, by omega, by go_num, ⟨hnx.out⟩⟩
  ·obtain rfl : gk = 0 := by omega
   obtain rfl : i = v.length := by omega
   have hI := HM.out
   rw [List.take_of_length_le (Nat.le_refl _)] at hI
   have hrep := Lib.hid hI.row.rep
   have hbel := Lib.hid hI.bel
   clear HM hI
   go_wp2_with fail
   go_ret
   exact ⟨_, rfl, hbel.out, hrep.out⟩
theorem a4v : ∀ n, n ≤ 1073741824 → aos n := by
 intro n
 induction n using Nat.strongRecOn with
 | _ n ih => exact fun hn => a0k n hn fun m hm => ih m hm (by omega)
end Go.Proofs.YtmdimhcjogjcgaaGreatDoor.Qw
namespace Go.Proofs.YtmdimhcjogjcgaaGreatDoor.Abs
open Go.RowKit Go.Proofs.YtmdimhcjogjcgaaGreatDoor.Lat Go.Proofs.YtmdimhcjogjcgaaGreatDoor.Gr Go.Proofs.YtmdimhcjogjcgaaGreatDoor.Th
def Z : Abs.Sys := wj Y3 100 Qw.ah7
theorem upZ {f : Nat} {l : List AV} {v : AV} (h : ah S f l = some v) : ah Z f l = some v := agw Y3 100 Qw.ah7 rfl (agw Y2 107 ajf rfl (agw Y1 195 zw rfl (agw S 78 ado rfl h)))
theorem am7 : agu Tryz.prog Z := ⟨abz.tab, abz.fol, fun f g h l r hr => by
 by_cases hf : f = 100
 ·subst hf
  rw [Z, nk] at h
  cases h
  exact Qw.bcm l r hr
 rw [Z, ky _ _ _ hf] at h
 by_cases hf1 : f = 107
 ·subst hf1
  rw [Y3, nk] at h
  cases h
  exact bgd l r hr
 rw [Y3, ky _ _ _ hf1] at h
 by_cases hf2 : f = 195
 ·subst hf2
  rw [Y2, nk] at h
  cases h
  obtain ⟨t, h1, h2, rfl, rfl⟩ := a0e hr
  exact a83 h1 h2
 rw [Y2, ky _ _ _ hf2] at h
 by_cases hf3 : f = 78
 ·subst hf3
  rw [Y1, nk] at h
  cases h
  obtain ⟨ts, hs, rfl, rfl⟩ := a4i hr
  exact bck hs
 rw [Y1, ky _ _ _ hf3] at h
 exact abz.or f g h l r hr, fun f d h => abz.fn f d h⟩
theorem bcu {ts : List Th} (hs : aop ts) : ah Z 78 [.sl 3 (cy ts)] = some (.bool (og (tds ts))) := by
 rw [rr, ahg Z 78 _ ado (by rw [Z, ky _ _ _ (by decide), Y3, ky _ _ _ (by decide), Y2, ky _ _ _ (by decide), Y1, nk])]; exact a4j hs
theorem a9d {t : Tm} (h1 : szV [t] ≤ 1073741824) (h2 : wtV [t] ≤ 512) : ah Z 195 [.sl 8 [ao t]] = some (.tup [.agg 1 [.sl 8 [ao t]], .int .i64 0]) := by
 rw [rr, ahg Z 195 _ zw (by rw [Z, ky _ _ _ (by decide), Y3, ky _ _ _ (by decide), Y2, nk])]; exact a0f h1 h2
theorem bgk {d : List Bs} {sep : Bs} (h : am2 d sep) : ah Z 107 [.sl 1 (ar d), .str sep] = some (.str (Lib.join d sep)) := by
 rw [rr, ahg Z 107 _ ajf (by rw [Z, ky _ _ _ (by decide), Y3, nk])]
 unfold ajf
 simp only [am1]
 rw [if_pos h]
theorem bcv {s : Bs} (hs : s.length ≤ 1073741824) : ah Z 100 [.str s, .str [46]] = some (.sl 1 (ar (Qw.eu s))) := by
 rw [rr, ahg Z 100 _ Qw.ah7 (by rw [Z, nk])]
 exact if_pos ⟨hs, rfl⟩
def aib (a0 : AV) : Option AV := ah Z 140 [a0]
theorem arb {a0 : AV} {v : AV} (h : wg a0 = some v) : aib a0 = some v := upZ h
def zc (a0 : AV) : Option AV := ah Z 112 [a0]
def zx (a0 : AV) : Option AV := ah Z 113 [a0]
theorem am8 {a0 : AV} {v : AV} (h : vh a0 = some v) : zx a0 = some v := upZ h
def agz (a0 : AV) : Option AV := ah Z 152 [a0]
theorem awh {a0 : AV} {v : AV} (h : qz a0 = some v) : agz a0 = some v := upZ h
def ie (a0 : AV) : Option AV := ah Z 153 [a0]
def xg (a0 : AV) : Option AV := ah Z 84 [a0]
theorem aic {a0 : AV} {v : AV} (h : qj a0 = some v) : xg a0 = some v := upZ h
def aid (a0 : AV) : Option AV := ah Z 195 [a0]
def adt (a0 a1 : AV) : Option AV := ah Z 168 [a0, a1]
theorem arc {a0 a1 : AV} {v : AV} (h : iy a0 a1 = some v) : adt a0 a1 = some v := upZ h
def aie (a0 : AV) : Option AV := ah Z 105 [a0]
theorem ard {a0 : AV} {v : AV} (h : s0 a0 = some v) : aie a0 = some v := upZ h
def xq (a0 : AV) : Option AV := ah Z 68 [a0]
def sq (a0 : AV) : Option AV := ah Z 101 [a0]
theorem ag5 {a0 : AV} {v : AV} (h : yt a0 = some v) : sq a0 = some v := upZ h
def abi (a0 : AV) : Option AV := ah Z 108 [a0]
theorem aot {a0 : AV} {v : AV} (h : jx a0 = some v) : abi a0 = some v := upZ h
def awi (a0 : AV) : Option AV := ah Z 186 [a0]
def zf (a0 : AV) : Option AV := ah Z 183 [a0]
theorem awj {a0 : AV} {v : AV} (h : akd a0 = some v) : zf a0 = some v := upZ h
def xr (a0 : AV) : Option AV := ah Z 29 [a0]
def ck (a0 : AV) : Option AV := ah Z 64 [a0]
def adu (a0 : AV) : Option AV := ah Z 194 [a0]
theorem are {a0 : AV} {v : AV} (h : dz a0 = some v) : adu a0 = some v := upZ h
def xh (a0 : AV) : Option AV := ah Z 106 [a0]
def du (a0 : AV) : Option AV := ah Z 187 [a0]
def oh (a0 : AV) : Option AV := ah Z 185 [a0]
def aa8 (a0 a1 : AV) : Option AV := ah Z 236 [a0, a1]
def eo (a0 : AV) : Option AV := ah Z 188 [a0]
def zg (a0 : AV) : Option AV := ah Z 235 [a0]
theorem ag6 {a0 : AV} {v : AV} (h : y5 a0 = some v) : zg a0 = some v := upZ h
def mc (a0 : AV) : Option AV := ah Z 141 [a0]
def o9 (a0 a1 : AV) : Option AV := ah Z 114 [a0, a1]
theorem abj {a0 a1 : AV} {v : AV} (h : lu a0 a1 = some v) : o9 a0 a1 = some v := upZ h
def iz (a0 : AV) : Option AV := ah Z 33 [a0]
def vx (a0 : AV) : Option AV := ah Z 77 [a0]
def ag7 (a0 : AV) : Option AV := ah Z 78 [a0]
def pj (a0 a1 : AV) : Option AV := ah Z 107 [a0, a1]
def aet (a0 a1 : AV) : Option AV := ah Z 100 [a0, a1]
def abk (a0 : AV) : Option AV := ah Z 184 [a0]
theorem aou {a0 : AV} {v : AV} (h : gy a0 = some v) : abk a0 = some v := upZ h
theorem zc.ae (c1 : List AV) : zc (.agg 1 c1) = ((xg (.agg 1 c1)).bind fun r2 => asB r2 fun b3 => ifB (!b3) (some (.tup [.agg 8 [.int .i64 0, .int .i64 0, .int .i64 0, .str [], .bool false, .bool false, .bool false, .sl 2 []], .int .i64 1])) ((agz (.agg 1 c1)).bind fun r4 => ja r4 fun a5 a6 => asC 8 a5 fun c7 => asI .i64 a6 fun n8 => (ifB (decide (n8 = 0)) (aa c7 0 fun a10 => asI .i64 a10 fun n11 => some (decide (n11 = 4))) (some false) : Option Bool).bind fun b9 => ifB b9 ((ie (.sl 8 [c7])).bind fun r12 => ja r12 fun a13 a14 => asC 1 a13 fun c15 => asI .i64 a14 fun n16 => aa c15 0 fun a17 => asL 8 a17 fun l18 => idx l18 0 fun c19 => some (.tup [.agg 8 c19, .int .i64 n8])) (some (.tup [.agg 8 c7, .int .i64 n8])))) := (af Z 112 _ d112 rfl bjn).trans (by kernel_rfl)
def ie.l0 (a0 a2 a4 a13 a14 a15 : AV) : Option AV := bn Z 153 d153 [1, 1, 1, 0, 1, 0] (look [(0, a0), (2, a2), (4, a4), (13, a13), (14, a14), (15, a15)])
def ie.l1 (a0 a2 a4 a13 a14 a15 a30 a31 a32 : AV) : Option AV := bn Z 153 d153 [1, 1, 1, 0, 1, 0, 0, 1, 1, 0, 0, 1, 1, 1, 1, 0] (look [(0, a0), (2, a2), (4, a4), (13, a13), (14, a14), (15, a15), (30, a30), (31, a31), (32, a32)])
theorem ie.ae (l1 : LL) : ie (.sl 8 l1) = (ifB (decide ((512 : Int) < (l1.length : Int))) (some (.tup [.agg 1 [.sl 8 []], .int .i64 1])) (ie.l0 (.sl 8 l1) (.boxv 1 [.sl 8 []] [(0, .own 8 [])]) (.int .i64 1) (.sl 8 l1) (.int .i64 (l1.length : Int)) (.int .i64 0))) := (af Z 153 _ d153 rfl bkb).trans (by kernel_rfl)
theorem ie.ai (l1 l2 l3 : LL) (n4 : Int) (l5 : LL) (n6 n7 : Int) : ie.l0 (.sl 8 l1) (.boxv 1 [.sl 8 l2] [(0, .own 8 l3)]) (.int .i64 n4) (.sl 8 l5) (.int .i64 n6) (.int .i64 n7) = (ifB (decide (n7 < n6)) (idx l5 n7 fun c8 => (adt (.agg 8 c8) (.int .i64 17)).bind fun r9 => asB r9 fun b10 => ifB (!b10) (some (.tup [.agg 1 [.sl 8 []], .int .i64 1])) ((adu (.agg 1 [.sl 8 [c8]])).bind fun r11 => asI .i64 r11 fun n12 => aa c8 7 fun a13 => asL 2 a13 fun l14 => ie.l1 (.sl 8 l1) (.boxv 1 [.sl 8 l2] [(0, .own 8 l3)]) (.int .i64 (max (n4 : Int) n12)) (.sl 8 l5) (.int .i64 n6) (.int .i64 n7) (.sl 2 l14) (.int .i64 (l14.length : Int)) (.int .i64 0))) (ifB (decide ((16 : Int) < n4)) (some (.tup [.agg 1 [.sl 8 []], .int .i64 22])) ((aid (.sl 8 l1)).bind fun r15 => ja r15 fun a16 a17 => asC 1 a16 fun c18 => asI .i64 a17 fun n19 => some (.tup [.agg 1 c18, .int .i64 n19])))) := (ak ..).trans (by kernel_rfl)
theorem ie.en (l1 l2 l3 : LL) (n4 : Int) (l5 : LL) (n6 n7 : Int) (l8 : LL) (n9 n10 : Int) : ie.l1 (.sl 8 l1) (.boxv 1 [.sl 8 l2] [(0, .own 8 l3)]) (.int .i64 n4) (.sl 8 l5) (.int .i64 n6) (.int .i64 n7) (.sl 2 l8) (.int .i64 n9) (.int .i64 n10) = (ifB (decide (n10 < n9)) (idx l8 n10 fun c11 => aa c11 1 fun a12 => (xg (.agg 1 [(frz a12)])).bind fun r13 => asB r13 fun b14 => ifB (!b14) (some (.tup [.agg 1 [.sl 8 []], .int .i64 1])) (ie.l1 (.sl 8 l1) (.boxv 1 [.sl 8 l2] [(0, .own 8 l3)]) (.int .i64 n4) (.sl 8 l5) (.int .i64 n6) (.int .i64 n7) (.sl 2 l8) (.int .i64 n9) (.int .i64 (w64 (n10 + 1))))) (ie.l0 (.sl 8 l1) (.boxv 1 [.sl 8 l2] [(0, .own 8 l3)]) (.int .i64 n4) (.sl 8 l5) (.int .i64 n6) (.int .i64 (w64 (n7 + 1))))) := (ak ..).trans (by kernel_rfl)
theorem xh.ae (c1 : List AV) : xh (.agg 7 c1) = ((aib (.agg 7 c1)).bind fun r2 => asI .i64 r2 fun n3 => ifB (!decide (n3 = 0)) (some (.tup [.str [], .int .i64 n3])) ((mc (.agg 7 c1)).bind fun r4 => asS r4 fun s5 => some (.tup [.str s5, .int .i64 0]))) := (af Z 106 _ d106 rfl bjj).trans (by kernel_rfl)
def du.l0 (a1 a3 a7 a8 a9 : AV) : Option AV := bn Z 187 d187 [1, 1, 0, 1, 0] (look [(1, a1), (3, a3), (7, a7), (8, a8), (9, a9)])
def du.j1 (a3 : AV) : Option AV := kf Z 187 d187 [1, 1, 1] (look [(3, a3)])
theorem du.ae (c1 : List AV) : du (.agg 7 c1) = (aa c1 4 fun a2 => asL 8 a2 fun l3 => du.l0 (.boxv 7 c1 []) (.own 1 []) (.sl 8 l3) (.int .i64 (l3.length : Int)) (.int .i64 0)) := (af Z 187 _ d187 rfl bkt).trans (by kernel_rfl)
theorem du.ai (c1 : List AV) (l2 l3 : LL) (n4 n5 : Int) : du.l0 (.boxv 7 c1 []) (.own 1 l2) (.sl 8 l3) (.int .i64 n4) (.int .i64 n5) = (ifB (decide (n5 < n4)) (idx l3 n5 fun c6 => aa c6 0 fun a7 => asS a7 fun s8 => aa c6 1 fun a9 => aa c6 2 fun a10 => aa c6 3 fun a11 => aa c6 4 fun a12 => aa c6 5 fun a13 => aa c6 6 fun a14 => aa c6 7 fun a15 => (mc (.agg 7 [(frz a9), (frz a10), (frz a11), (frz a12), (frz a13), (frz a14), (frz a15)])).bind fun r16 => asS r16 fun s17 => (oh (.sl 1 ([[.str s8], [.str [58, 32]], [.str s17], [.str [59]]]))).bind fun r18 => asS r18 fun s19 => aq (Nat.ble (List.length l2 + List.length ([[AV.str s19]])) lim) <| du.l0 (.boxv 7 c1 []) (.own 1 (l2 ++ ([[.str s19]]))) (.sl 8 l3) (.int .i64 n4) (.int .i64 (w64 (n5 + 1)))) (aa c1 5 fun a20 => asB a20 fun b21 => ifB b21 (aq (Nat.ble (List.length l2 + List.length ([[AV.str [46, 46, 46]]])) lim) <| du.j1 (.own 1 (l2 ++ ([[.str [46, 46, 46]]])))) (du.j1 (.own 1 l2)))) := (ak ..).trans (by kernel_rfl)
theorem du.mf (l1 : LL) : du.j1 (.own 1 l1) = ((pj (.sl 1 l1) (.str [32])).bind fun r2 => asS r2 fun s3 => (oh (.sl 1 ([[.str [123]], [.str s3], [.str [125]]]))).bind fun r4 => asS r4 fun s5 => some (.str s5)) := (dv ..).trans (by kernel_rfl)
theorem oh.ae (l1 : LL) : oh (.sl 1 l1) = ((pj (.sl 1 l1) (.str [])).bind fun r2 => asS r2 fun s3 => some (.str s3)) := (af Z 185 _ d185 rfl bks).trans (by kernel_rfl)
theorem aa8.ae (c1 : List AV) (n2 : Int) : aa8 (.agg 7 c1) (.int .i64 n2) = ((zg (.agg 7 c1)).bind fun r3 => asI .i64 r3 fun n4 => ifB (decide (n4 < n2)) ((mc (.agg 7 c1)).bind fun r5 => asS r5 fun s6 => (oh (.sl 1 ([[.str [40]], [.str s6], [.str [41]]]))).bind fun r7 => asS r7 fun s8 => some (.str s8)) ((mc (.agg 7 c1)).bind fun r9 => asS r9 fun s10 => some (.str s10))) := (af Z 236 _ d236 rfl bls).trans (by kernel_rfl)
def eo.l0 (a1 a3 a8 a9 a10 : AV) : Option AV := bn Z 188 d188 [1, 1, 0, 1, 0] (look [(1, a1), (3, a3), (8, a8), (9, a9), (10, a10)])
def eo.j1 (a1 a3 a5 a6 a8 a9 a10 : AV) : Option AV := kf Z 188 d188 [1, 1, 0, 1, 0, 0, 1, 1, 0, 0, 1, 1] (look [(1, a1), (3, a3), (5, a5), (6, a6), (8, a8), (9, a9), (10, a10)])
theorem eo.ae (c1 : List AV) : eo (.agg 7 c1) = (aa c1 6 fun a2 => asL 7 a2 fun l3 => eo.l0 (.boxv 7 c1 []) (.own 1 []) (.sl 7 l3) (.int .i64 (l3.length : Int)) (.int .i64 0)) := (af Z 188 _ d188 rfl bku).trans (by kernel_rfl)
theorem eo.ai (c1 : List AV) (l2 l3 : LL) (n4 n5 : Int) : eo.l0 (.boxv 7 c1 []) (.own 1 l2) (.sl 7 l3) (.int .i64 n4) (.int .i64 n5) = (ifB (decide (n5 < n4)) (idx l3 n5 fun c6 => (zg (.agg 7 c1)).bind fun r7 => asI .i64 r7 fun n8 => (ifB (decide (n5 = 0)) (aa c1 0 fun a10 => asI .i64 a10 fun n11 => some (!decide (n11 = 12))) (some false) : Option Bool).bind fun b9 => (ifB b9 (aa c1 0 fun a13 => asI .i64 a13 fun n14 => some (!decide (n14 = 11))) (some false) : Option Bool).bind fun b12 => ifB b12 (eo.j1 (.boxv 7 c1 []) (.own 1 l2) (.boxv 7 c6 []) (.int .i64 (w64 ((w64 (n8 + 1)) - 1))) (.sl 7 l3) (.int .i64 n4) (.int .i64 n5)) (eo.j1 (.boxv 7 c1 []) (.own 1 l2) (.boxv 7 c6 []) (.int .i64 (w64 (n8 + 1))) (.sl 7 l3) (.int .i64 n4) (.int .i64 n5))) (aa c1 0 fun a15 => asI .i64 a15 fun n16 => idx afd n16 fun a17 => asS a17 fun s18 => (pj (.sl 1 l2) (.str s18)).bind fun r19 => asS r19 fun s20 => some (.str s20))) := (ak ..).trans (by kernel_rfl)
theorem eo.mf (c1 : List AV) (l2 : LL) (c3 : List AV) (n4 : Int) (l5 : LL) (n6 n7 : Int) : eo.j1 (.boxv 7 c1 []) (.own 1 l2) (.boxv 7 c3 []) (.int .i64 n4) (.sl 7 l5) (.int .i64 n6) (.int .i64 n7) = ((aa8 (.agg 7 c3) (.int .i64 n4)).bind fun r8 => asS r8 fun s9 => aq (Nat.ble (List.length l2 + List.length ([[AV.str s9]])) lim) <| eo.l0 (.boxv 7 c1 []) (.own 1 (l2 ++ ([[.str s9]]))) (.sl 7 l5) (.int .i64 n6) (.int .i64 (w64 (n7 + 1)))) := (dv ..).trans (by kernel_rfl)
theorem mc.ae (c1 : List AV) : mc (.agg 7 c1) = (aa c1 0 fun a2 => asI .i64 a2 fun n3 => ifB (decide (n3 = 1)) (aa c1 1 fun a4 => asI .i64 a4 fun n5 => (zf (.int .i64 n5)).bind fun r6 => asS r6 fun s7 => some (.str s7)) (ifB (decide (n3 = 2)) (aa c1 2 fun a8 => asS a8 fun s9 => (abk (.str s9)).bind fun r10 => asS r10 fun s11 => some (.str s11)) (ifB (decide (n3 = 3)) (aa c1 1 fun a12 => asI .i64 a12 fun n13 => ifB (decide (n13 = 1)) (some (.str [116, 114, 117, 101])) (some (.str [102, 97, 108, 115, 101]))) (ifB (decide (n3 = 4)) (aa c1 1 fun a14 => asI .i64 a14 fun n15 => idx al0 n15 fun a16 => asS a16 fun s17 => some (.str s17)) (ifB (decide (n3 = 5)) (some (.str [110, 111, 110, 101])) (ifB (decide (n3 = 6)) (some (.str [99, 111, 109, 112, 117, 116, 101, 100])) (ifB (decide (n3 = 7)) (aa c1 1 fun a18 => asI .i64 a18 fun n19 => (zf (.int .i64 n19)).bind fun r20 => asS r20 fun s21 => (oh (.sl 1 ([[.str [62, 61]], [.str s21]]))).bind fun r22 => asS r22 fun s23 => some (.str s23)) (ifB (decide (n3 = 8)) (aa c1 1 fun a24 => asI .i64 a24 fun n25 => (zf (.int .i64 n25)).bind fun r26 => asS r26 fun s27 => (oh (.sl 1 ([[.str [60, 61]], [.str s27]]))).bind fun r28 => asS r28 fun s29 => some (.str s29)) (ifB (decide (n3 = 9)) (aa c1 3 fun a30 => asL 1 a30 fun l31 => (awi (.sl 1 l31)).bind fun r32 => ja r32 fun a33 a34 => asS a33 fun s35 => asB a34 fun b36 => some (.str s35)) (ifB (decide (n3 = 10)) ((du (.agg 7 c1)).bind fun r37 => asS r37 fun s38 => some (.str s38)) ((eo (.agg 7 c1)).bind fun r39 => asS r39 fun s40 => some (.str s40)))))))))))) := (af Z 141 _ d141 rfl bj2).trans (by kernel_rfl)
theorem xq.ae (c1 : List AV) : xq (.agg 1 c1) = ((aie (.agg 1 c1)).bind fun r2 => ja r2 fun a3 a4 => asC 7 a3 fun c5 => asI .i64 a4 fun n6 => ifB (!decide (n6 = 0)) (some (.tup [.str [], .int .i64 n6])) ((xh (.agg 7 c5)).bind fun r7 => ja r7 fun a8 a9 => asS a8 fun s10 => asI .i64 a9 fun n11 => some (.tup [.str s10, .int .i64 n11]))) := (af Z 68 _ d68 rfl h68).trans (by kernel_rfl)
def iz.l0 (a0 a8 a9 a10 : AV) : Option AV := bn Z 33 d33 [1, 1, 0, 1, 0] (look [(0, a0), (8, a8), (9, a9), (10, a10)])
theorem iz.ae (l1 : LL) : iz (.sl 3 l1) = (ifB (decide ((256 : Int) < (l1.length : Int))) (some (.bool false)) (iz.l0 (.sl 3 l1) (.sl 3 l1) (.int .i64 (l1.length : Int)) (.int .i64 0))) := (af Z 33 _ d33 rfl h33).trans (by kernel_rfl)
theorem iz.ai (l1 l2 : LL) (n3 n4 : Int) : iz.l0 (.sl 3 l1) (.sl 3 l2) (.int .i64 n3) (.int .i64 n4) = (ifB (decide (n4 < n3)) (idx l2 n4 fun c5 => (vx (.agg 3 c5)).bind fun r6 => asB r6 fun b7 => (ifB (!b7) (some true) ((ifB (decide ((0 : Int) < n4)) (aa c5 0 fun a10 => asS a10 fun s11 => idx l1 (w64 (n4 - 1)) fun c12 => aa c12 0 fun a13 => asS a13 fun s14 => some (aw s11 s14 || decide (s11 = s14))) (some false) : Option Bool).bind fun b9 => some b9) : Option Bool).bind fun b8 => ifB b8 (some (.bool false)) (iz.l0 (.sl 3 l1) (.sl 3 l2) (.int .i64 n3) (.int .i64 (w64 (n4 + 1))))) ((ag7 (.sl 3 l1)).bind fun r15 => asB r15 fun b16 => some (.bool (!b16)))) := (ak ..).trans (by kernel_rfl)
theorem vx.ae (c1 : List AV) : vx (.agg 3 c1) = (aa c1 1 fun a2 => (zc (.agg 1 [(frz a2)])).bind fun r3 => ja r3 fun a4 a5 => asC 8 a4 fun c6 => asI .i64 a5 fun n7 => aa c1 0 fun a8 => asS a8 fun s9 => (sq (.str s9)).bind fun r10 => asB r10 fun b11 => (ifB b11 (some (decide (n7 = 0))) (some false) : Option Bool).bind fun b12 => (ifB b12 (aa c6 0 fun a14 => asI .i64 a14 fun n15 => some (decide (n15 = 4))) (some false) : Option Bool).bind fun b13 => (ifB b13 (aa c1 1 fun a17 => (zx (.agg 1 [(frz a17)])).bind fun r18 => asB r18 fun b19 => some b19) (some false) : Option Bool).bind fun b16 => (ifB b16 (aa c1 2 fun a21 => asL 1 a21 fun l22 => (abi (.sl 1 l22)).bind fun r23 => asB r23 fun b24 => some b24) (some false) : Option Bool).bind fun b20 => (ifB b20 (aa c1 2 fun a26 => asL 1 a26 fun l27 => aa c1 0 fun a28 => asS a28 fun s29 => (o9 (.sl 1 l27) (.str s29)).bind fun r30 => asB r30 fun b31 => some (!b31)) (some false) : Option Bool).bind fun b25 => some (.bool b25)) := (af Z 77 _ d77 rfl h77).trans (by kernel_rfl)
def ck.j0 (a2 a3 : AV) : Option AV := kf Z 64 d64 [1, 1, 1, 1] (look [(2, a2), (3, a3)])
def ck.l1 (a2 a3 a31 a32 a33 : AV) : Option AV := bn Z 64 d64 [1, 1, 1, 1, 1, 0, 1, 0] (look [(2, a2), (3, a3), (31, a31), (32, a32), (33, a33)])
theorem ck.ae (s1 : B8) : ck (.str s1) = (ifB (decide ((272 : Int) < (s1.length : Int))) (some (.tup [.own 1 [], .bool false, .bool false])) ((aet (.str s1) (.str [46])).bind fun r2 => asL 1 r2 fun l3 => ifB (decide ((16 : Int) < (l3.length : Int))) (some (.tup [.own 1 [], .bool false, .bool false])) ((ifB (decide ((0 : Int) < (w64 ((l3.length : Int) - 1)))) (idx l3 (w64 ((l3.length : Int) - 1)) fun c5 => aa c5 0 fun a6 => asS a6 fun s7 => some (decide (s7 = [42, 42]))) (some false) : Option Bool).bind fun b4 => ifB b4 (aim l3 (w64 ((l3.length : Int) - 1)) fun l8 => ck.j0 (.sl 1 l8) (.bool true)) (ck.j0 (.sl 1 l3) (.bool false))))) := (af Z 64 _ d64 rfl h64).trans (by kernel_rfl)
theorem ck.wh (l1 : LL) : ck.j0 (.sl 1 l1) (.bool true) = (ck.l1 (.sl 1 l1) (.bool true) (.sl 1 l1) (.int .i64 (l1.length : Int)) (.int .i64 0)) := (dv ..).trans (by kernel_rfl)
theorem ck.aho (l1 : LL) : ck.j0 (.sl 1 l1) (.bool false) = (ck.l1 (.sl 1 l1) (.bool false) (.sl 1 l1) (.int .i64 (l1.length : Int)) (.int .i64 0)) := (dv ..).trans (by kernel_rfl)
theorem ck.en (l1 l2 : LL) (n3 n4 : Int) : ck.l1 (.sl 1 l1) (.bool true) (.sl 1 l2) (.int .i64 n3) (.int .i64 n4) = (ifB (decide (n4 < n3)) (idx l2 n4 fun c5 => aa c5 0 fun a6 => asS a6 fun s7 => (ifB (!decide (s7 = [42])) ((sq (.str s7)).bind fun r9 => asB r9 fun b10 => some (!b10)) (some false) : Option Bool).bind fun b8 => ifB b8 (some (.tup [.own 1 [], .bool false, .bool false])) (ck.l1 (.sl 1 l1) (.bool true) (.sl 1 l2) (.int .i64 n3) (.int .i64 (w64 (n4 + 1))))) (some (.tup [.sl 1 l1, .bool true, .bool true]))) := (ak ..).trans (by kernel_rfl)
theorem ck.ac2 (l1 l2 : LL) (n3 n4 : Int) : ck.l1 (.sl 1 l1) (.bool false) (.sl 1 l2) (.int .i64 n3) (.int .i64 n4) = (ifB (decide (n4 < n3)) (idx l2 n4 fun c5 => aa c5 0 fun a6 => asS a6 fun s7 => (ifB (!decide (s7 = [42])) ((sq (.str s7)).bind fun r9 => asB r9 fun b10 => some (!b10)) (some false) : Option Bool).bind fun b8 => ifB b8 (some (.tup [.own 1 [], .bool false, .bool false])) (ck.l1 (.sl 1 l1) (.bool false) (.sl 1 l2) (.int .i64 n3) (.int .i64 (w64 (n4 + 1))))) (some (.tup [.sl 1 l1, .bool false, .bool true]))) := (ak ..).trans (by kernel_rfl)
theorem xr.ae (s1 : B8) : xr (.str s1) = ((ck (.str s1)).bind fun r2 => aj6 r2 fun a3 a4 a5 => asL 1 a3 fun l6 => asB a4 fun b7 => asB a5 fun b8 => some (.bool b8)) := (af Z 29 _ d29 rfl h29).trans (by kernel_rfl)
end Go.Proofs.YtmdimhcjogjcgaaGreatDoor.Abs
