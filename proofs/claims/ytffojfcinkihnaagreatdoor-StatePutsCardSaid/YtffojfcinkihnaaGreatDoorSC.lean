/- Several texts of mine in one (merge.py). -/
import Derived.Test.YtffojfcinkihnaaGreatDoorSB
import Derived.Test.YtffojfcinkihnaaGreatDoorPu
import Derived.Test.YtffojfcinkihnaaGreatDoorEB
import Derived.Test.YtffojfcinkihnaaGreatDoorLV
import Derived.Deep.RegionHeld3
set_option linter.unusedVariables false
set_option linter.unusedSimpArgs false
set_option linter.unusedSectionVars false
set_option linter.deprecated false
set_option linter.unnecessarySimpa false
/- treillagelaw30.spoil: the things' own blocks alone are written. -/
namespace Go.Proofs.YtffojfcinkihnaaGreatDoor.Th
open Go.RowKit Go.Lib Go.Proofs.YtffojfcinkihnaaGreatDoor.Abs Go.Proofs.YtffojfcinkihnaaGreatDoor.Lat Go.Proofs.YtffojfcinkihnaaGreatDoor.Lat.Cp Go.Proofs.YtffojfcinkihnaaGreatDoor.Gr
set_option linter.unusedVariables false
/-- A row of things, with its footprint. -/
structure TOf (w : World) (B : Nat) (v : Value) (l : List Th) (F : List Nat) : Prop where
  ex : ∃ (xs : List Value) (fps : List (List Nat)), w.ownsRow B 28 3 v l.length xs ∧ fps.length = l.length ∧ F = own1 v ++ fps.flatten ∧ F.Nodup ∧ ∀ i t fp, l[i]? = some t → fps[i]? = some fp → El w B xs (i * 3) t fp
theorem TO.fp {w : World} {B : Nat} {v : Value} {l : List Th} (h : TO w B v l) : ∃ F, TOf w B v l F := by
  obtain ⟨xs, fps, h1, h2, h3, h4⟩ := h.ex
  exact ⟨_, xs, fps, h1, h2, rfl, h3, h4⟩
theorem TOf.to {w : World} {B : Nat} {v : Value} {l : List Th} {F : List Nat} (h : TOf w B v l F) : TO w B v l := by
  obtain ⟨xs, fps, h1, h2, rfl, h3, h4⟩ := h.ex
  exact ⟨xs, fps, h1, h2, h3, h4⟩
theorem TOf.bd {w : World} {B : Nat} {v : Value} {l : List Th} {F : List Nat} (h : TOf w B v l F) : ∀ b ∈ F, B ≤ b ∧ b < w.heap.size := fun b hb => by
  have hblk := to_blk h.to
  obtain ⟨xs, fps, h1, h2, rfl, h3, h4⟩ := h.ex
  rcases List.mem_append.1 hb with hb | hb
  · exact hblk b (mem_own1.1 hb)
  · obtain ⟨f, hf, hb⟩ := List.mem_flatten.1 hb
    obtain ⟨q, hq, e⟩ := List.mem_iff_getElem.1 hf
    exact (h4 q _ f (List.getElem?_eq_getElem (by omega)) (by rw [List.getElem?_eq_getElem hq, e])).bd b hb
theorem TOf.frame {w w' : World} {B : Nat} {v : Value} {l : List Th} {F : List Nat} (h : TOf w B v l F) (hf : ∀ b ∈ F, w'.heap[b]? = w.heap[b]?) : TOf w' B v l F := by
  obtain ⟨xs, fps, h1, h2, rfl, h3, h4⟩ := h.ex
  refine ⟨xs, fps, ?_, h2, rfl, h3, fun i t fp hi hfp => (h4 i t fp hi hfp).frame (fun b hb => hf b (List.mem_append.2 (.inr (List.mem_flatten.2 ⟨fp, List.mem_of_getElem? hfp, hb⟩)))) fun j hj => rfl⟩
  obtain ⟨e1, e2 | ⟨g, cap, cur, e, e4, e5, e6⟩⟩ := h1
  · exact ⟨e1, .inl e2⟩
  · refine ⟨e1, .inr ⟨g, cap, cur, e, e4, (hf g ?_).trans e5, e6⟩⟩
    subst e
    simp [own1, Value.ownBlock]
/-- What lies outside F is as it was. -/
structure Lo (F : List Nat) (w W : World) : Prop where
  os : W.os = w.os
  tape : W.tape = w.tape
  output : W.output = w.output
  size : w.heap.size ≤ W.heap.size
  low : ∀ k, k < w.heap.size → k ∉ F → W.heap[k]? = w.heap[k]?
theorem Lo.refl (F : List Nat) (w : World) : Lo F w w := ⟨rfl, rfl, rfl, Nat.le_refl _, fun _ _ _ => rfl⟩
theorem Lo.put {F : List Nat} {w W : World} (h : Lo F w W) {g i : Nat} (hg : g ∈ F) (u : Value) : Lo F w (W.setCell ⟨g, i, none⟩ u) :=
  ⟨h.os, h.tape, h.output, by simpa using h.size, fun k hk hn => (Below.heap_setCell W _ u k (by show k ≠ g; exact fun e => hn (by rw [e]; exact hg))).trans (h.low k hk hn)⟩
theorem Lo.kp {F : List Nat} {w W W' : World} {fp : List Nat} (h : Lo F w W) (k : Sp.Kp fp W W') (hf : ∀ b ∈ fp, b ∈ F) : Lo F w W' :=
  ⟨k.os.trans h.os, k.tape.trans h.tape, k.output.trans h.output, Nat.le_trans h.size k.size, fun q hq hn => (k.block q (by have := h.size; omega) fun c => hn (hf q c)).trans (h.low q hq hn)⟩
/-- From the i-th thing on the row is as it was. -/
structure SI (F : List Nat) (w : World) (B g cap : Nat) (l : List Th) (fps : List (List Nat)) (i : Nat) (W : World) : Prop where
  lo : Lo F w W
  ex : ∃ cur, W.heap[g]? = some (.cells cur 28 (0, 0)) ∧ cur.size = cap * 3 ∧ ∀ j t fp, i ≤ j → l[j]? = some t → fps[j]? = some fp → El W B cur.toList (j * 3) t fp
theorem fps_dis {fps : List (List Nat)} (h : fps.flatten.Nodup) {i j : Nat} {a b : List Nat} (hi : fps[i]? = some a) (hj : fps[j]? = some b) (hne : i ≠ j) : ∀ x ∈ a, x ∉ b := by
  induction fps generalizing i j with
  | nil => simp at hi
  | cons f r ih =>
    rw [List.flatten_cons, List.nodup_append] at h
    cases i with
    | zero =>
      cases hi
      cases j with
      | zero => exact absurd rfl hne
      | succ j => exact fun x hx hb => h.2.2 x hx x (List.mem_flatten.2 ⟨b, List.mem_of_getElem? (by simpa using hj), hb⟩) rfl
    | succ i =>
      cases j with
      | zero => cases hj; exact fun x hx hb => h.2.2 x hb x (List.mem_flatten.2 ⟨a, List.mem_of_getElem? (by simpa using hi), hx⟩) rfl
      | succ j => exact ih h.2.1 (by simpa using hi) (by simpa using hj) (by omega)
theorem SI.next {F : List Nat} {w W W' : World} {B g cap : Nat} {l : List Th} {fps : List (List Nat)} {i : Nat} {fp : List Nat} {cur' : Array Value} (h : SI F w B g cap l fps i W) (hnd : (g :: fps.flatten).Nodup) (hfi : fps[i]? = some fp) (hlo : Lo F w W')
    (hblk : ∀ q, q < W.heap.size → q ∉ fp → q ≠ g → W'.heap[q]? = W.heap[q]?) (hg : W'.heap[g]? = some (.cells cur' 28 (0, 0))) (hs : cur'.size = cap * 3) (hc : ∀ cur, W.heap[g]? = some (.cells cur 28 (0, 0)) → ∀ k, i * 3 + 3 ≤ k → cur'[k]? = cur[k]?) : SI F w B g cap l fps (i + 1) W' := by
  obtain ⟨cur, h1, h2, h3⟩ := h.ex
  refine ⟨hlo, cur', hg, hs, fun j t f hj ht hf => ?_⟩
  have hE := h3 j t f (by omega) ht hf
  have hn := List.nodup_cons.1 hnd
  refine hE.frame (fun b hb => hblk b (hE.bd b hb).2 (fps_dis hn.2 hf hfi (by omega) b hb) fun e => hn.1 (by rw [← e]; exact List.mem_flatten.2 ⟨f, List.mem_of_getElem? hf, hb⟩)) fun q hq => ?_
  rw [Array.getElem?_toList, Array.getElem?_toList, hc cur h1 _ (by omega)]
/-- Texts, spoilt one by one. -/
structure DI (w2 : World) (gd n : Nat) (W : World) : Prop where
  os : W.os = w2.os
  tape : W.tape = w2.tape
  output : W.output = w2.output
  size : W.heap.size = w2.heap.size
  oth : ∀ q, q ≠ gd → W.heap[q]? = w2.heap[q]?
  ex : ∃ cur, W.heap[gd]? = some (.cells cur 9 (0, 0)) ∧ n ≤ cur.size
theorem DI.put {w2 W : World} {gd n k : Nat} (h : DI w2 gd n W) (u : Value) : DI w2 gd n (W.setCell ⟨gd, k, none⟩ u) := by
  obtain ⟨cur, h1, h2⟩ := h.ex
  exact ⟨h.os, h.tape, h.output, by simpa using h.size, fun q hq => (Below.heap_setCell W _ u q hq).trans (h.oth q hq), _, heap_setCell_same W gd k cur 9 u h1, by simpa using h2⟩
set_option maxHeartbeats 4000000 in
set_option maxRecDepth 100000 in
theorem spoil30_any (w : World) (B : Nat) (v : Value) (l : List Th) (F : List Nat) (h : TOf w B v l F) (hok : TsOK l) : Calls Tryz.prog 16 #[v] w fun e w' => e = .returned (.tuple #[]) ∧ Lo F w w' := by
  obtain ⟨xs, fps, ⟨h1, ⟨rfl, h2⟩ | ⟨g, cap, cur0, rfl, h4, h5, h6, h7, h8, h9⟩⟩, hfl, hF, hnd, hE⟩ := h.ex
  · have hlo := Lib.hid (Lo.refl F w)
    clear h hE hnd
    go_enter Tryz.func16, Tryz.ntmps16
    go_wp2_with fail
    go_loopg [2] 0 (fun gk v2 W => v2 = .int .i64 0 ∧ W = w)
    case atStart => exact ⟨rfl, rfl⟩
    case round =>
      obtain ⟨rfl, rfl⟩ := hrel
      go_wp2_with fail
      go_end0
      exact ⟨rfl, hlo.out⟩
  · replace hF : F = g :: fps.flatten := by rw [hF]; simp [own1, Value.ownBlock]
    have hnd : (g :: fps.flatten).Nodup := by rw [← hF]; exact hnd
    have hgF : g ∈ F := by rw [hF]; exact List.mem_cons_self ..
    have hFf : ∀ f ∈ fps, ∀ q ∈ f, q ∈ F := fun f hf q hq => by rw [hF]; exact List.mem_cons_of_mem _ (List.mem_flatten.2 ⟨f, hf, hq⟩)
    replace hFf := Lib.hid hFf
    clear hF
    have hl := hok.1
    have hS0 : SI F w B g cap l fps 0 w := ⟨Lo.refl _ _, cur0, h5, h8, fun j t fp _ ht hf => (hE j t fp ht hf).frame (fun _ _ => rfl) fun q hq => by
      obtain ⟨s, b1, n1, c1, b2, n2, c2, e0, e1, e2, _⟩ := hE j t fp ht hf
      have hj := (List.getElem?_eq_some_iff.1 ht).1
      rw [← h9, List.getElem?_take, if_pos (by omega)]⟩
    replace hS0 := Lib.hid hS0
    replace hok := Lib.hid hok
    clear h hE h1 h5 h9
    go_enter Tryz.func16, Tryz.ntmps16
    go_wp2_with fail
    go_loopg [2] l.length (fun gk v2 W => ∃ i : Nat, i + gk = l.length ∧ v2 = .int .i64 i ∧ Gr.Ax (SI F w B g cap l fps i W))
    case atStart => exact ⟨0, by omega, rfl, ⟨hS0.out⟩⟩
    case round =>
      clear hS0
      obtain ⟨i, hig, rfl, HM⟩ := hrel
      by_cases hil : i < l.length
      · obtain ⟨g1, rfl⟩ : ∃ j, gk = j + 1 := ⟨gk - 1, by omega⟩
        obtain ⟨t, hk⟩ : ∃ x, l[i]? = some x := ⟨l[i], List.getElem?_eq_getElem hil⟩
        obtain ⟨fp, hf⟩ : ∃ x, fps[i]? = some x := ⟨_, List.getElem?_eq_getElem (by omega)⟩
        obtain ⟨cur, k1, k2, k3⟩ := HM.out.ex
        obtain ⟨s, b1, n1, c1, b2, n2, c2, e0, e1, e2, hT⟩ := k3 i t fp (Nat.le_refl _) hk hf
        simp only [Array.getElem?_toList] at e0 e1 e2
        have q0 : wr.cell? ⟨g, i * 3, none⟩ = some (.string s) := by rw [cell_of k1]; exact e0
        have z0 := frozen_of_row wr g (i * 3) _ _ k1
        have m1 := heap_setCell_same wr g (i * 3) cur 28 (.string ⟨#[115, 112, 111, 105, 108, 116]⟩) k1
        have q1 : (wr.setCell ⟨g, i * 3, none⟩ (.string ⟨#[115, 112, 111, 105, 108, 116]⟩)).cell? ⟨g, i * 3 + 1, none⟩ = some (.slice b1 n1 c1) := by
          rw [cell_of m1, Array.getElem?_setIfInBounds, if_neg (by omega)]; exact e1
        have hgf : g ∉ fp := fun c => (List.nodup_cons.1 hnd).1 (List.mem_flatten.2 ⟨fp, List.mem_of_getElem? hf, c⟩)
        have hT1 := hT.frame (w' := wr.setCell ⟨g, i * 3, none⟩ (.string ⟨#[115, 112, 111, 105, 108, 116]⟩)) fun q hq => Below.heap_setCell wr _ _ q fun e => hgf (by rw [show g = q from e.symm]; exact hq)
        have hbdf := hT.bd
        have hlo1 := HM.out.lo.put (i := i * 3) hgF (.string ⟨#[115, 112, 111, 105, 108, 116]⟩)
        have hoth : ∀ q, q ≠ g → (wr.setCell ⟨g, i * 3, none⟩ (.string ⟨#[115, 112, 111, 105, 108, 116]⟩)).heap[q]? = wr.heap[q]? := fun q hq => Below.heap_setCell wr _ _ q hq
        have hsz1 : (wr.setCell ⟨g, i * 3, none⟩ (.string ⟨#[115, 112, 111, 105, 108, 116]⟩)).heap.size = wr.heap.size := by simp
        have hoki := hok.out.2 t (List.mem_of_getElem? hk)
        have hnext := Lib.hid fun (W' : World) (cur' : Array Value) => HM.out.next (W' := W') (cur' := cur') hnd hf
        replace hoth := Lib.hid hoth
        replace hlo1 := Lib.hid hlo1
        replace hbdf := Lib.hid hbdf
        obtain ⟨f1, hfe, hO, hD⟩ := hT1.ex
        have hnf := hT1.nd
        rw [hfe] at hnf
        have hnf' := List.nodup_append.1 hnf
        have CS := Lib.hid (Sp.spoil_any 1073741824 (by decide) t.v (.slice b1 n1 c1) _ B f1 20 hoki.1 hO hnf'.1 (by decide) (by decide))
        have e2' : (cur.setIfInBounds (i * 3) (.string ⟨#[115, 112, 111, 105, 108, 116]⟩))[i * 3 + 2]? = some (.slice b2 n2 c2) := by rw [Array.getElem?_setIfInBounds, if_neg (by omega)]; exact e2
        have hcur : ∀ k, i * 3 + 3 ≤ k → (cur.setIfInBounds (i * 3) (.string ⟨#[115, 112, 111, 105, 108, 116]⟩))[k]? = cur[k]? := fun k hk => by rw [Array.getElem?_setIfInBounds, if_neg (by omega)]
        have hcs : (cur.setIfInBounds (i * 3) (.string ⟨#[115, 112, 111, 105, 108, 116]⟩)).size = cap * 3 := by simpa using k2
        replace hcur := Lib.hid hcur
        have k1' := Lib.hid k1
        clear e0 e1 e2 k3 hT hT1 HM k1
        go_wp2_with fail
        refine CS.out.mono ?_
        clear CS q1 q0 z0
        generalize (cur.setIfInBounds (i * 3) (.string ⟨#[115, 112, 111, 105, 108, 116]⟩)) = cur1 at *
        generalize (wr.setCell ⟨g, i * 3, none⟩ (.string ⟨#[115, 112, 111, 105, 108, 116]⟩)) = W1 at *
        rintro e w2 ⟨rfl, hK, _⟩
        have hf1 : ∀ q ∈ f1, q ∈ fp := fun q hq => by rw [hfe]; simp [hq]
        have m2 : w2.heap[g]? = some (.cells cur1 28 (0, 0)) := (hK.block g (blk_lt m1) fun c => hgf (hf1 g c)).trans m1
        have hlo2 := hlo1.out.kp hK fun q hq => hFf.out fp (List.mem_of_getElem? hf) q (hf1 q hq)
        have q2 : w2.cell? ⟨g, i * 3 + 2, none⟩ = some (.slice b2 n2 c2) := by rw [cell_of m2]; exact e2'
        have hfin : ∀ W, Lo F w W → W.heap[g]? = some (.cells cur1 28 (0, 0)) → (∀ q, q < w2.heap.size → q ∉ fp → q ≠ g → W.heap[q]? = w2.heap[q]?) → SI F w B g cap l fps (i + 1) W := fun W a1 a2 a3 =>
          hnext.out W cur1 a1 (fun q hq hqf hqg => (a3 q (by have := hK.size; omega) hqf hqg).trans ((hK.block q (by omega) fun c => hqf (hf1 q c)).trans (hoth.out q hqg))) a2 hcs fun cur2 hc2 k hk => by
            have hc1 := k1'.out
            rw [hc1] at hc2; cases hc2
            exact hcur.out k hk
        replace hfin := Lib.hid hfin
        have hlow := Lib.hid hlo2
        obtain ⟨d1, ⟨hb2, d2⟩ | ⟨gd, capd, curd, hb2, d3, d4, d5, d6, d7, d8⟩⟩ := hD
        · cases hb2
          have hnx := Lib.hid (hfin.out w2 hlow.out m2 fun _ _ _ _ => rfl)
          clear m1 hO hlo2 d1 d2
          go_wp2_with fail
          go_loopg [3] 0 (fun gk v3 W => v3 = .int .i64 0 ∧ W = w2)
          case atStart => exact ⟨rfl, rfl⟩
          case round =>
            obtain ⟨rfl, rfl⟩ := hrel
            go_wp2_with fail
            go_roundg g1
            case measure => omega
            case rel => exact ⟨i + 1, by omega, by go_num, ⟨hnx.out⟩⟩
        · cases hb2
          have hgdp : gd ∈ fp := by rw [hfe]; simp [own1, Value.ownBlock]
          have hgdg : gd ≠ g := fun e => hgf (by rw [← e]; exact hgdp)
          have hgd1 : gd ∉ f1 := fun c => hnf'.2.2 gd c gd (by simp [own1, Value.ownBlock]) rfl
          have hD0 := Lib.hid (show DI w2 gd t.d.length w2 from ⟨rfl, rfl, rfl, rfl, fun _ _ => rfl, curd, (hK.block gd (blk_lt d4) hgd1).trans d4, by omega⟩)
          have hdl := hoki.2
          have hgdB := hFf.out fp (List.mem_of_getElem? hf) gd hgdp
          have hcg : ∀ W, DI w2 gd t.d.length W → W.heap[g]? = some (.cells cur1 28 (0, 0)) := fun W h => (h.oth g (fun e => hgdg e.symm)).trans m2
          replace hcg := Lib.hid hcg
          clear m1 hO hlo2 d1 d4 d8
          go_wp2_with fail
          go_loopg [3] t.d.length (fun gk v3 W => ∃ k : Nat, k + gk = t.d.length ∧ v3 = .int .i64 k ∧ Gr.Ax (DI w2 gd t.d.length W))
          case atStart => exact ⟨0, by omega, rfl, ⟨hD0.out⟩⟩
          case round =>
            clear hD0 q2
            obtain ⟨x, hxg, rfl, HD⟩ := hrel
            have m3 := hcg.out wr HD.out
            have q2 : wr.cell? ⟨g, i * 3 + 2, none⟩ = some (.slice (some ⟨gd, 0, none⟩) t.d.length c2) := by rw [cell_of m3]; exact e2'
            by_cases hx : x < t.d.length
            · obtain ⟨g2, rfl⟩ : ∃ j, gk = j + 1 := ⟨gk - 1, by omega⟩
              obtain ⟨cd, y1, y2⟩ := HD.out.ex
              have p1 : wr.cell? ⟨gd, x, none⟩ = some cd[x] := by rw [cell_of y1, Array.getElem?_eq_getElem (by omega)]
              have p2 := frozen_of_row wr gd x _ _ y1
              have hnx := Lib.hid (HD.out.put (k := x) (.string ⟨#[115, 112, 111, 105, 108, 116]⟩))
              clear HD y1
              go_wp2_with fail
              go_roundg g2
              case measure => omega
              case rel => exact ⟨x + 1, by omega, by go_num, ⟨hnx.out⟩⟩
            · obtain rfl : gk = 0 := by omega
              obtain rfl : x = t.d.length := by omega
              have hz : ¬ ((t.d.length : Int) < (t.d.length : Int)) := by omega
              have hnx := Lib.hid (hfin.out wr ⟨HD.out.os.trans hlow.out.os, HD.out.tape.trans hlow.out.tape, HD.out.output.trans hlow.out.output, by rw [HD.out.size]; exact hlow.out.size, fun k hk hn => (HD.out.oth k fun e => hn (by rw [e]; exact hgdB)).trans (hlow.out.low k hk hn)⟩ m3 fun q _ hqf _ => HD.out.oth q fun e => hqf (by rw [e]; exact hgdp))
              clear HD
              go_wp2_with fail
              go_roundg g1
              case measure => omega
              case rel => exact ⟨i + 1, by omega, by go_num, ⟨hnx.out⟩⟩
      · obtain rfl : gk = 0 := by omega
        obtain rfl : i = l.length := by omega
        have hz : ¬ ((l.length : Int) < (l.length : Int)) := by omega
        have hlo := Lib.hid HM.out.lo
        clear HM
        go_wp2_with fail
        go_end0
        exact ⟨rfl, hlo.out⟩
end Go.Proofs.YtffojfcinkihnaaGreatDoor.Th
/- treillagelaw08.Plain and treillagelaw30.plain hand back what they were given; the document's Drop and Put; what is put is found. -/
namespace Go.Proofs.YtffojfcinkihnaaGreatDoor.Lat
open Go.Proofs.YtffojfcinkihnaaGreatDoor.Abs Go.Proofs.YtffojfcinkihnaaGreatDoor.Gr Go.Proofs.YtffojfcinkihnaaGreatDoor.Th
set_option linter.unusedVariables false
theorem asL3o {α : Type} (l : List (List AV)) (k : List (List AV) → Option α) : asL 3 (.own 3 l) k = k l := rfl
theorem encTs_app (a : List Th) (t : Th) : encTs a ++ [encTh t] = encTs (a ++ [t]) := by simp [encTs]
theorem gtAt_first (s : Bs) : ∀ (l : List Th) (j : Nat) (x : Th), l[j]? = some x → bytesLt s x.n = true → gtAt s l ≤ j
  | [], j, x, h, _ => by simp at h
  | y :: r, 0, x, h, hb => by cases h; rw [gtAt, if_pos hb]; exact Nat.le_refl _
  | y :: r, j + 1, x, h, hb => by
    have := gtAt_first s r j x h hb
    rw [gtAt]; split <;> omega
theorem gtAt_is (s : Bs) : ∀ (l : List Th) (x : Th), l[gtAt s l]? = some x → bytesLt s x.n = true
  | [], x, h => by simp [gtAt] at h
  | y :: r, x, h => by
    rw [gtAt] at h
    by_cases hc : bytesLt s y.n = true
    · rw [if_pos hc] at h; cases h; exact hc
    · rw [if_neg hc] at h; exact gtAt_is s r x h
theorem drop30_loop (l : List Th) (s : Bs) (hl : l.length ≤ 1000) : ∀ (d i : Nat), i + d = l.length → ref30_Drop.l0 (.sl 3 (encTs l)) (.str s) (.own 3 (encTs (dropT (l.take i) s))) (.int .i64 (i : Int)) = some (.own 3 (encTs (dropT l s)))
  | 0, i, h => by
    rw [ref30_Drop.l0_eq, encTs_len, decide_eq_false (by omega), ifF, List.take_of_length_le (by omega)]
  | d + 1, i, h => by
    have h1 : i < l.length := by omega
    have e1 : l[i]? = some l[i] := List.getElem?_eq_getElem h1
    have ih := drop30_loop l s hl d (i + 1) (by omega)
    rw [dropT_snoc e1] at ih
    have hle := dropT_len (l.take i) s
    rw [List.length_take] at hle
    rw [ref30_Drop.l0_eq, encTs_len, decide_eq_true (by omega), ifT, idx_at (encTs_at e1), th0]
    simp only [asS_]
    by_cases hn : l[i].n = s
    · rw [if_neg (by simpa using hn)] at ih
      rw [decide_eq_true hn, Bool.not_true, ifF, w64_succ (by omega)]
      exact ih
    · rw [if_pos hn] at ih
      rw [decide_eq_false hn, Bool.not_false, ifT, idx_at (encTs_at e1), gOK (by rw [encTs_len]; simp; omega), guT, w64_succ (by omega), encTs_app]
      exact ih
theorem drop30_is (l : List Th) (s : Bs) (hl : l.length ≤ 1000) : ref30_Drop (.sl 3 (encTs l)) (.str s) = some (.own 3 (encTs (dropT l s))) := by
  rw [ref30_Drop.f_eq]
  exact drop30_loop l s hl l.length 0 (by omega)
theorem put30_rest (l : List Th) (t : Th) (hl : l.length ≤ 1000) : ∀ (d i : Nat) (out : List Th), i + d = l.length → out.length ≤ i + 1 → ref30_Put.l0 (.boxv 3 (encTh t) []) (.sl 3 (encTs l)) (.own 3 (encTs out)) (.bool true) (.int .i64 (i : Int)) = some (.own 3 (encTs (out ++ l.drop i)))
  | 0, i, out, h, ho => by
    rw [ref30_Put.l0_eq2, encTs_len, decide_eq_false (by omega), ifF, dropNil (by omega), List.append_nil]
  | d + 1, i, out, h, ho => by
    have h1 : i < l.length := by omega
    have e1 : l[i]? = some l[i] := List.getElem?_eq_getElem h1
    have ih := put30_rest l t hl d (i + 1) (out ++ [l[i]]) (by omega) (by simp; omega)
    rw [ref30_Put.l0_eq2, encTs_len, decide_eq_true (by omega), ifT, ref30_Put.j1_eq, idx_at (encTs_at e1), gOK (by rw [encTs_len]; simp; omega), guT, w64_succ (by omega), encTs_app, ih, dropCons h1]
    simp
theorem put30_loop (l : List Th) (t : Th) (hl : l.length ≤ 1000) : ∀ (d i : Nat), i + d = l.length → i ≤ gtAt t.n l → ref30_Put.l0 (.boxv 3 (encTh t) []) (.sl 3 (encTs l)) (.own 3 (encTs (l.take i))) (.bool false) (.int .i64 (i : Int)) = some (.own 3 (encTs (l.take (gtAt t.n l) ++ t :: l.drop (gtAt t.n l))))
  | 0, i, h, hg => by
    have := gtAt_le t.n l
    obtain rfl : i = l.length := by omega
    have hgt : gtAt t.n l = l.length := by omega
    rw [ref30_Put.l0_eq, encTs_len, decide_eq_false (by omega), ifF, gOK (by rw [encTs_len]; simp; omega), guT, encTs_app, hgt, List.drop_length]
  | d + 1, i, h, hg => by
    have h1 : i < l.length := by omega
    have e1 : l[i]? = some l[i] := List.getElem?_eq_getElem h1
    rw [ref30_Put.l0_eq, encTs_len, decide_eq_true (by omega), ifT, idx_at (encTs_at e1), th0]
    simp only [asS_]
    rw [th0]
    simp only [asS_, someB]
    have hgtr : (!(bytesLt l[i].n t.n || decide (l[i].n = t.n))) = bytesLt t.n l[i].n := by
      have := gtr_is l[i].n t.n
      rw [bytesLt_eq] at this
      rw [← this, Bool.not_or]
      by_cases he : l[i].n = t.n <;> simp [he]
    rw [hgtr]
    cases hc : bytesLt t.n l[i].n with
    | true =>
      have hgt : gtAt t.n l = i := by
        refine gtAt_at t.n l i l[i] (fun j x hj hx => ?_) e1 hc
        cases hb : bytesLt t.n x.n with
        | false => rfl
        | true =>
          have := gtAt_first t.n l j x hx hb
          omega
      have hr := put30_rest l t hl d (i + 1) (l.take i ++ [t] ++ [l[i]]) (by omega) (by simp; omega)
      rw [ifT, gOK (by rw [encTs_len]; simp; omega), guT, encTs_app, ref30_Put.j1_eq, idx_at (encTs_at e1), gOK (by rw [encTs_len]; simp; omega), guT, w64_succ (by omega), encTs_app, hr, hgt, dropCons h1]
      simp
    | false =>
      have ih := put30_loop l t hl d (i + 1) (by omega) (by
        rcases Nat.lt_or_ge i (gtAt t.n l) with h | h
        · omega
        · have : gtAt t.n l = i := by omega
          have := gtAt_is t.n l l[i] (by rw [this]; exact e1)
          rw [hc] at this; cases this)
      rw [ifF, ref30_Put.j1_eq2, idx_at (encTs_at e1), gOK (by rw [encTs_len]; simp; omega), guT, w64_succ (by omega), encTs_app]
      rw [List.take_add_one, e1] at ih
      exact ih
theorem put30_is (l : List Th) (t : Th) (hl : l.length ≤ 1000) : ref30_Put (.sl 3 (encTs l)) (.agg 3 (encTh t)) = some (.own 3 (encTs (putT l t))) := by
  rw [ref30_Put.f_eq, th0]
  simp only [asS_]
  have hle := dropT_len l t.n
  rw [drop30_is l t.n hl, someB, asL3o]
  exact put30_loop (dropT l t.n) t (by omega) (dropT l t.n).length 0 (by omega) (Nat.zero_le _)
theorem asC1_p {α : Type} (c : List AV) (k : List AV → Option α) : asC 1 (.agg 1 c) k = k c := rfl
theorem encF_snoc (a : List Fd) (f : Fd) : encF a ++ [encFd f] = encF (a ++ [f]) := by simp [encF_map]
theorem encV_snoc (a : List Tm) (t : Tm) : encV a ++ [encT t] = encV (a ++ [t]) := by simp [encV_map]
theorem set7 (t : Tm) : (encT t).set 7 (.sl 2 (encF t.fs)) = encT t := by cases t; rfl
theorem spl_fd (f : Fd) : splice [AV.str f.n, AV.sl 8 []] 1 [AV.sl 8 (encV f.v)] = encFd f := by cases f; rfl
theorem plain_l1 (v : List Tm) (i : Nat) (t : Tm) (ht : v[i]? = some t) (hz : szV v ≤ 1073741824) (hp : ∀ f ∈ t.fs, law08_Plain (.agg 1 [.sl 8 (encV f.v)]) = some (.agg 1 [.sl 8 (encV f.v)])) (l2 l3 l4 l5 : List (List AV)) (h5 : l5.length ≤ i) (r : Option AV)
    (hr : law08_Plain.l0 (.boxv 1 [.sl 8 (encV v)] []) (.boxv 1 [.sl 8 l2] [(0, .own 8 l3)]) (.boxv 1 [.sl 8 l4] [(0, .own 8 (l5 ++ [encT t]))]) (.int .i64 ((i + 1 : Nat) : Int)) = r) :
    ∀ (d k : Nat), k + d = t.fs.length → law08_Plain.l1 (.boxv 1 [.sl 8 (encV v)] []) (.boxv 1 [.sl 8 l2] [(0, .own 8 l3)]) (.boxv 1 [.sl 8 l4] [(0, .own 8 l5)]) (.int .i64 (i : Int)) (.boxv 8 (encT t) [(7, .own 2 (encF (t.fs.take k)))]) (.int .i64 (k : Int)) = r
  | 0, k, h => by
    have h1 := szV_len v
    have h2 := (List.getElem?_eq_some_iff.1 ht).1
    rw [law08_Plain.l1_eq, v0, asL8, idx_at (encT_at ht), g7, asL2, encF_len, decide_eq_false (by omega), ifF, List.take_of_length_le (by omega), set7, gOK (by simp; omega), guT, w64_succ (by omega)]
    exact hr
  | d + 1, k, h => by
    have hk : k < t.fs.length := by omega
    have e1 : t.fs[k]? = some t.fs[k] := List.getElem?_eq_getElem hk
    have hm := List.getElem_mem hk
    have h1' := mem_szT (v := v) (List.mem_of_getElem? ht)
    rw [szT_fs] at h1'
    have h2 := szF_len t.fs
    have ih := plain_l1 v i t ht hz hp l2 l3 l4 l5 h5 r hr d (k + 1) (by omega)
    rw [List.take_add_one, e1] at ih
    rw [law08_Plain.l1_eq, v0, asL8, idx_at (encT_at ht), g7, asL2, encF_len, decide_eq_true (by omega), ifT, v0, asL8, idx_at (encT_at ht), g7, asL2, idx_at (encFd_at e1), h0, asS_, h1]
    simp only [frz, hp _ hm, someB, asC1_p, spl_fd]
    rw [gOK (by rw [encF_len, List.length_take]; simp; omega), guT, w64_succ (by omega), encF_snoc]
    exact ih
theorem plain_l0 (v : List Tm) (hz : szV v ≤ 1073741824) (hp : ∀ t ∈ v, ∀ f ∈ t.fs, law08_Plain (.agg 1 [.sl 8 (encV f.v)]) = some (.agg 1 [.sl 8 (encV f.v)])) (l2 l3 l4 : List (List AV)) :
    ∀ (d i : Nat), i + d = v.length → law08_Plain.l0 (.boxv 1 [.sl 8 (encV v)] []) (.boxv 1 [.sl 8 l2] [(0, .own 8 l3)]) (.boxv 1 [.sl 8 l4] [(0, .own 8 (encV (v.take i)))]) (.int .i64 (i : Int)) = some (.agg 1 [.sl 8 (encV v)])
  | 0, i, h => by rw [law08_Plain.l0_eq, v0, asL8, encV_len, decide_eq_false (by omega), ifF, List.take_of_length_le (by omega)]
  | d + 1, i, h => by
    have hi : i < v.length := by omega
    have e1 : v[i]? = some v[i] := List.getElem?_eq_getElem hi
    have ih := plain_l0 v hz hp l2 l3 l4 d (i + 1) (by omega)
    rw [List.take_add_one, e1] at ih
    rw [law08_Plain.l0_eq, v0, asL8, encV_len, decide_eq_true (by omega), ifT, v0, asL8, idx_at (encT_at e1)]
    refine plain_l1 v i v[i] e1 hz (hp _ (List.getElem_mem hi)) l2 l3 l4 (encV (v.take i)) (by rw [encV_len, List.length_take]; omega) _ ?_ v[i].fs.length 0 (by omega)
    rw [encV_snoc]
    exact ih
theorem plain8 (v : List Tm) (hz : szV v ≤ 1073741824) : law08_Plain (.agg 1 [.sl 8 (encV v)]) = some (.agg 1 [.sl 8 (encV v)]) := by
  rw [law08_Plain.f_eq]
  exact plain_l0 v hz (fun t ht f hf => by
    have := szV_dp ht hf
    exact plain8 f.v (by omega)) [] [] [] v.length 0 (by omega)
termination_by szV v
decreasing_by have := szV_dp ht hf; omega
theorem setTh (t : Th) : (List.set (List.set (encTh t) 1 (frz (.sl 8 (encV t.v)))) 2 (AV.sl 1 ([] ++ encD t.d))) = encTh t := rfl
theorem plain30_loop (l : List Th) (hl : l.length ≤ 1000) (hs : ∀ t ∈ l, SmTh t) : ∀ (d i : Nat), i + d = l.length → law30_plain.l0 (.sl 3 (encTs l)) (.own 3 (encTs (l.take i))) (.int .i64 (i : Int)) = some (.own 3 (encTs l))
  | 0, i, h => by rw [law30_plain.l0_eq, encTs_len, decide_eq_false (by omega), ifF, List.take_of_length_le (by omega)]
  | d + 1, i, h => by
    have hi : i < l.length := by omega
    have e1 : l[i]? = some l[i] := List.getElem?_eq_getElem hi
    have hm := hs _ (List.getElem_mem hi)
    have hd := hm.d
    have ih := plain30_loop l hl hs d (i + 1) (by omega)
    rw [List.take_add_one, e1] at ih
    have hD : (encD l[i].d).length ≤ 1000 := by rw [encD_len]; exact hd
    rw [law30_plain.l0_eq, encTs_len, decide_eq_true (by omega), ifT, idx_at (encTs_at e1), th1]
    simp only [frz, plain8 _ hm.v, someB, asC1_p]
    rw [v0, th2]
    simp only [asL1_]
    have hg : Nat.ble (0 + (encD l[i].d).length) lim = true := gOK (a := []) (by simp only [List.length_nil]; omega)
    have hst := setTh l[i]
    simp only [frz] at hst
    rw [hg, guT, hst, gOK (by rw [encTs_len, List.length_take]; simp; omega), guT, w64_succ (by omega), encTs_app]
    exact ih
theorem plain30_is (l : List Th) (hl : l.length ≤ 1000) (hs : ∀ t ∈ l, SmTh t) : law30_plain (.sl 3 (encTs l)) = some (.own 3 (encTs l)) := by
  rw [law30_plain.f_eq]
  exact plain30_loop l hl hs l.length 0 (by omega)
/-! Found. -/
theorem ixB_no : ∀ (l : List Bs) (s : Bs) (i : Nat), s ∉ l → ixB l s i = -1
  | [], s, i, _ => rfl
  | x :: r, s, i, h => by
    rw [List.mem_cons, not_or] at h
    unfold ixB
    rw [if_neg fun e => h.1 e.symm]
    exact ixB_no r s (i + 1) h.2
theorem ixB_at : ∀ (p q : List Bs) (s : Bs) (i : Nat), s ∉ p → ixB (p ++ s :: q) s i = ((i + p.length : Nat) : Int)
  | [], q, s, i, _ => by
    show ixB (s :: q) s i = _
    unfold ixB
    rw [if_pos rfl]; rfl
  | x :: r, q, s, i, h => by
    rw [List.mem_cons, not_or] at h
    show ixB (x :: (r ++ s :: q)) s i = _
    unfold ixB
    rw [if_neg fun e => h.1 e.symm, ixB_at r q s (i + 1) h.2, List.length_cons]
    congr 1; omega
theorem drop_no (l : List Th) (s : Bs) : s ∉ (dropT l s).map (·.n) := by
  intro h
  obtain ⟨t, ht, e⟩ := List.mem_map.1 h
  unfold dropT at ht
  have := (List.mem_filter.1 ht).2
  simp only [ne_eq, decide_eq_true_eq] at this
  exact this e
theorem find_drop (l : List Th) (s : Bs) : ixB ((dropT l s).map (·.n)) s 0 = -1 := ixB_no _ _ _ (drop_no l s)
theorem find_put (l : List Th) (t : Th) : ixB ((putT l t).map (·.n)) t.n 0 = (gtAt t.n (dropT l t.n) : Int) ∧ (putT l t)[gtAt t.n (dropT l t.n)]? = some t := by
  have hle := gtAt_le t.n (dropT l t.n)
  unfold putT
  refine ⟨?_, ?_⟩
  · rw [List.map_append, List.map_cons, ixB_at _ _ _ _ fun h => drop_no l t.n ?_]
    · rw [List.length_map, List.length_take, Nat.zero_add, Nat.min_eq_left hle]
    · obtain ⟨x, hx, e⟩ := List.mem_map.1 h
      exact List.mem_map.2 ⟨x, List.mem_of_mem_take hx, e⟩
  · rw [List.getElem?_append_right (by rw [List.length_take]; omega), List.length_take, Nat.min_eq_left hle, Nat.sub_self]; rfl
theorem put_mem {l : List Th} {t u : Th} (h : u ∈ putT l t) : u ∈ l ∨ u = t := by
  unfold putT at h
  rw [List.mem_append, List.mem_cons] at h
  have hd : ∀ x ∈ dropT l t.n, x ∈ l := fun x hx => (List.mem_filter.1 hx).1
  rcases h with h | h | h
  · exact .inl (hd _ (List.mem_of_mem_take h))
  · exact .inr h
  · exact .inl (hd _ (List.mem_of_mem_drop h))
theorem drop_mem {l : List Th} {s : Bs} {u : Th} (h : u ∈ dropT l s) : u ∈ l := (List.mem_filter.1 h).1
theorem put_len (l : List Th) (t : Th) : (putT l t).length ≤ l.length + 1 := by
  have h1 := dropT_len l t.n
  have hle := gtAt_le t.n (dropT l t.n)
  unfold putT
  rw [List.length_append, List.length_cons, List.length_take, List.length_drop]
  omega
theorem cmpI_self2 (a : Int) : cmpI a a = 0 := cmpI_0.2 rfl
theorem cmpS_self2 (a : Bs) : cmpS a a = 0 := cmpS_0.2 rfl
mutual
theorem cmpT_self2 : ∀ t : Tm, cmpT t t = 0
  | .mk k lo hi s a m o fs => by rw [cmpT_eq]; simp only [cmpI_self2, cmpS_self2, Int.sub_self, cmpF_self2 fs, Tm.fs, fst0_zero, and_self]
theorem cmpF_self2 : ∀ fs : List Fd, cmpF fs fs = 0
  | [] => rfl
  | .mk n v :: r => by rw [cmpF, fst0_zero, fst0_zero]; exact ⟨⟨cmpS_self2 n, cmpV_self2 v⟩, cmpF_self2 r⟩
theorem cmpV_self2 : ∀ v : List Tm, cmpV v v = 0
  | [] => rfl
  | t :: r => by rw [cmpV, fst0_zero]; exact ⟨cmpT_self2 t, cmpV_self2 r⟩
end
theorem sameTh_self2 (t : Th) : sameTh t t = true := by
  unfold sameTh
  simp [cmpV_self2]
theorem allSame_self2 : ∀ X : List Th, allSame X X = true
  | [] => rfl
  | t :: r => by rw [allSame, sameTh_self2, allSame_self2 r]; rfl
end Go.Proofs.YtffojfcinkihnaaGreatDoor.Lat
/- Calls of the law treillagelaw30.StatePuts, with all that is held. -/
namespace Go.Proofs.YtffojfcinkihnaaGreatDoor.Th
open Go.RowKit Go.Lib Go.Proofs.YtffojfcinkihnaaGreatDoor.Abs Go.Proofs.YtffojfcinkihnaaGreatDoor.Lat Go.Proofs.YtffojfcinkihnaaGreatDoor.Lat.Cp Go.Proofs.YtffojfcinkihnaaGreatDoor.Gr
set_option linter.unusedVariables false
theorem stab_hi {B b i : Nat} {c : Cls} (h : B ≤ b) : stab (fun b => if b < B then c b else .frz) b i := by
  unfold stab
  simp only [if_neg (Nat.not_lt.2 h)]
/-- What is held: plain values, at a world. -/
structure Pl (W0 : World) (L : List (Value × AV)) (W : World) : Prop where
  bel : Below W0.heap.size W0 W
  ex : ∃ c, GOK Z.τ W c ∧ ∀ p ∈ L, Rep W c p.1 p.2
theorem Pl.below {W0 W W' : World} {L : List (Value × AV)} (h : Pl W0 L W) (hB : Below W.heap.size W W') : Pl W0 L W' := by
  obtain ⟨c, hG, hL⟩ := h.ex
  exact ⟨below_upG h.bel (Nat.le_refl _) hB, _, hG.ext (Cp.ext_cut c hB), fun p hp => (hL p hp).ext (Cp.ext_cut c hB)⟩
theorem Pl.alloc {W0 W : World} {L : List (Value × AV)} (h : Pl W0 L W) (o : Obj) : Pl W0 L (W.alloc o) := h.below ((Below.refl _ W).alloc (Nat.le_refl _) o)
theorem Pl.drew {W0 W : World} {L : List (Value × AV)} (h : Pl W0 L W) : Pl W0 L W.drew := h.below ((Below.refl _ W).drew)
theorem Pl.sub {W0 W : World} {L L' : List (Value × AV)} (h : Pl W0 L W) (hs : ∀ p ∈ L', p ∈ L) : Pl W0 L' W := by
  obtain ⟨c, hG, hL⟩ := h.ex
  exact ⟨h.bel, c, hG, fun p hp => hL p (hs p hp)⟩
theorem aggTh {w : World} {c : Cls} {s : ByteArray} {x1 x2 : Value} {t : Th} (hs : s.data.toList = t.n) (h1 : Rep w c x1 (.sl 8 (encV t.v))) (h2 : Rep w c x2 (.sl 1 (encD t.d))) : AggR w c (.agg #[.string s, x1, x2]) 3 (encTh t) := by
  refine ⟨_, rfl, rfl, rfl, fun j a u ha hu => ?_⟩
  have hj : j < 3 := by simpa [encTh] using (List.getElem?_eq_some_iff.1 ha).1
  rcases (by omega : j = 0 ∨ j = 1 ∨ j = 2) with rfl | rfl | rfl
  · simp [encTh] at ha hu; subst ha; subst hu; rw [← hs]; exact .str s
  · simp [encTh] at ha hu; subst ha; subst hu; exact h1
  · simp [encTh] at ha hu; subst ha; subst hu; exact h2
/-- A thing's cells, put into a row of one. -/
theorem Pl.build {W0 W : World} {L : List (Value × AV)} (h : Pl W0 L W) {s : ByteArray} {x1 x2 : Value} {t : Th} (hs : s.data.toList = t.n) (h1 : (x1, AV.sl 8 (encV t.v)) ∈ L) (h2 : (x2, AV.sl 1 (encD t.d)) ∈ L) :
    Pl W0 ((.slice (some ⟨W.heap.size, 0, none⟩) 1 1, .sl 3 (encTs [t])) :: L) (W.alloc (.cells #[.string s, x1, x2] 28)) := by
  have hB := (Below.refl _ W).alloc (Nat.le_refl _) (.cells #[.string s, x1, x2] 28)
  obtain ⟨c, hG, hL⟩ := h.ex
  refine ⟨below_upG h.bel (Nat.le_refl _) hB, _, hG.ext (Cp.ext_cut c hB), fun p hp => ?_⟩
  rcases List.mem_cons.1 hp with rfl | hp
  · have hR := aggTh hs ((hL _ h1).ext (Cp.ext_cut c hB)) ((hL _ h2).ext (Cp.ext_cut c hB))
    obtain ⟨vs, e, _, _, hr⟩ := hR
    cases e
    refine Rep.sl W.heap.size 0 1 3 (encTs [t]) (fun i j => (#[Value.string s, x1, x2] : Array Value).getD j undef) (Nat.le_refl _) (fun i cs hi => ?_) (fun i j hi hj => ?_) (fun i j hi hj => ?_) (fun i j cs a hi hj => ?_)
    · rcases i with _ | i
      · cases hi; rfl
      · cases hi
    · obtain rfl : i = 0 := by simpa [encTs] using hi
      rw [cell_of (heap_alloc_new W _)]
      rcases (by omega : j = 0 ∨ j = 1 ∨ j = 2) with rfl | rfl | rfl <;> rfl
    · exact stab_hi (Nat.le_refl _)
    · rcases i with _ | i
      · cases hi
        have hj3 : j < 3 := by simpa [encTh] using (List.getElem?_eq_some_iff.1 hj).1
        refine hr j a _ hj ?_
        rcases (by omega : j = 0 ∨ j = 1 ∨ j = 2) with rfl | rfl | rfl <;> rfl
      · cases hi
  · exact (hL p hp).ext (Cp.ext_cut c hB)
/-- A call that is told. -/
theorem Pl.call {W0 W : World} {L : List (Value × AV)} (h : Pl W0 L W) {f : Nat} {l : List AV} {r : AV} (hr : ωκ S f l = some r) {vs : Array Value} {fn : Func} {cd : Code} (hf : Tryz.prog.funcs[f]? = some fn) (hb : fn.body = some cd) (hnm : ¬ fn.name = "runtime.NumGoroutine")
    (hsz : vs.size = l.length) (ha : ∀ c, (∀ p ∈ L, Rep W c p.1 p.2) → ∀ (i : Nat) (v : Value) (a : AV), vs[i]? = some v → l[i]? = some a → ArgR W c v a) :
    Calls Tryz.prog f vs W fun e w' => ∃ v, e = .returned v ∧ Below W.heap.size W w' ∧ ∃ c', GOK Z.τ w' c' ∧ (∀ p ∈ L, Rep w' c' p.1 p.2) ∧ ResR W.heap.size w' c' v r := by
  obtain ⟨c, hG, hL⟩ := h.ex
  refine (St.calls_plain sysOK hr hf hb hnm (show GOK S.τ W c from hG) hsz (ha c hL)).mono fun e w' ⟨v, c', he, hx, hres⟩ => ⟨v, he, St.ext_below hx, c', ?_, fun p hp => (hL p hp).ext hx, hres⟩
  exact (show GOK Z.τ W c from hG).ext hx
theorem args1 {W : World} {c : Cls} {v : Value} {a : AV} (h : ArgR W c v a) : ∀ (i : Nat) (x : Value) (y : AV), (#[v] : Array Value)[i]? = some x → [a][i]? = some y → ArgR W c x y := fun i x y hx hy => by
  rcases i with _ | i
  · simp at hx hy; subst hx; subst hy; exact h
  · simp at hx
theorem args2 {W : World} {c : Cls} {v u : Value} {a b : AV} (h : ArgR W c v a) (k : ArgR W c u b) : ∀ (i : Nat) (x : Value) (y : AV), (#[v, u] : Array Value)[i]? = some x → [a, b][i]? = some y → ArgR W c x y := fun i x y hx hy => by
  rcases i with _ | _ | i
  · simp at hx hy; subst hx; subst hy; exact h
  · simp at hx hy; subst hx; subst hy; exact k
  · simp at hx
theorem argS {W : World} {c : Cls} (s : ByteArray) : ArgR W c (.string s) (.str s.data.toList) := .inr (Rep.str s)
theorem cFew {W0 W : World} {L : List (Value × AV)} (h : Pl W0 L W) {v : Value} {l : List Th} {x : Bool} (hm : (v, AV.sl 3 (encTs l)) ∈ L) (hx : law30_Few (.sl 3 (encTs l)) = some (.bool x)) :
    Calls Tryz.prog 6 #[v] W fun e w' => e = .returned (.bool x) ∧ Below W.heap.size W w' :=
  (h.call (show ωκ S 6 [_] = _ from hx) Tryz.func6 rfl (by decide +kernel) rfl fun c hL => args1 (.inr (hL _ hm))).mono fun e w' ⟨u, he, hB, c', _, _, hr⟩ => ⟨by rw [he, rep_bool (show Rep w' c' u (.bool x) from hr)], hB⟩
theorem cPlain {W0 W : World} {L : List (Value × AV)} (h : Pl W0 L W) {v : Value} {l : List Th} (hm : (v, AV.sl 3 (encTs l)) ∈ L) (hl : l.length ≤ 1000) (hs : ∀ t ∈ l, SmTh t) :
    Calls Tryz.prog 9 #[v] W fun e w' => ∃ u, e = .returned u ∧ Below W.heap.size W w' ∧ Pl W0 ((u, .sl 3 (encTs l)) :: L) w' :=
  (h.call (show ωκ S 9 [_] = _ from plain30_is l hl hs) Tryz.func9 rfl (by decide +kernel) rfl fun c hL => args1 (.inr (hL _ hm))).mono fun e w' ⟨u, he, hB, c', hG, hL, hr⟩ => ⟨u, he, hB, below_upG h.bel (Nat.le_refl _) hB, c', hG, fun p hp => by
    rcases List.mem_cons.1 hp with rfl | hp
    · exact (show OwnR _ w' c' _ u 3 (encTs l) from hr).1
    · exact hL p hp⟩
theorem cPut8 {W0 W : World} {L : List (Value × AV)} (h : Pl W0 L W) {v : Value} {l : List Th} {t : Th} {s : ByteArray} {x1 x2 : Value} (hm : (v, AV.sl 3 (encTs l)) ∈ L) (hs : s.data.toList = t.n) (h1 : (x1, AV.sl 8 (encV t.v)) ∈ L) (h2 : (x2, AV.sl 1 (encD t.d)) ∈ L) (hl : l.length ≤ 1000) :
    Calls Tryz.prog 8 #[v, .agg #[.string s, x1, x2]] W fun e w' => ∃ u, e = .returned u ∧ Below W.heap.size W w' ∧ Pl W0 ((u, .sl 3 (encTs (putT l t))) :: L) w' :=
  (h.call (show ωκ S 8 [_, .agg 3 (encTh t)] = _ from put30_is l t hl) Tryz.func8 rfl (by decide +kernel) rfl fun c hL => args2 (.inr (hL _ hm)) (.inl (aggTh hs (hL _ h1) (hL _ h2)))).mono fun e w' ⟨u, he, hB, c', hG, hL, hr⟩ => ⟨u, he, hB, below_upG h.bel (Nat.le_refl _) hB, c', hG, fun p hp => by
    rcases List.mem_cons.1 hp with rfl | hp
    · exact (show OwnR _ w' c' _ u 3 (encTs (putT l t)) from hr).1
    · exact hL p hp⟩
theorem cDrop10 {W0 W : World} {L : List (Value × AV)} (h : Pl W0 L W) {v : Value} {l : List Th} {s : ByteArray} (hm : (v, AV.sl 3 (encTs l)) ∈ L) (hl : l.length ≤ 1000) :
    Calls Tryz.prog 10 #[v, .string s] W fun e w' => ∃ u, e = .returned u ∧ Below W.heap.size W w' ∧ Pl W0 ((u, .sl 3 (encTs (dropT l s.data.toList))) :: L) w' :=
  (h.call (show ωκ S 10 [_, .str s.data.toList] = _ from drop30_is l s.data.toList hl) Tryz.func10 rfl (by decide +kernel) rfl fun c hL => args2 (.inr (hL _ hm)) (argS s)).mono fun e w' ⟨u, he, hB, c', hG, hL, hr⟩ => ⟨u, he, hB, below_upG h.bel (Nat.le_refl _) hB, c', hG, fun p hp => by
    rcases List.mem_cons.1 hp with rfl | hp
    · exact (show OwnR _ w' c' _ u 3 (encTs (dropT l s.data.toList)) from hr).1
    · exact hL p hp⟩
theorem cThings {W0 W : World} {L : List (Value × AV)} (h : Pl W0 L W) {v u : Value} {a : List Th} (hm : (v, AV.sl 3 (encTs a)) ∈ L) (hn : (u, AV.sl 3 (encTs a)) ∈ L) (hl : a.length ≤ 1073741824) (hs : ∀ t ∈ a, SmTh t) :
    Calls Tryz.prog 13 #[v, u] W fun e w' => e = .returned (.bool true) ∧ Below W.heap.size W w' :=
  (h.call (show ωκ S 13 [_, _] = some (.bool true) from (things_is a a hl hs).trans (by rw [allSame_self2]; simp)) Tryz.func13 rfl (by decide +kernel) rfl fun c hL => args2 (.inr (hL _ hm)) (.inr (hL _ hn))).mono fun e w' ⟨x, he, hB, c', _, _, hr⟩ => ⟨by rw [he, rep_bool (show Rep w' c' x (.bool true) from hr)], hB⟩
theorem cFind {W0 W : World} {L : List (Value × AV)} (h : Pl W0 L W) {v : Value} {l : List Th} {s : ByteArray} (hm : (v, AV.sl 3 (encTs l)) ∈ L) (hl : l.length ≤ 1073741824) :
    Calls Tryz.prog 14 #[v, .string s] W fun e w' => e = .returned (.int .i64 (ixB (l.map (·.n)) s.data.toList 0)) ∧ Below W.heap.size W w' :=
  (h.call (show ωκ S 14 [_, .str s.data.toList] = _ from findP30_is l hl s.data.toList) Tryz.func14 rfl (by decide +kernel) rfl fun c hL => args2 (.inr (hL _ hm)) (argS s)).mono fun e w' ⟨x, he, hB, c', _, _, hr⟩ => ⟨by rw [he, rep_int (show Rep w' c' x (.int .i64 _) from hr)], hB⟩
theorem cSame {W0 W : World} {L : List (Value × AV)} (h : Pl W0 L W) {s s' : ByteArray} {x1 x2 y1 y2 : Value} {t : Th} (hs : s.data.toList = t.n) (hs' : s'.data.toList = t.n) (h1 : (x1, AV.sl 8 (encV t.v)) ∈ L) (h2 : (x2, AV.sl 1 (encD t.d)) ∈ L) (k1 : (y1, AV.sl 8 (encV t.v)) ∈ L) (k2 : (y2, AV.sl 1 (encD t.d)) ∈ L) (ht : SmTh t) :
    Calls Tryz.prog 15 #[.agg #[.string s', y1, y2], .agg #[.string s, x1, x2]] W fun e w' => e = .returned (.bool true) ∧ Below W.heap.size W w' :=
  (h.call (show ωκ S 15 [.agg 3 (encTh t), .agg 3 (encTh t)] = some (.bool true) from (same29_is ht).trans (by rw [sameTh_self2])) Tryz.func15 rfl (by decide +kernel) rfl fun c hL => args2 (.inl (aggTh hs' (hL _ k1) (hL _ k2))) (.inl (aggTh hs (hL _ h1) (hL _ h2)))).mono fun e w' ⟨x, he, hB, c', _, _, hr⟩ => ⟨by rw [he, rep_bool (show Rep w' c' x (.bool true) from hr)], hB⟩
theorem cAwake {W0 W : World} {L : List (Value × AV)} (h : Pl W0 L W) : Calls Tryz.prog 7 #[] W fun e w' => e = .returned (.bool true) ∧ Below W.heap.size W w' := by
  obtain ⟨c, hG, hL⟩ := h.ex
  exact (St.calls_plain sysOKZ (show ωκ Z 7 [] = some (.bool true) from awake_is) (vs := #[]) Tryz.func7 rfl (by decide +kernel) hG rfl fun i x y hx => by simp at hx).mono fun e w' ⟨v, c', he, hx, hr⟩ => ⟨by rw [he, rep_bool (show Rep w' c' v (.bool true) from hr)], St.ext_below hx⟩
theorem cPut11 {W0 W : World} {L : List (Value × AV)} (h : Pl W0 L W) {v : Value} {l : List Th} {t : Th} {s : ByteArray} {b1 b2 : Option Addr} {n1 c1 n2 c2 : Nat} (hm : (v, AV.sl 3 (encTs l)) ∈ L) (hs : s.data.toList = t.n) (h1 : (.slice b1 n1 c1, AV.sl 8 (encV t.v)) ∈ L) (h2 : (.slice b2 n2 c2, AV.sl 1 (encD t.d)) ∈ L) (hok : TsOK l) (hv : szV t.v ≤ 1073741824) (hd : t.d.length ≤ 1073741824) :
    Calls Tryz.prog 11 #[v, .agg #[.string s, .slice b1 n1 c1, .slice b2 n2 c2]] W fun e w' => ∃ A n cap, e = .returned (.slice A n cap) ∧ Gr.Ax (TO w' W.heap.size (.slice A n cap) (putT l t) ∧ Below W.heap.size W w') := by
  obtain ⟨c, hG, hL⟩ := h.ex
  exact put2_any W c v l t s b1 b2 n1 c1 n2 c2 (hL _ hm) hok hs (hL _ h1) (hL _ h2) hv hd
theorem cDrop12 {W0 W : World} {L : List (Value × AV)} (h : Pl W0 L W) {v : Value} {l : List Th} {s : ByteArray} (hm : (v, AV.sl 3 (encTs l)) ∈ L) (hok : TsOK l) :
    Calls Tryz.prog 12 #[v, .string s] W fun e w' => ∃ A n cap, e = .returned (.slice A n cap) ∧ Gr.Ax (TO w' W.heap.size (.slice A n cap) (dropT l s.data.toList) ∧ Below W.heap.size W w') := by
  obtain ⟨c, hG, hL⟩ := h.ex
  exact (drop2_any W c v l s (hL _ hm) hok).mono fun e w' ⟨A, n, cap, he, hx⟩ => ⟨A, n, cap, he, ⟨by have := hx.out.row; rw [List.take_length] at this; exact this, hx.out.bel⟩⟩
/-- Rows of their own besides. -/
theorem Pl.add {W0 w1 W : World} {L : List (Value × AV)} (h : Pl W0 L w1) (hB : Below w1.heap.size w1 W) (T : List (Value × List Th)) (hT : ∀ p ∈ T, TO W w1.heap.size p.1 p.2) : Pl W0 (T.map (fun p => (p.1, AV.sl 3 (encTs p.2))) ++ L) W := by
  obtain ⟨c, hG, hL⟩ := h.ex
  refine ⟨below_upG h.bel (Nat.le_refl _) hB, _, hG.ext (Cp.ext_cut c hB), fun p hp => ?_⟩
  rcases List.mem_append.1 hp with hp | hp
  · obtain ⟨q, hq, rfl⟩ := List.mem_map.1 hp
    exact (hT q hq).rep.ext (ext0 (Nat.le_refl _) rfl rfl rfl fun b i hb _ => ⟨rfl, stab_hi (stab_Kb.1 hb)⟩)
  · exact (hL p hp).ext (Cp.ext_cut c hB)
/-- A thing in a row that is held. -/
theorem Pl.open {W0 W : World} {L : List (Value × AV)} (h : Pl W0 L W) {v : Value} {l : List Th} {i : Nat} {t : Th} (hm : (v, AV.sl 3 (encTs l)) ∈ L) (ht : l[i]? = some t) : ∃ g o cap s b1 n1 c1 b2 n2 c2, v = .slice (some ⟨g, o, none⟩) l.length cap ∧ s.data.toList = t.n ∧
    W.cell? ⟨g, o + i * 3, none⟩ = some (.string s) ∧ W.cell? ⟨g, o + i * 3 + 1, none⟩ = some (.slice b1 n1 c1) ∧ W.cell? ⟨g, o + i * 3 + 2, none⟩ = some (.slice b2 n2 c2) ∧ Pl W0 ((.slice b1 n1 c1, .sl 8 (encV t.v)) :: (.slice b2 n2 c2, .sl 1 (encD t.d)) :: L) W := by
  obtain ⟨c, hG, hL⟩ := h.ex
  obtain ⟨A, cap, rfl, hA⟩ := things_at (hL _ hm)
  obtain ⟨g, o, s, b1, n1, c1, b2, n2, c2, rfl, hs, q1, q2, q3, hr1, hr2⟩ := (hA i t ht).ex
  refine ⟨g, o, cap, s, b1, n1, c1, b2, n2, c2, rfl, hs, q1, q2, q3, h.bel, c, hG, fun p hp => ?_⟩
  rcases List.mem_cons.1 hp with rfl | hp
  · exact hr1
  · rcases List.mem_cons.1 hp with rfl | hp
    · exact hr2
    · exact hL p hp
theorem Pl.self {W0 W : World} {L : List (Value × AV)} (h : Pl W0 L W) : Pl W L W := ⟨Below.refl _ _, h.ex⟩
theorem cPlain1 {W0 W : World} {L : List (Value × AV)} (h : Pl W0 L W) {v : Value} {t : Th} (hm : (v, AV.sl 3 (encTs [t])) ∈ L) (ht : SmTh t) :
    Calls Tryz.prog 9 #[v] W fun e w' => ∃ g o cap s b1 n1 c1 b2 n2 c2, e = .returned (.slice (some ⟨g, o, none⟩) 1 cap) ∧ s.data.toList = t.n ∧ w'.cell? ⟨g, o, none⟩ = some (.string s) ∧ w'.cell? ⟨g, o + 1, none⟩ = some (.slice b1 n1 c1) ∧ w'.cell? ⟨g, o + 2, none⟩ = some (.slice b2 n2 c2) ∧
      Gr.Ax (Pl W0 ((.slice b1 n1 c1, .sl 8 (encV t.v)) :: (.slice b2 n2 c2, .sl 1 (encD t.d)) :: L) w') :=
  (cPlain h hm (by simp) fun x hx => by simp at hx; subst hx; exact ht).mono fun e w' ⟨u, he, hB, hP⟩ => by
    obtain ⟨g, o, cap, s, b1, n1, c1, b2, n2, c2, rfl, hs, q0, q1, q2, hQ⟩ := hP.open (List.mem_cons_self ..) (i := 0) rfl
    refine ⟨g, o, cap, s, b1, n1, c1, b2, n2, c2, he, hs, by simpa using q0, by simpa using q1, by simpa using q2, ⟨hQ.sub fun p hp => ?_⟩⟩
    rcases List.mem_cons.1 hp with rfl | hp
    · exact List.mem_cons_self ..
    · rcases List.mem_cons.1 hp with rfl | hp
      · exact List.mem_cons_of_mem _ (List.mem_cons_self ..)
      · exact List.mem_cons_of_mem _ (List.mem_cons_of_mem _ (List.mem_cons_of_mem _ hp))
theorem Lo.bel {F : List Nat} {w w' w0 : World} {B : Nat} (h : Lo F w w') (hF : ∀ b ∈ F, B ≤ b) (hw : B ≤ w.heap.size) (h0 : Below B w0 w) : Below B w0 w' :=
  ⟨h.os.trans h0.os, h.tape.trans h0.tape, h.output.trans h0.output, Nat.le_trans h0.size h.size, fun k hk => (h.low k (by omega) fun c => by have := hF k c; omega).trans (h0.block k hk)⟩
end Go.Proofs.YtffojfcinkihnaaGreatDoor.Th
