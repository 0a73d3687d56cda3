/- Graphs in memory: Turned. -/
import Derived.Test.YtmdimhcjogjcgaaGreatDoorGaq
import Derived.Test.YtmdimhcjogjcgaaGreatDoorGao
import Derived.Maps.AppendAt
import Derived.OwnWalk
set_option linter.all false
set_option maxRecDepth 100000
set_option maxHeartbeats 8000000
noncomputable section
namespace Go.Proofs.YtmdimhcjogjcgaaGreatDoor.Gr
open Go.RowKit Go.Lib Go.Proofs.YtmdimhcjogjcgaaGreatDoor.Lat Go.Proofs.YtmdimhcjogjcgaaGreatDoor.Mp Go.Maps
theorem wo {α : Type} [BEq α] [LawfulBEq α] : ∀ {l m : List α}, l.Nodup → (∀ x, x ∈ l → x ∈ m) → l.length ≤ m.length
 | [], _, _, _ => Nat.zero_le _
 | x :: l, m, hn, hs => by
  have hx := hs x (List.mem_cons_self ..)
  have hn' := List.nodup_cons.1 hn
  have h1 := wo (m := m.erase x) hn'.2 fun y hy => by
   have hne : y ≠ x := fun e => hn'.1 (e ▸ hy)
   exact (List.mem_erase_of_ne hne).2 (hs y (List.mem_cons_of_mem _ hy))
  rw [List.length_erase_of_mem hx] at h1
  have : 0 < m.length := List.length_pos_of_mem hx
  simp only [List.length_cons]
  omega
def Few (f : Gr) (N : Nat) : Prop := ∃ P : List Bs, (∀ k, f k ≠ none → k ∈ P) ∧ P.length ≤ N ∧ ∀ k ∈ P, k.length ≤ maxLen
theorem Few.list {f : Gr} {N : Nat} (h : Few f N) (hok : ly f) {k : Bs} {l : List Bs} (hl : f k = some l) : l.length ≤ N := by
 obtain ⟨P, h1, h2, _⟩ := h
 exact Nat.le_trans (wo (hok.ris k l hl).nodup fun y hy => h1 y (hok.pt k l y hl hy)) h2
theorem Few.name {f : Gr} {N : Nat} (h : Few f N) {k : Bs} (hk : f k ≠ none) : k.length ≤ maxLen := by
 obtain ⟨P, h1, _, h3⟩ := h
 exact h3 k (h1 k hk)
theorem Few.pts {f : Gr} {N n : Nat} (h : Few f N) {l : List Bs} (hl : ajq f n l) : l.length ≤ N := by
 obtain ⟨P, h1, h2, _⟩ := h
 exact Nat.le_trans (wo hl.ris.nodup fun y hy => h1 y ((hl.mem y).1 hy)) h2
theorem Few.same {f f' : Gr} {N : Nat} (h : Few f N) (hp : ∀ k, f' k ≠ none ↔ f k ≠ none) : Few f' N := by
 obtain ⟨P, h1, h2⟩ := h
 exact ⟨P, fun k hk => h1 k ((hp k).1 hk), h2⟩
theorem ase (l : List Bs) : ∀ k, qs l k ≠ none ↔ k ∈ l := by
 unfold qs
 suffices h : ∀ (l : List Bs) (f : Gr) k, l.foldl dt f k ≠ none ↔ k ∈ l ∨ f k ≠ none by intro k; rw [h]; simp
 intro l
 induction l with
 | nil => intro f k; simp
 | cons x r ih =>
  intro f k
  rw [List.foldl_cons, ih, wm, List.mem_cons]
  constructor
  ·rintro (h | h | h) <;> simp [h]
  ·rintro ((h | h) | h) <;> simp [h]
theorem alg (l : List Bs) : ∀ a b, ¬ fw (qs l) a b := by
 unfold qs
 suffices h : ∀ (l : List Bs) (f : Gr) a b, fw (l.foldl dt f) a b ↔ fw f a b by
  intro a b; rw [h]; rintro ⟨l, h, _⟩; cases h
 intro l
 induction l with
 | nil => intro f a b; rfl
 | cons x r ih => intro f a b; rw [List.foldl_cons, ih, yt]
theorem asg (l : List Bs) : ly (qs l) := by
 unfold qs
 suffices h : ∀ (l : List Bs) (f : Gr), ly f → ly (l.foldl dt f) from h l _ a2t
 intro l
 induction l with
 | nil => intro f h; exact h
 | cons x r ih => intro f h; exact ih _ (ab1 h x)
theorem qt {l : List Bs} {i : Nat} {x y : Bs} (h : l[i]? = some x) : y ∈ l.take (i + 1) ↔ y ∈ l.take i ∨ y = x := by
 have e : l.take (i + 1) = l.take i ++ [x] := by rw [List.take_add_one, h]; rfl
 rw [e, List.mem_append, List.mem_singleton]
structure Tn (f : Gr) (B bg bm n : Nat) (Q : List Bs) (k : Bs) (L : List Bs) (W : World) : Prop where
 ex : ∃ f', IsG W B bg bm n f' ∧ ly f' ∧ (∀ x, f' x ≠ none ↔ f x ≠ none) ∧ ∀ a b, fw f' a b ↔ (fw f b a ∧ b ∈ Q) ∨ (b = k ∧ a ∈ L)
theorem Tn.below {f : Gr} {B bg bm n : Nat} {Q L : List Bs} {k : Bs} {W W' : World} (h : Tn f B bg bm n Q k L W) (hB : Below W.heap.size W W') : Tn f B bg bm n Q k L W' := by
 obtain ⟨f', h1, h2⟩ := h.ex
 exact ⟨f', h1.below hB, h2⟩
theorem Tn.mono {f : Gr} {B bg bm n m : Nat} {Q L : List Bs} {k : Bs} {W : World} (h : Tn f B bg bm n Q k L W) (hm : n ≤ m) : Tn f B bg bm m Q k L W := by
 obtain ⟨f', h1, h2⟩ := h.ex
 exact ⟨f', h1.mono hm, h2⟩
theorem Tn.enter {f : Gr} {B bg bm n : Nat} {Q : List Bs} {k k' : Bs} {W : World} (h : Tn f B bg bm n Q k [] W) : Tn f B bg bm n Q k' [] W := by
 obtain ⟨f', h1, h2, h3, h4⟩ := h.ex
 exact ⟨f', h1, h2, h3, fun a b => by rw [h4]; simp⟩
theorem Tn.leave {f : Gr} {B bg bm n : Nat} {P : List Bs} {i : Nat} {k : Bs} {W : World} (hP : P[i]? = some k) (h : Tn f B bg bm n (P.take i) k ((f k).getD []) W) : Tn f B bg bm n (P.take (i + 1)) k [] W := by
 obtain ⟨f', h1, h2, h3, h4⟩ := h.ex
 refine ⟨f', h1, h2, h3, fun a b => ?_⟩
 rw [h4, qt hP]
 have e : a ∈ (f k).getD [] ↔ fw f k a := by
  unfold fw
  cases f k with
  | none => simp
  | some l => simp
 rw [e]
 constructor
 ·rintro (⟨q, q'⟩ | ⟨rfl, q⟩)
  ·exact .inl ⟨q, .inl q'⟩
  ·exact .inl ⟨q, .inr rfl⟩
 ·rintro (⟨q, q' | rfl⟩ | ⟨_, q⟩)
  ·exact .inl ⟨q, q'⟩
  ·exact .inr ⟨rfl, q⟩
  ·cases q
theorem avq {w : World} {B bg bm n : Nat} {f : Gr} {Q L : List Bs} {k x : Bs} {j N : Nat} {lt : List Bs} (hx : lt[j]? = some x) (h : Tn f B bg bm n Q k (lt.take j) w) (hN : Few f N) (hN2 : N ≤ 16384) (hB : B ≤ w.heap.size) (hxp : f x ≠ none) (hkp : f k ≠ none) (hn : n ≤ 1073741824) :
  Calls Tryz.prog 117 #[.pointer (some ⟨bg, 0, none⟩), .string ⟨x.toArray⟩, .string ⟨k.toArray⟩] w fun e w' => e = .returned (.tuple #[]) ∧ Ax (Tn f B bg bm (n + 3) Q k (lt.take (j + 1)) w' ∧ w.grownBy w' (some bm)) := by
 obtain ⟨f', h1, h2, h3, h4⟩ := h.ex
 have hF := hN.same h3
 refine (alf h1 h2 hB x k (hN.name hxp) (hN.name hkp) hn fun a l hl => Nat.le_trans (hF.list h2 hl) (by omega)).mono fun e w' ⟨he, hI, hg⟩ => ⟨he, ⟨⟨_, hI, aoa h2 x k, fun y => ?_, fun a b => ?_⟩, hg⟩⟩
 ·rw [ag9, h3]
  constructor
  ·rintro (rfl | rfl | h)
   ·exact hxp
   ·exact hkp
   ·exact h
  ·exact fun h => .inr (.inr h)
 ·rw [ab2, h4, qt hx]
  constructor
  ·rintro (⟨rfl, rfl⟩ | h | ⟨h, h'⟩)
   ·exact .inr ⟨rfl, .inr rfl⟩
   ·exact .inl h
   ·exact .inr ⟨h, .inl h'⟩
  ·rintro (h | ⟨rfl, h' | rfl⟩)
   ·exact .inr (.inl h)
   ·exact .inr (.inr ⟨rfl, h'⟩)
   ·exact .inl ⟨rfl, rfl⟩
theorem apo {w : World} {B bg bm n N : Nat} {f : Gr} (h : IsG w B bg bm n f) (hok : ly f) (hF : Few f N) (hN : N ≤ 16384) (hn : n ≤ 1073741824) :
  Calls Tryz.prog 161 #[.pointer (some ⟨bg, 0, none⟩)] w fun e w' => ∃ bg' bm' f', e = .returned (.pointer (some ⟨bg', 0, none⟩)) ∧ IsG w' w.heap.size bg' bm' (N + 3 * (N * N)) f' ∧ ly f' ∧ (∀ x, f' x ≠ none ↔ f x ≠ none) ∧ (∀ a b, fw f' a b ↔ fw f b a) ∧ Below w.heap.size w w' := by
 have C1 := Lib.hid (aay h hn)
 have hI := Lib.hid h
 go_enter Tryz.func161, Tryz.ntmps161
 go_wp2_with fail
 refine C1.out.mono ?_
 rintro e w1 ⟨v1, P, rfl, hP, hrow1, hB1⟩
 have hPN := hF.pts hP
 have C2 := Lib.hid (aof hrow1 hP.small (by omega))
 clear C1
 have hB1 := Lib.hid hB1
 have hP := Lib.hid hP
 clear hrow1
 go_wp2_with fail
 refine C2.out.mono ?_
 rintro e w2 ⟨bg', bm', rfl, hI2, hB2⟩
 have hB12 := dp hB1.out (Nat.le_refl _) hB2
 have hg2 := hI.out.below hB12
 have C3 := Lib.hid (aay hg2 hn)
 have hT2 : Tn f w1.heap.size bg' bm' N [] [] [] w2 := ⟨_, hI2.mono hPN, asg P, fun x => by rw [ase, hP.out.mem], fun a b => by simp [alg P a b]⟩
 have hT2 := Lib.hid hT2
 have hB12 := Lib.hid hB12
 have hg2 := Lib.hid hg2
 clear C2 hI2 hB2
 go_wp2_with fail
 refine C3.out.mono ?_
 rintro e w3 ⟨v3, P3, rfl, hP3, hrow3, hB3⟩
 obtain rfl : P3 = P := afk hP3.ris hP.out.ris fun x => by rw [hP3.mem, hP.out.mem]
 obtain ⟨A, cap, rfl, hA⟩ := j9 hrow3
 have hT3 := Lib.hid (hT2.out.below hB3)
 have hB13 := dp hB12.out (Nat.le_refl _) hB3
 have hg3 := Lib.hid (hI.out.below hB13)
 have hB13 := Lib.hid hB13
 have hA := Lib.hid hA
 obtain ⟨es0, c0, hmap3⟩ : ∃ es c, w3.heap[bm']? = some (.map es c) := by obtain ⟨_, hx, _⟩ := hT3.out.ex; obtain ⟨_, h1, _⟩ := hx.map; exact h1.blk
 have hbm' : w.heap.size ≤ bm' := by
  obtain ⟨_, hx, _⟩ := hT3.out.ex
  exact Nat.le_trans hB1.out.size hx.hBm
 have hbmw : bm < w.heap.size := by obtain ⟨_, h1, _⟩ := hI.out.map; exact h1.lt
 have hmap3 := Lib.hid hmap3
 clear C3 hP3 hrow3 hB3 hB12 hg2 hT2
 go_wp2_with fail
 go_loopg [14] P3.length (fun gk v14 W => ∃ i : Nat, i + gk = P3.length ∧ v14 = .int .i64 i ∧ Ax (Tn f w1.heap.size bg' bm' (N + 3 * (N * i)) (P3.take i) [] [] W ∧ w3.grownBy W (some bm')))
 case atStart => exact ⟨0, by omega, rfl, ⟨by simpa using hT3.out, mz _ _⟩⟩
 case round =>
  clear hT3
  obtain ⟨i, hig, rfl, HM⟩ := hrel
  by_cases hi : i < P3.length
  ·obtain ⟨g1, rfl⟩ : ∃ j, gk = j + 1 := ⟨gk - 1, by omega⟩
   obtain ⟨k, hk⟩ : ∃ x, P3[i]? = some x := ⟨P3[i], List.getElem?_eq_getElem hi⟩
   obtain ⟨g, rfl, hg, _, hcell⟩ := hA.out i k hk
   have hkp := (hP.out.mem k).1 (List.mem_of_getElem? hk)
   have hgb : g ≠ bm' := fun e => by
    subst e
    have := hmap3.out
    simp [World.cell?, this] at hcell
   have hc : wr.cell? ⟨g, i, none⟩ = some (.string ⟨k.toArray⟩) := by rw [World.cell?_of_block (HM.out.2.block g hg (by simpa using hgb))]; exact hcell
   have hkl : (⟨k.toArray⟩ : ByteArray).size ≤ maxLen := by rw [size_mk]; exact hF.name hkp
   have hgr := hg3.out.other HM.out.2 hmap3.out (by omega)
   have C4 := Lib.hid (ale hgr ⟨k.toArray⟩ hkl fun l hl => Nat.le_trans (hF.list hok hl) (by omega))
   have hiN : N * i + N ≤ N * N := by
    have : i + 1 ≤ N := by omega
    calc N * i + N = N * (i + 1) := by rw [Nat.mul_succ]
     _ ≤ N * N := Nat.mul_le_mul_left _ this
   have hNN : N * N ≤ 268435456 := by
    calc N * N ≤ 16384 * 16384 := Nat.mul_le_mul hN hN
     _ = 268435456 := by decide
   have hgr := Lib.hid hgr
   clear hcell
   go_wp2_with fail
   refine C4.out.mono ?_
   rintro e w4 ⟨v4, rfl, hrow4, hB4⟩
   try rw [rj] at hrow4
   have hltp : ∀ x ∈ (f k).getD [], f x ≠ none := fun x hx => by
    cases hf : f k with
    | none => rw [hf] at hx; cases hx
    | some l => rw [hf] at hx; exact hok.pt k l x hf hx
   have hltN : ((f k).getD []).length ≤ N := by
    cases hf : f k with
    | none => simp
    | some l => exact hF.list hok hf
   obtain ⟨lt, hlt⟩ : ∃ lt, (f k).getD [] = lt := ⟨_, rfl⟩
   rw [hlt] at hrow4 hltp hltN
   obtain ⟨A4, cap4, rfl, hA4⟩ := j9 hrow4
   have hA4 := Lib.hid hA4
   have hT4 := Lib.hid ((HM.out.1.below hB4).enter (k' := k))
   have hg4 := Lib.hid (dv HM.out.2 (gn _ hB4))
   have hmap4 : ∃ es c, w4.heap[bm']? = some (.map es c) := by obtain ⟨_, hx, _⟩ := hT4.out.ex; obtain ⟨_, h1, _⟩ := hx.map; exact h1.blk
   obtain ⟨es4, c4, hmap4⟩ := hmap4
   have hmap4 := Lib.hid hmap4
   have hsz4 : w1.heap.size ≤ w4.heap.size := by
    obtain ⟨_, hx, _⟩ := hT4.out.ex
    have := hx.hB
    have := dz hx.blk
    omega
   clear C4 hrow4 hB4 HM hgr hc
   go_wp2_with fail
   go_loopg [22] lt.length (fun gk v22 W => ∃ j : Nat, j + gk = lt.length ∧ v22 = .int .i64 j ∧ Ax (Tn f w1.heap.size bg' bm' (N + 3 * (N * i) + 3 * j) (P3.take i) k (lt.take j) W ∧ w4.grownBy W (some bm')))
   case atStart => exact ⟨0, by omega, rfl, ⟨by simpa using hT4.out, mz _ _⟩⟩
   case round =>
    clear hT4
    obtain ⟨j, hjg, rfl, HJ⟩ := hrel
    by_cases hj : j < lt.length
    ·obtain ⟨g2, rfl⟩ : ∃ j, gk = j + 1 := ⟨gk - 1, by omega⟩
     obtain ⟨x, hx⟩ : ∃ x, lt[j]? = some x := ⟨lt[j], List.getElem?_eq_getElem hj⟩
     obtain ⟨q, rfl, hq, _, hcell⟩ := hA4.out j x hx
     have hxp := hltp x (List.mem_of_getElem? hx)
     have hqb : q ≠ bm' := fun e => by
      subst e
      have := hmap4.out
      simp [World.cell?, this] at hcell
     have hc : wr.cell? ⟨q, j, none⟩ = some (.string ⟨x.toArray⟩) := by rw [World.cell?_of_block (HJ.out.2.block q hq (by simpa using hqb))]; exact hcell
     have C5 := Lib.hid (avq (L := lt) hx HJ.out.1 hF hN (Nat.le_trans hsz4 HJ.out.2.size) hxp hkp (by omega))
     clear hcell
     go_wp2_with fail
     refine C5.out.mono ?_
     rintro e w5 ⟨rfl, h5⟩
     have hnx := Lib.hid (show Ax (Tn f w1.heap.size bg' bm' (N + 3 * (N * i) + 3 * (j + 1)) (P3.take i) k (lt.take (j + 1)) w5 ∧ w4.grownBy w5 (some bm')) from ⟨h5.out.1.mono (by omega), dv HJ.out.2 h5.out.2⟩)
     clear C5 h5 HJ hc
     go_wp2_with fail
     go_roundg g2
     case measure => omega
     case rel => exact ⟨j + 1, by omega, by go_num, hnx.out⟩
    ·obtain rfl : gk = 0 := by omega
     obtain rfl : j = lt.length := by omega
     have hnx := Lib.hid (show Ax (Tn f w1.heap.size bg' bm' (N + 3 * (N * (i + 1))) (P3.take (i + 1)) [] [] wr ∧ w3.grownBy wr (some bm')) from
      ⟨((Tn.leave hk (by have := HJ.out.1; rw [List.take_length] at this; rw [hlt]; exact this)).mono (by rw [Nat.mul_succ]; omega)).enter, dv hg4.out HJ.out.2⟩)
     clear HJ
     go_wp2_with fail
     go_roundg g1
     case measure => omega
     case rel => exact ⟨i + 1, by omega, by go_num, hnx.out⟩
  ·obtain rfl : gk = 0 := by omega
   obtain rfl : i = P3.length := by omega
   go_wp2_with fail
   go_ret
   obtain ⟨f', h1, h2, h3, h4⟩ := HM.out.1.ex
   have hle : N + 3 * (N * P3.length) ≤ N + 3 * (N * N) := by
    have := Nat.mul_le_mul_left N hPN
    omega
   refine ⟨bg', bm', f', rfl, (IsG.mono ⟨Nat.le_trans hB1.out.size h1.hB, Nat.le_trans hB1.out.size h1.hBm, h1.blk, ?_⟩ hle), h2, h3, fun a b => ?_, og hB13.out (Nat.le_refl _) HM.out.2 hbm'⟩
   ·obtain ⟨F, m1, m2⟩ := h1.map
    exact ⟨F, m1, fun k => ⟨(m2 k).1, fun v l hv hl => my ((m2 k).2 v l hv hl) hB1.out.size⟩⟩
   ·rw [h4, List.take_length, hP.out.mem]
    constructor
    ·rintro (⟨h, _⟩ | ⟨_, h⟩)
     ·exact h
     ·cases h
    ·intro h
     obtain ⟨l, hl, _⟩ := id h
     exact .inl ⟨h, by rw [hl]; simp⟩
end Go.Proofs.YtmdimhcjogjcgaaGreatDoor.Gr
namespace Go.Proofs.YtmdimhcjogjcgaaGreatDoor.Lat
open Go.Proofs.YtmdimhcjogjcgaaGreatDoor.Abs
section
variable (N : List Bs) (E : List (Bs × Bs)) (hN : N.length ≤ 1048576) (hE : E.length ≤ 1048576)
include hN hE
end
end Go.Proofs.YtmdimhcjogjcgaaGreatDoor.Lat
namespace Go.Proofs.YtmdimhcjogjcgaaGreatDoor.Gr
open Go.Proofs.YtmdimhcjogjcgaaGreatDoor.Lat Go.Proofs.YtmdimhcjogjcgaaGreatDoor.Mp
open Go.Proofs.YtmdimhcjogjcgaaGreatDoor.Abs (ai)
def cnt (f : Gr) (out : List Bs) (k : Bs) : Nat := ((f k).getD []).countP fun y => decide (y ∉ out)
theorem adq {out : List Bs} {k : Bs} (hk : k ∉ out) : ∀ (l : List Bs), l.Nodup → l.countP (fun y => decide (y ∉ out)) = l.countP (fun y => decide (y ∉ out ++ [k])) + if k ∈ l then 1 else 0
 | [], _ => by simp
 | x :: l, h => by
  have h' := List.nodup_cons.1 h
  rw [List.countP_cons, List.countP_cons, adq hk l h'.2]
  by_cases hx : x = k
  ·subst hx
   simp [hk, h'.1]
  ·have e : (x ∉ out ++ [k]) ↔ x ∉ out := by simp [hx]
   have e2 : k ∈ x :: l ↔ k ∈ l := by simp [Ne.symm hx]
   simp only [e, e2]
   omega
theorem xr {f : Gr} {k y : Bs} : y ∈ (f k).getD [] ↔ fw f k y := by
 unfold fw
 cases f k with
 | none => simp
 | some l => simp
theorem ad9 {f : Gr} {out : List Bs} {k : Bs} : cnt f out k = 0 ↔ ∀ y, fw f k y → y ∈ out := by
 unfold cnt
 rw [List.countP_eq_zero]
 constructor
 ·intro h y hy
  have := h y (xr.2 hy)
  simpa using this
 ·intro h y hy
  simpa using h y (xr.1 hy)
theorem apq {f : Gr} (hok : ly f) (k : Bs) : ((f k).getD []).Nodup := by
 cases hf : f k with
 | none => exact List.nodup_nil
 | some l => exact (hok.ris k l hf).nodup
theorem alh {f : Gr} (hok : ly f) {out : List Bs} {k : Bs} (hk : k ∉ out) (x : Bs) : (fw f x k → cnt f out x = cnt f (out ++ [k]) x + 1) ∧ (¬ fw f x k → cnt f out x = cnt f (out ++ [k]) x) := by
 have := adq hk _ (apq hok x)
 unfold cnt
 refine ⟨fun h => ?_, fun h => ?_⟩
 ·rw [if_pos (xr.2 h)] at this; exact this
 ·rw [if_neg (fun c => h (xr.1 c))] at this; exact this
structure Inv (f : Gr) (out : List Bs) (C : Bs → Option Nat) (free : List Bs) : Prop where
 nd : out.Nodup
 pt : ∀ k ∈ out, f k ≠ none
 dom : ∀ k, C k ≠ none ↔ f k ≠ none ∧ k ∉ out
 val : ∀ k c, C k = some c → c = cnt f out k
 ris : Ris free
 fr : ∀ k, k ∈ free ↔ C k = some 0
 pre : ∀ (i : Nat) (k : Bs), out[i]? = some k → (∀ y, fw f k y → y ∈ out.take i) ∧ ∀ y, f y ≠ none → y ∉ out.take i → (∀ z, fw f y z → z ∈ out.take i) → y = k ∨ ai k y = true
structure vi (f : Gr) (out : List Bs) (k : Bs) (T : List Bs) (j : Nat) (C : Bs → Option Nat) (free : List Bs) : Prop where
 dom : ∀ x, C x ≠ none ↔ f x ≠ none ∧ x ∉ out ++ [k]
 val : ∀ x c, C x = some c → c = if x ∈ T.take j then cnt f (out ++ [k]) x else cnt f out x
 ris : Ris free
 fr : ∀ x, x ∈ free ↔ C x = some 0
theorem Inv.start {f : Gr} {n : Nat} {P : List Bs} (hP : ajq f n P) {C : Bs → Option Nat} (h1 : ∀ k, C k ≠ none ↔ k ∈ P) (h2 : ∀ k c, C k = some c → c = ((f k).getD []).length) {free : List Bs} (h3 : free = P.filter fun k => decide (((f k).getD []).length = 0)) : Inv f [] C free := by
 refine ⟨List.nodup_nil, by simp, fun k => by rw [h1, hP.mem]; simp, fun k c hc => ?_, ?_, fun k => ?_, fun i k h => by simp at h⟩
 ·rw [h2 k c hc]
  unfold cnt
  rw [List.countP_eq_length.2]
  simp
 ·rw [h3]; exact hP.ris.filter _
 ·rw [h3, List.mem_filter, ← h1]
  constructor
  ·rintro ⟨a, b⟩
   obtain ⟨c, hc⟩ := Option.ne_none_iff_exists'.1 a
   rw [hc, h2 k c hc]
   simpa using b
  ·intro h
   exact ⟨by rw [h]; simp, by simpa using (h2 k 0 h).symm⟩
theorem Inv.head {f : Gr} {out r : List Bs} {C : Bs → Option Nat} {k : Bs} (h : Inv f out C (k :: r)) : f k ≠ none ∧ k ∉ out ∧ ∀ y, fw f k y → y ∈ out := by
 have h0 := (h.fr k).1 (List.mem_cons_self ..)
 have h1 := (h.dom k).1 (by rw [h0]; simp)
 exact ⟨h1.1, h1.2, ad9.1 (h.val k 0 h0).symm⟩
theorem vi.start {f : Gr} {out r : List Bs} {C : Bs → Option Nat} {k : Bs} (T : List Bs) (h : Inv f out C (k :: r)) : vi f out k T 0 (upd C k none) r := by
 have hr := List.pairwise_cons.1 h.ris
 have hkr : k ∉ r := fun c => by have := hr.1 k c; rw [ic] at this; cases this
 refine ⟨fun x => ?_, fun x c hc => ?_, hr.2, fun x => ?_⟩
 ·by_cases hx : x = k
  ·subst hx; simp [jf]
  ·rw [pc _ _ hx, h.dom]; simp [hx]
 ·by_cases hx : x = k
  ·subst hx; rw [jf] at hc; cases hc
  ·rw [pc _ _ hx] at hc
   simp [h.val x c hc]
 ·by_cases hx : x = k
  ·subst hx; simp [jf, hkr]
  ·rw [pc _ _ hx, ← h.fr x]; simp [hx]
theorem vi.step {f : Gr} (hok : ly f) {out T free : List Bs} {C : Bs → Option Nat} {k x : Bs} {j : Nat} (hT : Ris T) (hTm : ∀ x, x ∈ T ↔ fw f x k) (hko : k ∉ out) (hkl : ∀ y, fw f k y → y ∈ out) (hcl : ∀ y ∈ out, ∀ z, fw f y z → z ∈ out)
  (h : vi f out k T j C free) (hx : T[j]? = some x) : ∃ c, C x = some (c + 1) ∧ c + 1 ≤ ((f x).getD []).length ∧ f x ≠ none ∧ (c ≠ 0 → vi f out k T (j + 1) (upd C x (some c)) free) ∧ (c = 0 → x ∉ free ∧ vi f out k T (j + 1) (upd C x (some c)) (xq free x)) := by
 have hxk := (hTm x).1 (List.mem_of_getElem? hx)
 have hfx : f x ≠ none := by obtain ⟨l, hl, _⟩ := hxk; rw [hl]; simp
 have hxo : x ∉ out ++ [k] := by
  intro c
  rcases List.mem_append.1 c with c | c
  ·exact hko (hcl x c k hxk)
  ·have e : x = k := by simpa using c
   subst e
   exact hko (hkl x hxk)
 obtain ⟨d, hd⟩ := Option.ne_none_iff_exists'.1 ((h.dom x).2 ⟨hfx, hxo⟩)
 have hxt : x ∉ T.take j := by
  intro c
  obtain ⟨i, hi, he⟩ := List.getElem_of_mem c
  have hi' : i < j := by have := hi; simp at this; omega
  have hj := (List.getElem?_eq_some_iff.1 hx).1
  have h1 : ai T[i] T[j] = true := List.pairwise_iff_getElem.1 hT _ _ _ hj hi'
  have e1 : T[i] = x := by simpa using he
  have e2 : T[j] = x := (List.getElem?_eq_some_iff.1 hx).2
  rw [e1, e2, ic] at h1; cases h1
 have hv := h.val x d hd
 rw [if_neg hxt] at hv
 have hs := (alh hok hko x).1 hxk
 refine ⟨cnt f (out ++ [k]) x, by rw [hd, hv, hs], ?_, hfx, ?_⟩
 ·rw [← hs]; exact List.countP_le_length
 have hdom : ∀ y, upd C x (some (cnt f (out ++ [k]) x)) y ≠ none ↔ f y ≠ none ∧ y ∉ out ++ [k] := fun y => by
  by_cases hy : y = x
  ·subst hy; rw [jf]; simp only [ne_eq, reduceCtorEq, not_false_eq_true, true_iff]; exact ⟨hfx, hxo⟩
  ·rw [pc _ _ hy]; exact h.dom y
 have hval : ∀ y c, upd C x (some (cnt f (out ++ [k]) x)) y = some c → c = if y ∈ T.take (j + 1) then cnt f (out ++ [k]) y else cnt f out y := fun y c hc => by
  by_cases hy : y = x
  ·subst hy
   rw [jf] at hc; cases hc
   rw [if_pos ((qt hx).2 (.inr rfl))]
  ·rw [pc _ _ hy] at hc
   rw [h.val y c hc]
   have : y ∈ T.take (j + 1) ↔ y ∈ T.take j := by rw [qt hx]; simp [hy]
   simp only [this]
 have hnf : x ∉ free := fun c => by
  have := (h.fr x).1 c
  rw [hd, hv, hs] at this; cases this
 refine ⟨fun hc => ⟨hdom, hval, h.ris, fun y => ?_⟩, fun hc => ⟨hnf, hdom, hval, ad8 h.ris hnf, fun y => ?_⟩⟩
 ·by_cases hy : y = x
  ·subst hy
   rw [jf]
   simp [hnf, hc]
  ·rw [pc _ _ hy]; exact h.fr y
 ·rw [ad7]
  by_cases hy : y = x
  ·subst hy
   rw [jf]
   simp [hc]
  ·rw [pc _ _ hy, ← h.fr y]
   simp [hy]
theorem Inv.closed {f : Gr} {out free : List Bs} {C : Bs → Option Nat} (h : Inv f out C free) : ∀ y ∈ out, ∀ z, fw f y z → z ∈ out := fun y hy z hz => by
 obtain ⟨i, hi, he⟩ := List.getElem_of_mem hy
 exact List.mem_of_mem_take ((h.pre i y (by rw [List.getElem?_eq_getElem hi, he])).1 z hz)
theorem vi.stop {f : Gr} (hok : ly f) {out T free r : List Bs} {C C0 : Bs → Option Nat} {k : Bs} (hTm : ∀ x, x ∈ T ↔ fw f x k) (h0 : Inv f out C0 (k :: r)) (h : vi f out k T T.length C free) : Inv f (out ++ [k]) C free := by
 obtain ⟨h1, h2, h3⟩ := h0.head
 refine ⟨?_, fun x hx => ?_, h.dom, fun x c hc => ?_, h.ris, h.fr, fun i x hx => ?_⟩
 ·rw [List.nodup_append]
  exact ⟨h0.nd, by simp, fun a ha b hb e => by simp at hb; subst hb; subst e; exact h2 ha⟩
 ·rcases List.mem_append.1 hx with hx | hx
  ·exact h0.pt x hx
  ·have e : x = k := by simpa using hx
   subst e; exact h1
 ·rw [h.val x c hc, List.take_length]
  split
  ·rfl
  ·rename_i hx
   exact (alh hok h2 x).2 fun hl => hx ((hTm x).2 hl)
 ·rw [List.getElem?_append] at hx
  split at hx
  ·rename_i hi
   rw [List.take_append_of_le_length (by omega)]
   exact h0.pre i x hx
  ·rename_i hi
   have hi2 : i = out.length := by
    have := (List.getElem?_eq_some_iff.1 hx).1
    simp at this; omega
   subst hi2
   simp at hx
   subst hx
   rw [List.take_append_of_le_length (Nat.le_refl _), List.take_length]
   refine ⟨h3, fun y hy hyo hyl => ?_⟩
   have hc : C0 y ≠ none := (h0.dom y).2 ⟨hy, hyo⟩
   obtain ⟨c, hc⟩ := Option.ne_none_iff_exists'.1 hc
   have hc0 : c = 0 := by rw [h0.val y c hc]; exact ad9.2 hyl
   subst hc0
   rcases List.mem_cons.1 ((h0.fr y).2 hc) with rfl | hm
   ·exact .inl rfl
   ·exact .inr ((List.pairwise_cons.1 h0.ris).1 y hm)
structure ajr (f : Gr) (out bound : List Bs) : Prop where
 nd : out.Nodup
 ris : Ris bound
 all : ∀ k, f k ≠ none ↔ k ∈ out ∨ k ∈ bound
 apart : ∀ k ∈ out, k ∉ bound
 pre : ∀ (i : Nat) (k : Bs), out[i]? = some k → (∀ y, fw f k y → y ∈ out.take i) ∧ ∀ y, f y ≠ none → y ∉ out.take i → (∀ z, fw f y z → z ∈ out.take i) → y = k ∨ ai k y = true
 back : ∀ k ∈ bound, ∃ y ∈ bound, fw f k y
theorem Inv.stop {f : Gr} (hok : ly f) {out bound : List Bs} {C : Bs → Option Nat} (h : Inv f out C []) (hb : Ris bound) (hm : ∀ k, k ∈ bound ↔ C k ≠ none) : ajr f out bound := by
 refine ⟨h.nd, hb, fun k => ?_, fun k hk c => ((h.dom k).1 ((hm k).1 c)).2 hk, h.pre, fun k hk => ?_⟩
 ·rw [hm, h.dom]
  by_cases hk : k ∈ out
  ·simp [hk, h.pt k hk]
  ·simp [hk]
 ·have hc := (hm k).1 hk
  obtain ⟨c, hc'⟩ := Option.ne_none_iff_exists'.1 hc
  have hne : cnt f out k ≠ 0 := fun e => by
   have h0 := h.val k c hc'
   rw [e] at h0; subst h0
   have := (h.fr k).2 hc'
   cases this
  have : ∃ y, fw f k y ∧ y ∉ out := Classical.byContradiction fun hn => hne (ad9.2 fun y hy => Classical.byContradiction fun c => hn ⟨y, hy, c⟩)
  obtain ⟨y, hy, hyo⟩ := this
  obtain ⟨l, hl, hyl⟩ := id hy
  exact ⟨y, (hm y).2 ((h.dom y).2 ⟨hok.pt k l y hl hyl, hyo⟩), hy⟩
end Go.Proofs.YtmdimhcjogjcgaaGreatDoor.Gr
namespace Go.Proofs.YtmdimhcjogjcgaaGreatDoor.Gr
open Go.RowKit Go.Lib Go.Proofs.YtmdimhcjogjcgaaGreatDoor.Lat Go.Proofs.YtmdimhcjogjcgaaGreatDoor.Mp Go.Maps
open Go.Proofs.YtmdimhcjogjcgaaGreatDoor.Abs (ai km)
def RdS (w : World) (B : Nat) (v : Value) (L : List Bs) : Prop := ∃ A cap, v = .slice A L.length cap ∧ L.length ≤ cap ∧ (∀ a, A = some a → ∃ g o, a = ⟨g, o, none⟩ ∧ g < w.heap.size) ∧ ∀ i x, L[i]? = some x → ∃ g o, A = some ⟨g, o, none⟩ ∧ B ≤ g ∧ w.cell? ⟨g, o + i, none⟩ = some (encStr x)
theorem ali {w : World} {B : Nat} {v : Value} {l : List Bs} (h : w.ownsRow B 9 1 v l.length (l.map encStr)) : RdS w B v l := by
 obtain ⟨h1, ⟨rfl, h2⟩ | ⟨g, cap, cur, rfl, h3, h4, h5, h6, h7, h8⟩⟩ := id h
 ·obtain rfl := List.eq_nil_of_length_eq_zero h2
  exact ⟨none, 0, rfl, Nat.le_refl _, fun a e => (nomatch e), fun i x hx => by simp at hx⟩
 ·refine ⟨_, cap, rfl, h5, fun a e => by cases e; exact ⟨g, 0, rfl, dz h4⟩, fun i x hx => ?_⟩
  obtain ⟨A, cap', e, hA⟩ := j9 h
  cases e
  obtain ⟨g', e, _, h', hc⟩ := hA i x hx
  cases e
  exact ⟨g, 0, rfl, h', by rw [Nat.zero_add]; exact hc⟩
theorem RdS.kept {w w' : World} {B : Nat} {v : Value} {L : List Bs} (h : RdS w B v L) (hs : w.heap.size ≤ w'.heap.size) (hk : ∀ b cs t fr, w.heap[b]? = some (.cells cs t fr) → v.ownBlock = some b → w'.heap[b]? = w.heap[b]?) : RdS w' B v L := by
 obtain ⟨A, cap, rfl, hl, ha, hc⟩ := h
 refine ⟨A, cap, rfl, hl, fun a e => ?_, fun i x hx => ?_⟩
 ·obtain ⟨g, o, h1, h2⟩ := ha a e
  exact ⟨g, o, h1, Nat.lt_of_lt_of_le h2 hs⟩
 ·obtain ⟨g, o, rfl, h2, h3⟩ := hc i x hx
  refine ⟨g, o, rfl, h2, ?_⟩
  have hb : ∃ cs t fr, w.heap[g]? = some (.cells cs t fr) := by
   unfold World.cell? at h3
   cases hh : w.heap[g]? with
   | none => simp [hh] at h3
   | some ob =>
    cases ob with
    | cells cs t fr => exact ⟨cs, t, fr, rfl⟩
    | _ => simp [hh] at h3
  obtain ⟨cs, t, fr, hb⟩ := hb
  rw [World.cell?_of_block (hk g cs t fr hb rfl)]
  exact h3
theorem RdS.below {w w' : World} {B : Nat} {v : Value} {L : List Bs} (h : RdS w B v L) (hk : Below w.heap.size w w') : RdS w' B v L := h.kept hk.size fun b cs t fr hb _ => hk.block b (dz hb)
theorem RdS.map {w w' : World} {B m : Nat} {v : Value} {L : List Bs} (h : RdS w B v L) (hk : w.grownBy w' (some m)) {es : Array MapEntry} {c : Nat} (hm : w.heap[m]? = some (.map es c)) : RdS w' B v L :=
 h.kept hk.size fun b cs t fr hb _ => hk.block b (dz hb) fun e => by cases e; rw [hb] at hm; cases hm
theorem RdS.lt {w : World} {B : Nat} {v : Value} {L : List Bs} (h : RdS w B v L) {g : Nat} (hg : v.ownBlock = some g) : g < w.heap.size := by
 obtain ⟨A, cap, rfl, _, ha, _⟩ := h
 cases A with
 | none => cases hg
 | some a =>
  cases hg
  obtain ⟨g, o, rfl, h2⟩ := ha a rfl
  exact h2
theorem ash {w : World} {B : Nat} {v : Value} {l : List Bs} (hv : RdS w B v l) (hr : Ris l) (hl : l.length ≤ 1073741824) (x : Bs) :
  Calls Tryz.prog 158 #[v, .string ⟨x.toArray⟩] w fun e w' => e = .returned (.tuple #[.int .i64 (pos l x : Nat), .bool (decide (x ∈ l))]) ∧ Below w.heap.size w w' := by
 obtain ⟨A, cap, rfl, _, _, hA⟩ := hv
 cases l with
 | nil =>
  refine (Any2.slices_BinarySearch_string_empty Tryz.afm A cap ⟨x.toArray⟩ w).mono fun e w' ⟨he, hw⟩ => ⟨?_, by subst hw; exact Below.refl _ _⟩
  rw [he]; simp [pos]
 | cons y l =>
  obtain ⟨g, o, rfl, _, _⟩ := hA 0 y rfl
  have hS : ∀ t z, (y :: l)[t]? = some z → ((fun t => (⟨((y :: l).getD t x).toArray⟩ : ByteArray)) t) = ⟨z.toArray⟩ := fun t z hz => by
   simp only [List.getD_eq_getElem?_getD, hz, Option.getD_some]
  have hbs : Lib.bsGo (fun t => Op.bytesLess ((fun t => (⟨((y :: l).getD t x).toArray⟩ : ByteArray)) t).toList (⟨x.toArray⟩ : ByteArray).toList) (y :: l).length 0 (y :: l).length = pos (y :: l) x := by
   refine axa hr _ (fun t z hz => ?_) fun t ht => ?_
   ·show Op.bytesLess ((fun t => (⟨((y :: l).getD t x).toArray⟩ : ByteArray)) t).toList _ = _
    rw [hS t z hz, toList_mk, toList_mk, km]
   ·show Op.bytesLess (⟨((y :: l).getD t x).toArray⟩ : ByteArray).toList _ = _
    rw [List.getD_eq_getElem?_getD, List.getElem?_eq_none ht, toList_mk, toList_mk]
    show Op.bytesLess x x = false
    rw [km, ic]
  refine (Any2.slices_BinarySearch_string Tryz.afm g o (y :: l).length cap (fun t => ⟨((y :: l).getD t x).toArray⟩) ⟨x.toArray⟩ w (by omega) fun j hj => ?_).mono fun e w' ⟨he, q, hw⟩ => ⟨?_, by subst hw; exact below_drewN w q⟩
  ·obtain ⟨g', o', e, _, hc⟩ := hA j _ (List.getElem?_eq_getElem hj)
   cases e
   rw [hc]
   show _ = some (Value.string ((fun t => (⟨((y :: l).getD t x).toArray⟩ : ByteArray)) j))
   rw [hS j _ (List.getElem?_eq_getElem hj)]
  ·rw [he, hbs]
   have hd : (pos (y :: l) x < (y :: l).length ∧ (⟨((y :: l).getD (pos (y :: l) x) x).toArray⟩ : ByteArray) = ⟨x.toArray⟩) ↔ x ∈ y :: l := ?_
   ·rw [show decide (pos (y :: l) x < (y :: l).length ∧ (fun t => (⟨((y :: l).getD t x).toArray⟩ : ByteArray)) (pos (y :: l) x) = ⟨x.toArray⟩) = decide (x ∈ y :: l) from decide_eq_decide.2 hd]
   rw [← aii hr]
   constructor
   ·rintro ⟨h1, h2⟩
    rw [mk_inj] at h2
    rw [List.getD_eq_getElem?_getD, List.getElem?_eq_getElem h1] at h2
    rw [List.getElem?_eq_getElem h1]
    exact congrArg some h2
   ·intro h
    have h1 := (List.getElem?_eq_some_iff.1 h).1
    refine ⟨h1, ?_⟩
    rw [List.getD_eq_getElem?_getD, h]; rfl
theorem avr {w : World} {B : Nat} {u : Value} {l : List Bs} (hrow : RdS w B u l) (hl : l.length ≤ 1073741824) :
  Calls Tryz.prog 160 #[u] w fun e w' => ∃ v', e = .returned v' ∧ Ax (w'.ownsRow w.heap.size 9 1 v' l.length (l.map encStr) ∧ Below w.heap.size w w') := by
 obtain ⟨A, cap, rfl, _, _, hA⟩ := hrow
 cases l with
 | nil =>
  cases A with
  | none => exact (Any.slices_Clone_string_nil Tryz.sn 0 cap w).mono fun e w' ⟨he, hw⟩ => ⟨_, he, ⟨⟨rfl, .inl ⟨rfl, rfl⟩⟩, by subst hw; exact Below.refl _ _⟩⟩
  | some a => exact (Any.slices_Clone_string_zero Tryz.sn a cap w).mono fun e w' ⟨v', he, h1, _, h2⟩ => ⟨v', he, ⟨h1, h2⟩⟩
 | cons x l =>
  obtain ⟨g, o, rfl, _, _⟩ := hA 0 x rfl
  refine (Any.slices_Clone_string Tryz.sn g o (x :: l).length cap ((x :: l).map fun y => ⟨y.toArray⟩) w (by simp) (by omega) fun j hj => ?_).mono fun e w' ⟨v', he, h1, _, h2⟩ => ⟨v', he, ⟨?_, h2⟩⟩
  ·rw [List.length_map] at hj
   obtain ⟨g', o', e, _, hc⟩ := hA j _ (List.getElem?_eq_getElem hj)
   cases e
   rw [hc]
   have : ((x :: l).map fun y => (⟨y.toArray⟩ : ByteArray)).getD j ByteArray.empty = ⟨((x :: l)[j]).toArray⟩ := by
    rw [List.getD_eq_getElem?_getD, List.getElem?_map, List.getElem?_eq_getElem hj]; rfl
   rw [this]
  ·have e : ((List.map (fun y => (⟨y.toArray⟩ : ByteArray)) (x :: l)).take (x :: l).length).map Value.string = (x :: l).map encStr := by
    rw [List.take_of_length_le (by simp), List.map_map]; rfl
   rw [e] at h1
   exact h1
theorem asi {w : World} {B : Nat} {v : Value} {k : Bs} {r : List Bs} (h : RdS w B v (k :: r)) (hl : r.length ≤ 1073741824) :
  Calls Tryz.prog 164 #[v] w fun e w' => ∃ v', e = .returned (.tuple #[.string ⟨k.toArray⟩, v']) ∧ RdS w' B v' r ∧ Below w.heap.size w w' ∧ v'.ownBlock = v.ownBlock := by
 obtain ⟨A, cap, rfl, hcap, ha, hA⟩ := h
 obtain ⟨g, o, rfl, hB, hc⟩ := hA 0 k rfl
 rw [Nat.add_zero] at hc
 have hg : g < w.heap.size := by obtain ⟨g', o', e, h⟩ := ha _ rfl; cases e; exact h
 simp only [List.length_cons] at hcap hA ⊢
 go_enter Tryz.func164, Tryz.ntmps164
 go_wp2_with fail
 have hA := Lib.hid hA
 clear ha
 go_region
 all_goals go_wp2_with fail
 ·go_ret2
  obtain rfl : r = [] := List.eq_nil_of_length_eq_zero (by omega)
  exact ⟨_, rfl, ⟨_, 0, rfl, Nat.le_refl _, fun a e => by cases e; exact ⟨g, o, rfl, hg⟩, fun i x hx => by simp at hx⟩, (Below.refl _ w).drew, rfl⟩
 ·go_ret2
  refine ⟨_, rfl, ⟨_, _, rfl, by omega, fun a e => by cases e; exact ⟨g, o + 1, rfl, hg⟩, fun i x hx => ?_⟩, (Below.refl _ w).drew, rfl⟩
  obtain ⟨g', o', e, h1, h2⟩ := hA.out (i + 1) x (by simpa using hx)
  cases e
  exact ⟨g, o + 1, rfl, h1, by rw [show o + 1 + i = o + (i + 1) by omega]; exact h2⟩
end Go.Proofs.YtmdimhcjogjcgaaGreatDoor.Gr
