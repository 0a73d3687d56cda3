/- Graphs in memory: Turned. -/
import Derived.Test.YtmdimhcjogjcgaaGreatDoorGax
import Derived.Test.YtmdimhcjogjcgaaGreatDoorGas
set_option linter.all false
set_option maxRecDepth 100000
set_option maxHeartbeats 8000000
noncomputable section
namespace Go.Proofs.YtmdimhcjogjcgaaGreatDoor.Gr
open Go.RowKit Go.Lib Go.Proofs.YtmdimhcjogjcgaaGreatDoor.Lat Go.Proofs.YtmdimhcjogjcgaaGreatDoor.Mp Go.Maps
theorem yc {α : Type} [BEq α] [LawfulBEq α] : ∀ {l m : List α}, l.Nodup → (∀ x, x ∈ l → x ∈ m) → l.length ≤ m.length
 | [], _, _, _ => Nat.zero_le _
 | x :: l, m, hn, hs => by
  have hx := hs x (List.mem_cons_self ..)
  have hn' := List.nodup_cons.1 hn
  have h1 := yc (m := m.erase x) hn'.2 fun y hy => by
   have hne : y ≠ x := fun e => hn'.1 (e ▸ hy)
   exact (List.mem_erase_of_ne hne).2 (hs y (List.mem_cons_of_mem _ hy))
  rw [List.length_erase_of_mem hx] at h1
  have : 0 < m.length := List.length_pos_of_mem hx
  simp only [List.length_cons]
  omega
def Few (f : Gr) (N : Nat) : Prop := ∃ P : List Bs, (∀ k, f k ≠ none → k ∈ P) ∧ P.length ≤ N ∧ ∀ k ∈ P, k.length ≤ maxLen
theorem Few.list {f : Gr} {N : Nat} (h : Few f N) (hok : sg f) {k : Bs} {l : List Bs} (hl : f k = some l) : l.length ≤ N := by
 obtain ⟨P, h1, h2, _⟩ := h
 exact Nat.le_trans (yc (hok.ris k l hl).nodup fun y hy => h1 y (hok.pt k l y hl hy)) h2
theorem Few.name {f : Gr} {N : Nat} (h : Few f N) {k : Bs} (hk : f k ≠ none) : k.length ≤ maxLen := by
 obtain ⟨P, h1, _, h3⟩ := h
 exact h3 k (h1 k hk)
theorem Few.pts {f : Gr} {N n : Nat} (h : Few f N) {l : List Bs} (hl : art f n l) : l.length ≤ N := by
 obtain ⟨P, h1, h2, _⟩ := h
 exact Nat.le_trans (yc hl.ris.nodup fun y hy => h1 y ((hl.mem y).1 hy)) h2
theorem Few.same {f f' : Gr} {N : Nat} (h : Few f N) (hp : ∀ k, f' k ≠ none ↔ f k ≠ none) : Few f' N := by
 obtain ⟨P, h1, h2⟩ := h
 exact ⟨P, fun k hk => h1 k ((hp k).1 hk), h2⟩
theorem a3l (l : List Bs) : ∀ k, xw l k ≠ none ↔ k ∈ l := by
 unfold xw
 suffices h : ∀ (l : List Bs) (f : Gr) k, l.foldl gf f k ≠ none ↔ k ∈ l ∨ f k ≠ none by intro k; rw [h]; simp
 intro l
 induction l with
 | nil => intro f k; simp
 | cons x r ih =>
  intro f k
  rw [List.foldl_cons, ih, ab9, List.mem_cons]
  constructor
  ·rintro (h | h | h) <;> simp [h]
  ·rintro ((h | h) | h) <;> simp [h]
theorem auj (l : List Bs) : ∀ a b, ¬ ju (xw l) a b := by
 unfold xw
 suffices h : ∀ (l : List Bs) (f : Gr) a b, ju (l.foldl gf f) a b ↔ ju f a b by
  intro a b; rw [h]; rintro ⟨l, h, _⟩; cases h
 intro l
 induction l with
 | nil => intro f a b; rfl
 | cons x r ih => intro f a b; rw [List.foldl_cons, ih, ael]
theorem a3m (l : List Bs) : sg (xw l) := by
 unfold xw
 suffices h : ∀ (l : List Bs) (f : Gr), sg f → sg (l.foldl gf f) from h l _ bf7
 intro l
 induction l with
 | nil => intro f h; exact h
 | cons x r ih => intro f h; exact ih _ (ahu h x)
theorem xx {l : List Bs} {i : Nat} {x y : Bs} (h : l[i]? = some x) : y ∈ l.take (i + 1) ↔ y ∈ l.take i ∨ y = x := by
 have e : l.take (i + 1) = l.take i ++ [x] := by rw [List.take_add_one, h]; rfl
 rw [e, List.mem_append, List.mem_singleton]
structure Tn (f : Gr) (B bg bm n : Nat) (Q : List Bs) (k : Bs) (L : List Bs) (W : World) : Prop where
 ex : ∃ f', IsG W B bg bm n f' ∧ sg f' ∧ (∀ x, f' x ≠ none ↔ f x ≠ none) ∧ ∀ a b, ju f' a b ↔ (ju f b a ∧ b ∈ Q) ∨ (b = k ∧ a ∈ L)
theorem Tn.below {f : Gr} {B bg bm n : Nat} {Q L : List Bs} {k : Bs} {W W' : World} (h : Tn f B bg bm n Q k L W) (hB : Below W.heap.size W W') : Tn f B bg bm n Q k L W' := by
 obtain ⟨f', h1, h2⟩ := h.ex
 exact ⟨f', h1.below hB, h2⟩
theorem Tn.mono {f : Gr} {B bg bm n m : Nat} {Q L : List Bs} {k : Bs} {W : World} (h : Tn f B bg bm n Q k L W) (hm : n ≤ m) : Tn f B bg bm m Q k L W := by
 obtain ⟨f', h1, h2⟩ := h.ex
 exact ⟨f', h1.mono hm, h2⟩
theorem Tn.enter {f : Gr} {B bg bm n : Nat} {Q : List Bs} {k k' : Bs} {W : World} (h : Tn f B bg bm n Q k [] W) : Tn f B bg bm n Q k' [] W := by
 obtain ⟨f', h1, h2, h3, h4⟩ := h.ex
 exact ⟨f', h1, h2, h3, fun a b => by rw [h4]; simp⟩
theorem Tn.leave {f : Gr} {B bg bm n : Nat} {P : List Bs} {i : Nat} {k : Bs} {W : World} (hP : P[i]? = some k) (h : Tn f B bg bm n (P.take i) k ((f k).getD []) W) : Tn f B bg bm n (P.take (i + 1)) k [] W := by
 obtain ⟨f', h1, h2, h3, h4⟩ := h.ex
 refine ⟨f', h1, h2, h3, fun a b => ?_⟩
 rw [h4, xx hP]
 have e : a ∈ (f k).getD [] ↔ ju f k a := by
  unfold ju
  cases f k with
  | none => simp
  | some l => simp
 rw [e]
 constructor
 ·rintro (⟨q, q'⟩ | ⟨rfl, q⟩)
  ·exact .inl ⟨q, .inl q'⟩
  ·exact .inl ⟨q, .inr rfl⟩
 ·rintro (⟨q, q' | rfl⟩ | ⟨_, q⟩)
  ·exact .inl ⟨q, q'⟩
  ·exact .inr ⟨rfl, q⟩
  ·cases q
theorem a8b {w : World} {B bg bm n : Nat} {f : Gr} {Q L : List Bs} {k x : Bs} {j N : Nat} {lt : List Bs} (hx : lt[j]? = some x) (h : Tn f B bg bm n Q k (lt.take j) w) (hN : Few f N) (hN2 : N ≤ 16384) (hB : B ≤ w.heap.size) (hxp : f x ≠ none) (hkp : f k ≠ none) (hn : n ≤ 1073741824) :
  Calls Tryz.prog 117 #[.pointer (some ⟨bg, 0, none⟩), .string ⟨x.toArray⟩, .string ⟨k.toArray⟩] w fun e w' => e = .returned (.tuple #[]) ∧ Ax (Tn f B bg bm (n + 3) Q k (lt.take (j + 1)) w' ∧ w.grownBy w' (some bm)) := by
 obtain ⟨f', h1, h2, h3, h4⟩ := h.ex
 have hF := hN.same h3
 refine (aui h1 h2 hB x k (hN.name hxp) (hN.name hkp) hn fun a l hl => Nat.le_trans (hF.list h2 hl) (by omega)).mono fun e w' ⟨he, hI, hg⟩ => ⟨he, ⟨⟨_, hI, axz h2 x k, fun y => ?_, fun a b => ?_⟩, hg⟩⟩
 ·rw [aoh, h3]
  constructor
  ·rintro (rfl | rfl | h)
   ·exact hxp
   ·exact hkp
   ·exact h
  ·exact fun h => .inr (.inr h)
 ·rw [ahv, h4, xx hx]
  constructor
  ·rintro (⟨rfl, rfl⟩ | h | ⟨h, h'⟩)
   ·exact .inr ⟨rfl, .inr rfl⟩
   ·exact .inl h
   ·exact .inr ⟨h, .inl h'⟩
  ·rintro (h | ⟨rfl, h' | rfl⟩)
   ·exact .inr (.inl h)
   ·exact .inr (.inr ⟨rfl, h'⟩)
   ·exact .inl ⟨rfl, rfl⟩
theorem azo {w : World} {B bg bm n N : Nat} {f : Gr} (h : IsG w B bg bm n f) (hok : sg f) (hF : Few f N) (hN : N ≤ 16384) (hn : n ≤ 1073741824) :
  Calls Tryz.prog 161 #[.pointer (some ⟨bg, 0, none⟩)] w fun e w' => ∃ bg' bm' f', e = .returned (.pointer (some ⟨bg', 0, none⟩)) ∧ IsG w' w.heap.size bg' bm' (N + 3 * (N * N)) f' ∧ sg f' ∧ (∀ x, f' x ≠ none ↔ f x ≠ none) ∧ (∀ a b, ju f' a b ↔ ju f b a) ∧ Below w.heap.size w w' := by
 have C1 := Lib.hid (agp h hn)
 have hI := Lib.hid h
 go_enter Tryz.func161, Tryz.ntmps161
 go_wp2_with fail
 refine C1.out.mono ?_
 rintro e w1 ⟨v1, P, rfl, hP, hrow1, hB1⟩
 have hPN := hF.pts hP
 have C2 := Lib.hid (ax4 hrow1 hP.small (by omega))
 clear C1
 have hB1 := Lib.hid hB1
 have hP := Lib.hid hP
 clear hrow1
 go_wp2_with fail
 refine C2.out.mono ?_
 rintro e w2 ⟨bg', bm', rfl, hI2, hB2⟩
 have hB12 := gl hB1.out (Nat.le_refl _) hB2
 have hg2 := hI.out.below hB12
 have C3 := Lib.hid (agp hg2 hn)
 have hT2 : Tn f w1.heap.size bg' bm' N [] [] [] w2 := ⟨_, hI2.mono hPN, a3m P, fun x => by rw [a3l, hP.out.mem], fun a b => by simp [auj P a b]⟩
 have hT2 := Lib.hid hT2
 have hB12 := Lib.hid hB12
 have hg2 := Lib.hid hg2
 clear C2 hI2 hB2
 go_wp2_with fail
 refine C3.out.mono ?_
 rintro e w3 ⟨v3, P3, rfl, hP3, hrow3, hB3⟩
 obtain rfl : P3 = P := amk hP3.ris hP.out.ris fun x => by rw [hP3.mem, hP.out.mem]
 obtain ⟨A, cap, rfl, hA⟩ := pz hrow3
 have hT3 := Lib.hid (hT2.out.below hB3)
 have hB13 := gl hB12.out (Nat.le_refl _) hB3
 have hg3 := Lib.hid (hI.out.below hB13)
 have hB13 := Lib.hid hB13
 have hA := Lib.hid hA
 obtain ⟨es0, c0, hmap3⟩ : ∃ es c, w3.heap[bm']? = some (.map es c) := by obtain ⟨_, hx, _⟩ := hT3.out.ex; obtain ⟨_, h1, _⟩ := hx.map; exact h1.blk
 have hbm' : w.heap.size ≤ bm' := by
  obtain ⟨_, hx, _⟩ := hT3.out.ex
  exact Nat.le_trans hB1.out.size hx.hBm
 have hbmw : bm < w.heap.size := by obtain ⟨_, h1, _⟩ := hI.out.map; exact h1.lt
 have hmap3 := Lib.hid hmap3
 clear C3 hP3 hrow3 hB3 hB12 hg2 hT2
 go_wp2_with fail
 go_loopg [14] P3.length (fun gk v14 W => ∃ i : Nat, i + gk = P3.length ∧ v14 = .int .i64 i ∧ Ax (Tn f w1.heap.size bg' bm' (N + 3 * (N * i)) (P3.take i) [] [] W ∧ w3.grownBy W (some bm')))
 case atStart => exact ⟨0, by omega, rfl, ⟨by simpa using hT3.out, tm _ _⟩⟩
 case round =>
  clear hT3
  obtain ⟨i, hig, rfl, HM⟩ := hrel
  by_cases hi : i < P3.length
  ·obtain ⟨g1, rfl⟩ : ∃ j, gk = j + 1 := ⟨gk - 1, by omega⟩
   obtain ⟨k, hk⟩ : ∃ x, P3[i]? = some x := ⟨P3[i], List.getElem?_eq_getElem hi⟩
   obtain ⟨g, rfl, hg, _, hcell⟩ := hA.out i k hk
   have hkp := (hP.out.mem k).1 (List.mem_of_getElem? hk)
   have hgb : g ≠ bm' := fun e => by
    subst e
    have := hmap3.out
    simp [World.cell?, this] at hcell
   have hc : wr.cell? ⟨g, i, none⟩ = some (.string ⟨k.toArray⟩) := by rw [World.cell?_of_block (HM.out.2.block g hg (by simpa using hgb))]; exact hcell
   have hkl : (⟨k.toArray⟩ : ByteArray).size ≤ maxLen := by rw [size_mk]; exact hF.name hkp
   have hgr := hg3.out.other HM.out.2 hmap3.out (by omega)
   have C4 := Lib.hid (auh hgr ⟨k.toArray⟩ hkl fun l hl => Nat.le_trans (hF.list hok hl) (by omega))
   have hiN : N * i + N ≤ N * N := by
    have : i + 1 ≤ N := by omega
    calc N * i + N = N * (i + 1) := by rw [Nat.mul_succ]
     _ ≤ N * N := Nat.mul_le_mul_left _ this
   have hNN : N * N ≤ 268435456 := by
    calc N * N ≤ 16384 * 16384 := Nat.mul_le_mul hN hN
     _ = 268435456 := by decide
   have hgr := Lib.hid hgr
   clear hcell
   go_wp2_with fail
   refine C4.out.mono ?_
   rintro e w4 ⟨v4, rfl, hrow4, hB4⟩
   try rw [yb] at hrow4
   have hltp : ∀ x ∈ (f k).getD [], f x ≠ none := fun x hx => by
    cases hf : f k with
    | none => rw [hf] at hx; cases hx
    | some l => rw [hf] at hx; exact hok.pt k l x hf hx
   have hltN : ((f k).getD []).length ≤ N := by
    cases hf : f k with
    | none => simp
    | some l => exact hF.list hok hf
   obtain ⟨lt, hlt⟩ : ∃ lt, (f k).getD [] = lt := ⟨_, rfl⟩
   rw [hlt] at hrow4 hltp hltN
   obtain ⟨A4, cap4, rfl, hA4⟩ := pz hrow4
   have hA4 := Lib.hid hA4
   have hT4 := Lib.hid ((HM.out.1.below hB4).enter (k' := k))
   have hg4 := Lib.hid (gj HM.out.2 (lb _ hB4))
   have hmap4 : ∃ es c, w4.heap[bm']? = some (.map es c) := by obtain ⟨_, hx, _⟩ := hT4.out.ex; obtain ⟨_, h1, _⟩ := hx.map; exact h1.blk
   obtain ⟨es4, c4, hmap4⟩ := hmap4
   have hmap4 := Lib.hid hmap4
   have hsz4 : w1.heap.size ≤ w4.heap.size := by
    obtain ⟨_, hx, _⟩ := hT4.out.ex
    have := hx.hB
    have := fj hx.blk
    omega
   clear C4 hrow4 hB4 HM hgr hc
   go_wp2_with fail
   go_loopg [22] lt.length (fun gk v22 W => ∃ j : Nat, j + gk = lt.length ∧ v22 = .int .i64 j ∧ Ax (Tn f w1.heap.size bg' bm' (N + 3 * (N * i) + 3 * j) (P3.take i) k (lt.take j) W ∧ w4.grownBy W (some bm')))
   case atStart => exact ⟨0, by omega, rfl, ⟨by simpa using hT4.out, tm _ _⟩⟩
   case round =>
    clear hT4
    obtain ⟨j, hjg, rfl, HJ⟩ := hrel
    by_cases hj : j < lt.length
    ·obtain ⟨g2, rfl⟩ : ∃ j, gk = j + 1 := ⟨gk - 1, by omega⟩
     obtain ⟨x, hx⟩ : ∃ x, lt[j]? = some x := ⟨lt[j], List.getElem?_eq_getElem hj⟩
     obtain ⟨q, rfl, hq, _, hcell⟩ := hA4.out j x hx
     have hxp := hltp x (List.mem_of_getElem? hx)
     have hqb : q ≠ bm' := fun e => by
      subst e
      have := hmap4.out
      simp [World.cell?, this] at hcell
     have hc : wr.cell? ⟨q, j, none⟩ = some (.string ⟨x.toArray⟩) := by rw [World.cell?_of_block (HJ.out.2.block q hq (by simpa using hqb))]; exact hcell
     have C5 := Lib.hid (a8b (L := lt) hx HJ.out.1 hF hN (Nat.le_trans hsz4 HJ.out.2.size) hxp hkp (by omega))
     clear hcell
     go_wp2_with fail
     refine C5.out.mono ?_
     rintro e w5 ⟨rfl, h5⟩
     have hnx := Lib.hid (show Ax (Tn f w1.heap.size bg' bm' (N + 3 * (N * i) + 3 * (j + 1)) (P3.take i) k (lt.take (j + 1)) w5 ∧ w4.grownBy w5 (some bm')) from ⟨h5.out.1.mono (by omega), gj HJ.out.2 h5.out.2⟩)
     clear C5 h5 HJ hc
     go_wp2_with fail
     go_roundg g2
     case measure => omega
     case rel => exact ⟨j + 1, by omega, by go_num, hnx.out⟩
    ·obtain rfl : gk = 0 := by omega
     obtain rfl : j = lt.length := by omega
     have hnx := Lib.hid (show Ax (Tn f w1.heap.size bg' bm' (N + 3 * (N * (i + 1))) (P3.take (i + 1)) [] [] wr ∧ w3.grownBy wr (some bm')) from
      ⟨((Tn.leave hk (by have := HJ.out.1; rw [List.take_length] at this; rw [hlt]; exact this)).mono (by rw [Nat.mul_succ]; omega)).enter, gj hg4.out HJ.out.2⟩)
     clear HJ
     go_wp2_with fail
     go_roundg g1
     case measure => omega
     case rel => exact ⟨i + 1, by omega, by go_num, hnx.out⟩
  ·obtain rfl : gk = 0 := by omega
   obtain rfl : i = P3.length := by omega
   go_wp2_with fail
   go_ret
   obtain ⟨f', h1, h2, h3, h4⟩ := HM.out.1.ex
   have hle : N + 3 * (N * P3.length) ≤ N + 3 * (N * N) := by
    have := Nat.mul_le_mul_left N hPN
    omega
   refine ⟨bg', bm', f', rfl, (IsG.mono ⟨Nat.le_trans hB1.out.size h1.hB, Nat.le_trans hB1.out.size h1.hBm, h1.blk, ?_⟩ hle), h2, h3, fun a b => ?_, ui hB13.out (Nat.le_refl _) HM.out.2 hbm'⟩
   ·obtain ⟨F, m1, m2⟩ := h1.map
    exact ⟨F, m1, fun k => ⟨(m2 k).1, fun v l hv hl => tk ((m2 k).2 v l hv hl) hB1.out.size⟩⟩
   ·rw [h4, List.take_length, hP.out.mem]
    constructor
    ·rintro (⟨h, _⟩ | ⟨_, h⟩)
     ·exact h
     ·cases h
    ·intro h
     obtain ⟨l, hl, _⟩ := id h
     exact .inl ⟨h, by rw [hl]; simp⟩
end Go.Proofs.YtmdimhcjogjcgaaGreatDoor.Gr
namespace Go.Proofs.YtmdimhcjogjcgaaGreatDoor.Lat
open Go.Proofs.YtmdimhcjogjcgaaGreatDoor.Abs
theorem azp {α : Type} (l : List (List AV)) (k : List (List AV) → Option α) : asL 1 (.own 1 l) k = k l := rfl
section
variable (N : List Bs) (E : List (Bs × Bs)) (hN : N.length ≤ 1048576) (hE : E.length ≤ 1048576)
include hN hE
structure aja (O : List Bs) : Prop where
 nd : O.Nodup
 sub : ∀ x ∈ O, x ∈ N
 pre : ∀ (i : Nat) (k : Bs), O[i]? = some k → ∀ y, (k, y) ∈ E → y ∈ O.take i
def amo (O : List Bs) : Prop := ∀ p ∈ N, p ∉ O → ∃ y, (p, y) ∈ E ∧ y ∉ O
theorem ap9 (O L : List Bs) (hO : O.length ≤ 1048576) (hL : L.length ≤ 1048576) (n : Int) (s : Bs) (j : Nat) (hj : j < N.length) : ∀ (d i : Nat) (b : Bool), i + d = L.length →
  az.l3 (.sl 1 (ar N)) (.sl 2 (bh E)) (.own 1 (ar O)) (.int .i64 n) (.str s) (.bool false) (.int .i64 (j : Int)) (.bool b) (.sl 1 (ar L)) (.int .i64 (i : Int)) =
   if (b && (L.drop i).all fun y => decide (y ∈ O)) = true then az.l1 (.sl 1 (ar N)) (.sl 2 (bh E)) (.own 1 (ar O)) (.int .i64 n) (.str N[j]) (.bool true) (.int .i64 ((j + 1 : Nat) : Int))
   else az.l1 (.sl 1 (ar N)) (.sl 2 (bh E)) (.own 1 (ar O)) (.int .i64 n) (.str s) (.bool false) (.int .i64 ((j + 1 : Nat) : Int))
 | 0, i, b, h => by
  rw [az.a1v, br, decide_eq_false (by omega), ifF, bc (by omega), an (gn (List.getElem?_eq_getElem hj)), pw, aj (by omega)]
  simp only [cf]
  cases b <;> rfl
 | d + 1, i, b, h => by
  have h1' : i < L.length := by omega
  have e1 : L[i]? = some L[i] := List.getElem?_eq_getElem h1'
  rw [az.a1v, br, decide_eq_true (by omega), ifT, an (gn e1), pw]
  simp only [cf]
  have := afh O (by omega) L[i]
  have hH : gh (.sl 1 (ar O)) (.str L[i]) = some (.bool (decide (L[i] ∈ O))) := this
  rw [hH]
  simp only [ab, bq]
  have ha : ifB b (some (decide (L[i] ∈ O))) (some false) = some (b && decide (L[i] ∈ O)) := by cases b <;> rfl
  rw [ha]
  simp only [ab]
  rw [aj (by omega), ap9 O L hO hL n s j hj d (i + 1) _ (by omega), au h1', List.all_cons, Bool.and_assoc]
theorem a3n (O : List Bs) (hO : O.length ≤ 1048576) (n : Nat) (hn : n ≤ 1048576) (s : Bs) (j : Int) : az.l1 (.sl 1 (ar N)) (.sl 2 (bh E)) (.own 1 (ar O)) (.int .i64 (n : Int)) (.str s) (.bool true) (.int .i64 j) = az.l0 (.sl 1 (ar N)) (.sl 2 (bh E)) (.own 1 (ar (O ++ [s]))) (.int .i64 ((n + 1 : Nat) : Int)) := by
 rw [az.ac2]
 have : ∀ c : Bool, ifB c (some false) (some false) = some false := fun c => by cases c <;> rfl
 rw [this]
 simp only [ab]
 rw [ifF, gOK (by rw [br]; simp; omega), guT, oa, aj (by omega)]
theorem aqa (O : List Bs) (hO : O.length ≤ 1048576) (n : Nat) (hn : n ≤ 1048576) (s : Bs) : ∀ (d j : Nat), j + d = N.length →
  (∃ p ∈ N, p ∉ O ∧ (∀ y, (p, y) ∈ E → y ∈ O) ∧ az.l1 (.sl 1 (ar N)) (.sl 2 (bh E)) (.own 1 (ar O)) (.int .i64 (n : Int)) (.str s) (.bool false) (.int .i64 (j : Int)) = az.l0 (.sl 1 (ar N)) (.sl 2 (bh E)) (.own 1 (ar (O ++ [p]))) (.int .i64 ((n + 1 : Nat) : Int))) ∨
  ((∀ p ∈ N.drop j, p ∉ O → ∃ y, (p, y) ∈ E ∧ y ∉ O) ∧ az.l1 (.sl 1 (ar N)) (.sl 2 (bh E)) (.own 1 (ar O)) (.int .i64 (n : Int)) (.str s) (.bool false) (.int .i64 (j : Int)) = az.l0 (.sl 1 (ar N)) (.sl 2 (bh E)) (.own 1 (ar O)) (.int .i64 ((n + 1 : Nat) : Int)))
 | 0, j, h => by
  refine .inr ⟨by rw [bc (by omega)]; simp, ?_⟩
  rw [az.en, br, decide_eq_false (by omega), ifF]
  simp only [ab]
  rw [ifF, aj (by omega)]
 | d + 1, j, h => by
  have h1' : j < N.length := by omega
  have e1 : N[j]? = some N[j] := List.getElem?_eq_getElem h1'
  have hH : gh (.sl 1 (ar O)) (.str N[j]) = some (.bool (decide (N[j] ∈ O))) := afh O (by omega) N[j]
  have ih := aqa O hO n hn s d (j + 1) (by omega)
  rw [az.en, br, decide_eq_true (by omega), ifT]
  simp only [ab]
  rw [ifT, an (gn e1), pw]
  simp only [cf]
  rw [hH]
  simp only [ab, bq]
  by_cases hin : N[j] ∈ O
  ·rw [decide_eq_true hin, ifT, aj (by omega)]
   rcases ih with ih | ⟨h1, h2⟩
   ·exact .inl ih
   ·refine .inr ⟨fun p hp hpo => ?_, h2⟩
    rw [au h1'] at hp
    rcases List.mem_cons.1 hp with rfl | hp
    ·exact absurd hin hpo
    ·exact h1 p hp hpo
  ·rw [decide_eq_false hin, ifF, an (gn e1), pw]
   simp only [cf]
   obtain ⟨r, X, hT, hr, hm, hl⟩ := bbu E N[j] hE
   rw [hT]
   simp only [ab]
   have hgo : asL 1 r (fun l17 => az.l3 (.sl 1 (ar N)) (.sl 2 (bh E)) (.own 1 (ar O)) (.int .i64 (n : Int)) (.str s) (.bool false) (.int .i64 (j : Int)) (.bool true) (.sl 1 l17) (.int .i64 0)) =
     az.l3 (.sl 1 (ar N)) (.sl 2 (bh E)) (.own 1 (ar O)) (.int .i64 (n : Int)) (.str s) (.bool false) (.int .i64 (j : Int)) (.bool true) (.sl 1 (ar X)) (.int .i64 0) := by
    rcases hr with rfl | rfl
    ·rw [qn]
    ·rw [azp]
   rw [hgo]
   have h3 := ap9 N E hN hE O X hO (by omega) (n : Int) s j h1' X.length 0 true (by omega)
   rw [e00] at h3
   rw [h3, List.drop_zero, Bool.true_and]
   by_cases hall : (X.all fun y => decide (y ∈ O)) = true
   ·rw [if_pos hall, a3n N E hN hE O hO n hn]
    refine .inl ⟨N[j], List.getElem_mem h1', hin, fun y hy => ?_, rfl⟩
    rw [List.all_eq_true] at hall
    simpa using hall y ((hm y).2 hy)
   ·rw [if_neg hall]
    rcases ih with ih | ⟨h1, h2⟩
    ·exact .inl ih
    ·refine .inr ⟨fun p hp hpo => ?_, h2⟩
     rw [au h1'] at hp
     rcases List.mem_cons.1 hp with rfl | hp
     ·have : ∃ y ∈ X, y ∉ O := by
       apply Classical.byContradiction
       intro hc
       apply hall
       rw [List.all_eq_true]
       intro y hy
       apply decide_eq_true
       apply Classical.byContradiction
       exact fun hn => hc ⟨y, hy, hn⟩
      obtain ⟨y, hy, hyo⟩ := this
      exact ⟨y, (hm y).1 hy, hyo⟩
     ·exact h1 p hp hpo
theorem ax5 {O : List Bs} (h : aja N E O) : O.length ≤ N.length := Go.Proofs.YtmdimhcjogjcgaaGreatDoor.Gr.yc h.nd h.sub
theorem aqb (O : List Bs) (hO : O.length ≤ 1048576) : ∀ (d i : Nat), i + d = N.length → az.l2 (.sl 1 (ar N)) (.own 1 (ar O)) (.own 1 (ar ((N.take i).filter fun x => decide (x ∉ O)))) (.int .i64 (i : Int)) = some (.tup [.own 1 (ar O), .own 1 (ar (N.filter fun x => decide (x ∉ O)))])
 | 0, i, h => by rw [az.y7, br, decide_eq_false (by omega), ifF, List.take_of_length_le (by omega)]
 | d + 1, i, h => by
  have h1' : i < N.length := by omega
  have e1 : N[i]? = some N[i] := List.getElem?_eq_getElem h1'
  have hH : gh (.sl 1 (ar O)) (.str N[i]) = some (.bool (decide (N[i] ∈ O))) := afh O (by omega) N[i]
  have ih := aqb O hO d (i + 1) (by omega)
  have et : N.take (i + 1) = N.take i ++ [N[i]] := by rw [List.take_add_one, e1]; rfl
  have hle : ((N.take i).filter fun x => decide (x ∉ O)).length ≤ i := Nat.le_trans (List.length_filter_le _ _) (by simp; omega)
  rw [az.y7, br, decide_eq_true (by omega), ifT, an (gn e1), pw]
  simp only [cf]
  rw [hH]
  simp only [ab, bq]
  rw [et, List.filter_append] at ih
  by_cases hin : N[i] ∈ O
  ·rw [decide_eq_true hin, Bool.not_true, ifF, aj (by omega)]
   rw [List.filter_cons_of_neg (by simpa using hin), List.filter_nil, List.append_nil] at ih
   exact ih
  ·rw [decide_eq_false hin, Bool.not_false, ifT, an (gn e1), pw]
   simp only [cf]
   rw [gOK (by rw [br]; simp only [List.length_cons, List.length_nil]; omega), guT, oa, aj (by omega)]
   rw [List.filter_cons_of_pos (by simpa using hin), List.filter_nil] at ih
   exact ih
theorem ahx : ∀ (d n : Nat) (O : List Bs), n + d = N.length → aja N E O → (O.length = n ∨ amo N E O) → ∃ O', aja N E O' ∧ amo N E O' ∧ az.l0 (.sl 1 (ar N)) (.sl 2 (bh E)) (.own 1 (ar O)) (.int .i64 (n : Int)) = some (.tup [.own 1 (ar O'), .own 1 (ar (N.filter fun x => decide (x ∉ O')))])
 | 0, n, O, h, hO, hs => by
  have hl := ax5 N E hN hE hO
  refine ⟨O, hO, ?_, ?_⟩
  ·rcases hs with hs | hs
   ·intro p hp hpo
    exfalso
    have := Go.Proofs.YtmdimhcjogjcgaaGreatDoor.Gr.yc (l := p :: O) (m := N) (List.nodup_cons.2 ⟨hpo, hO.nd⟩) fun x hx => by
     rcases List.mem_cons.1 hx with rfl | hx
     ·exact hp
     ·exact hO.sub x hx
    simp at this; omega
   ·exact hs
  ·rw [az.ai, br, decide_eq_false (by omega), ifF]
   have := aqb N E hN hE O (by omega) N.length 0 (by omega)
   rw [e00] at this
   exact this
 | d + 1, n, O, h, hO, hs => by
  have hl := ax5 N E hN hE hO
  rw [az.ai, br, decide_eq_true (by omega), ifT]
  have := aqa N E hN hE O (by omega) n (by omega) [] N.length 0 (by omega)
  rw [e00] at this
  rcases this with ⟨p, hp, hpo, hpl, he⟩ | ⟨h1, he⟩
  ·have hO' : aja N E (O ++ [p]) := by
    refine ⟨?_, fun x hx => ?_, fun i k hk y hy => ?_⟩
    ·rw [List.nodup_append]
     exact ⟨hO.nd, by simp, fun a ha b hb e => by simp at hb; subst hb; subst e; exact hpo ha⟩
    ·rcases List.mem_append.1 hx with hx | hx
     ·exact hO.sub x hx
     ·have e : x = p := by simpa using hx
      subst e; exact hp
    ·rw [List.getElem?_append] at hk
     split at hk
     ·rename_i hi
      rw [List.take_append_of_le_length (by omega)]
      exact hO.pre i k hk y hy
     ·rename_i hi
      have hi2 : i = O.length := by
       have := (List.getElem?_eq_some_iff.1 hk).1
       simp at this; omega
      subst hi2
      simp at hk
      subst hk
      rw [List.take_append_of_le_length (Nat.le_refl _), List.take_length]
      exact hpl y hy
   have hs' : (O ++ [p]).length = n + 1 ∨ amo N E (O ++ [p]) := by
    rcases hs with hs | hs
    ·exact .inl (by simp; omega)
    ·obtain ⟨y, hy, hyo⟩ := hs p hp hpo
     exact absurd (hpl y hy) hyo
   obtain ⟨O', h1, h2, h3⟩ := ahx d (n + 1) (O ++ [p]) (by omega) hO' hs'
   exact ⟨O', h1, h2, he.trans h3⟩
  ·rw [List.drop_zero] at h1
   obtain ⟨O', h2, h3, h4⟩ := ahx d (n + 1) O (by omega) hO (.inr h1)
   exact ⟨O', h2, h3, he.trans h4⟩
theorem azq : ∃ O, aja N E O ∧ amo N E O ∧ az (.sl 1 (ar N)) (.sl 2 (bh E)) = some (.tup [.own 1 (ar O), .own 1 (ar (N.filter fun x => decide (x ∉ O)))]) := by
 obtain ⟨O, h1, h2, h3⟩ := ahx N E hN hE N.length 0 [] (by omega) ⟨List.nodup_nil, by simp, fun i k hk => by simp at hk⟩ (.inl rfl)
 exact ⟨O, h1, h2, by rw [az.ae]; exact h3⟩
end
end Go.Proofs.YtmdimhcjogjcgaaGreatDoor.Lat
namespace Go.Proofs.YtmdimhcjogjcgaaGreatDoor.Gr
open Go.Proofs.YtmdimhcjogjcgaaGreatDoor.Lat Go.Proofs.YtmdimhcjogjcgaaGreatDoor.Mp
open Go.Proofs.YtmdimhcjogjcgaaGreatDoor.Abs (aw)
def cnt (f : Gr) (out : List Bs) (k : Bs) : Nat := ((f k).getD []).countP fun y => decide (y ∉ out)
theorem ajy {out : List Bs} {k : Bs} (hk : k ∉ out) : ∀ (l : List Bs), l.Nodup → l.countP (fun y => decide (y ∉ out)) = l.countP (fun y => decide (y ∉ out ++ [k])) + if k ∈ l then 1 else 0
 | [], _ => by simp
 | x :: l, h => by
  have h' := List.nodup_cons.1 h
  rw [List.countP_cons, List.countP_cons, ajy hk l h'.2]
  by_cases hx : x = k
  ·subst hx
   simp [hk, h'.1]
  ·have e : (x ∉ out ++ [k]) ↔ x ∉ out := by simp [hx]
   have e2 : k ∈ x :: l ↔ k ∈ l := by simp [Ne.symm hx]
   simp only [e, e2]
   omega
theorem adf {f : Gr} {k y : Bs} : y ∈ (f k).getD [] ↔ ju f k y := by
 unfold ju
 cases f k with
 | none => simp
 | some l => simp
theorem akr {f : Gr} {out : List Bs} {k : Bs} : cnt f out k = 0 ↔ ∀ y, ju f k y → y ∈ out := by
 unfold cnt
 rw [List.countP_eq_zero]
 constructor
 ·intro h y hy
  have := h y (adf.2 hy)
  simpa using this
 ·intro h y hy
  simpa using h y (adf.1 hy)
theorem azr {f : Gr} (hok : sg f) (k : Bs) : ((f k).getD []).Nodup := by
 cases hf : f k with
 | none => exact List.nodup_nil
 | some l => exact (hok.ris k l hf).nodup
theorem auk {f : Gr} (hok : sg f) {out : List Bs} {k : Bs} (hk : k ∉ out) (x : Bs) : (ju f x k → cnt f out x = cnt f (out ++ [k]) x + 1) ∧ (¬ ju f x k → cnt f out x = cnt f (out ++ [k]) x) := by
 have := ajy hk _ (azr hok x)
 unfold cnt
 refine ⟨fun h => ?_, fun h => ?_⟩
 ·rw [if_pos (adf.2 h)] at this; exact this
 ·rw [if_neg (fun c => h (adf.1 c))] at this; exact this
structure Inv (f : Gr) (out : List Bs) (C : Bs → Option Nat) (free : List Bs) : Prop where
 nd : out.Nodup
 pt : ∀ k ∈ out, f k ≠ none
 dom : ∀ k, C k ≠ none ↔ f k ≠ none ∧ k ∉ out
 val : ∀ k c, C k = some c → c = cnt f out k
 ris : Ris free
 fr : ∀ k, k ∈ free ↔ C k = some 0
 pre : ∀ (i : Nat) (k : Bs), out[i]? = some k → (∀ y, ju f k y → y ∈ out.take i) ∧ ∀ y, f y ≠ none → y ∉ out.take i → (∀ z, ju f y z → z ∈ out.take i) → y = k ∨ aw k y = true
structure abg (f : Gr) (out : List Bs) (k : Bs) (T : List Bs) (j : Nat) (C : Bs → Option Nat) (free : List Bs) : Prop where
 dom : ∀ x, C x ≠ none ↔ f x ≠ none ∧ x ∉ out ++ [k]
 val : ∀ x c, C x = some c → c = if x ∈ T.take j then cnt f (out ++ [k]) x else cnt f out x
 ris : Ris free
 fr : ∀ x, x ∈ free ↔ C x = some 0
theorem Inv.start {f : Gr} {n : Nat} {P : List Bs} (hP : art f n P) {C : Bs → Option Nat} (h1 : ∀ k, C k ≠ none ↔ k ∈ P) (h2 : ∀ k c, C k = some c → c = ((f k).getD []).length) {free : List Bs} (h3 : free = P.filter fun k => decide (((f k).getD []).length = 0)) : Inv f [] C free := by
 refine ⟨List.nodup_nil, by simp, fun k => by rw [h1, hP.mem]; simp, fun k c hc => ?_, ?_, fun k => ?_, fun i k h => by simp at h⟩
 ·rw [h2 k c hc]
  unfold cnt
  rw [List.countP_eq_length.2]
  simp
 ·rw [h3]; exact hP.ris.filter _
 ·rw [h3, List.mem_filter, ← h1]
  constructor
  ·rintro ⟨a, b⟩
   obtain ⟨c, hc⟩ := Option.ne_none_iff_exists'.1 a
   rw [hc, h2 k c hc]
   simpa using b
  ·intro h
   exact ⟨by rw [h]; simp, by simpa using (h2 k 0 h).symm⟩
theorem Inv.head {f : Gr} {out r : List Bs} {C : Bs → Option Nat} {k : Bs} (h : Inv f out C (k :: r)) : f k ≠ none ∧ k ∉ out ∧ ∀ y, ju f k y → y ∈ out := by
 have h0 := (h.fr k).1 (List.mem_cons_self ..)
 have h1 := (h.dom k).1 (by rw [h0]; simp)
 exact ⟨h1.1, h1.2, akr.1 (h.val k 0 h0).symm⟩
theorem abg.start {f : Gr} {out r : List Bs} {C : Bs → Option Nat} {k : Bs} (T : List Bs) (h : Inv f out C (k :: r)) : abg f out k T 0 (upd C k none) r := by
 have hr := List.pairwise_cons.1 h.ris
 have hkr : k ∉ r := fun c => by have := hr.1 k c; rw [mo] at this; cases this
 refine ⟨fun x => ?_, fun x c hc => ?_, hr.2, fun x => ?_⟩
 ·by_cases hx : x = k
  ·subst hx; simp [oc]
  ·rw [vu _ _ hx, h.dom]; simp [hx]
 ·by_cases hx : x = k
  ·subst hx; rw [oc] at hc; cases hc
  ·rw [vu _ _ hx] at hc
   simp [h.val x c hc]
 ·by_cases hx : x = k
  ·subst hx; simp [oc, hkr]
  ·rw [vu _ _ hx, ← h.fr x]; simp [hx]
theorem abg.step {f : Gr} (hok : sg f) {out T free : List Bs} {C : Bs → Option Nat} {k x : Bs} {j : Nat} (hT : Ris T) (hTm : ∀ x, x ∈ T ↔ ju f x k) (hko : k ∉ out) (hkl : ∀ y, ju f k y → y ∈ out) (hcl : ∀ y ∈ out, ∀ z, ju f y z → z ∈ out)
  (h : abg f out k T j C free) (hx : T[j]? = some x) : ∃ c, C x = some (c + 1) ∧ c + 1 ≤ ((f x).getD []).length ∧ f x ≠ none ∧ (c ≠ 0 → abg f out k T (j + 1) (upd C x (some c)) free) ∧ (c = 0 → x ∉ free ∧ abg f out k T (j + 1) (upd C x (some c)) (ade free x)) := by
 have hxk := (hTm x).1 (List.mem_of_getElem? hx)
 have hfx : f x ≠ none := by obtain ⟨l, hl, _⟩ := hxk; rw [hl]; simp
 have hxo : x ∉ out ++ [k] := by
  intro c
  rcases List.mem_append.1 c with c | c
  ·exact hko (hcl x c k hxk)
  ·have e : x = k := by simpa using c
   subst e
   exact hko (hkl x hxk)
 obtain ⟨d, hd⟩ := Option.ne_none_iff_exists'.1 ((h.dom x).2 ⟨hfx, hxo⟩)
 have hxt : x ∉ T.take j := by
  intro c
  obtain ⟨i, hi, he⟩ := List.getElem_of_mem c
  have hi' : i < j := by have := hi; simp at this; omega
  have hj := (List.getElem?_eq_some_iff.1 hx).1
  have h1 : aw T[i] T[j] = true := List.pairwise_iff_getElem.1 hT _ _ _ hj hi'
  have e1 : T[i] = x := by simpa using he
  have e2 : T[j] = x := (List.getElem?_eq_some_iff.1 hx).2
  rw [e1, e2, mo] at h1; cases h1
 have hv := h.val x d hd
 rw [if_neg hxt] at hv
 have hs := (auk hok hko x).1 hxk
 refine ⟨cnt f (out ++ [k]) x, by rw [hd, hv, hs], ?_, hfx, ?_⟩
 ·rw [← hs]; exact List.countP_le_length
 have hdom : ∀ y, upd C x (some (cnt f (out ++ [k]) x)) y ≠ none ↔ f y ≠ none ∧ y ∉ out ++ [k] := fun y => by
  by_cases hy : y = x
  ·subst hy; rw [oc]; simp only [ne_eq, reduceCtorEq, not_false_eq_true, true_iff]; exact ⟨hfx, hxo⟩
  ·rw [vu _ _ hy]; exact h.dom y
 have hval : ∀ y c, upd C x (some (cnt f (out ++ [k]) x)) y = some c → c = if y ∈ T.take (j + 1) then cnt f (out ++ [k]) y else cnt f out y := fun y c hc => by
  by_cases hy : y = x
  ·subst hy
   rw [oc] at hc; cases hc
   rw [if_pos ((xx hx).2 (.inr rfl))]
  ·rw [vu _ _ hy] at hc
   rw [h.val y c hc]
   have : y ∈ T.take (j + 1) ↔ y ∈ T.take j := by rw [xx hx]; simp [hy]
   simp only [this]
 have hnf : x ∉ free := fun c => by
  have := (h.fr x).1 c
  rw [hd, hv, hs] at this; cases this
 refine ⟨fun hc => ⟨hdom, hval, h.ris, fun y => ?_⟩, fun hc => ⟨hnf, hdom, hval, akq h.ris hnf, fun y => ?_⟩⟩
 ·by_cases hy : y = x
  ·subst hy
   rw [oc]
   simp [hnf, hc]
  ·rw [vu _ _ hy]; exact h.fr y
 ·rw [akp]
  by_cases hy : y = x
  ·subst hy
   rw [oc]
   simp [hc]
  ·rw [vu _ _ hy, ← h.fr y]
   simp [hy]
theorem Inv.closed {f : Gr} {out free : List Bs} {C : Bs → Option Nat} (h : Inv f out C free) : ∀ y ∈ out, ∀ z, ju f y z → z ∈ out := fun y hy z hz => by
 obtain ⟨i, hi, he⟩ := List.getElem_of_mem hy
 exact List.mem_of_mem_take ((h.pre i y (by rw [List.getElem?_eq_getElem hi, he])).1 z hz)
theorem abg.stop {f : Gr} (hok : sg f) {out T free r : List Bs} {C C0 : Bs → Option Nat} {k : Bs} (hTm : ∀ x, x ∈ T ↔ ju f x k) (h0 : Inv f out C0 (k :: r)) (h : abg f out k T T.length C free) : Inv f (out ++ [k]) C free := by
 obtain ⟨h1, h2, h3⟩ := h0.head
 refine ⟨?_, fun x hx => ?_, h.dom, fun x c hc => ?_, h.ris, h.fr, fun i x hx => ?_⟩
 ·rw [List.nodup_append]
  exact ⟨h0.nd, by simp, fun a ha b hb e => by simp at hb; subst hb; subst e; exact h2 ha⟩
 ·rcases List.mem_append.1 hx with hx | hx
  ·exact h0.pt x hx
  ·have e : x = k := by simpa using hx
   subst e; exact h1
 ·rw [h.val x c hc, List.take_length]
  split
  ·rfl
  ·rename_i hx
   exact (auk hok h2 x).2 fun hl => hx ((hTm x).2 hl)
 ·rw [List.getElem?_append] at hx
  split at hx
  ·rename_i hi
   rw [List.take_append_of_le_length (by omega)]
   exact h0.pre i x hx
  ·rename_i hi
   have hi2 : i = out.length := by
    have := (List.getElem?_eq_some_iff.1 hx).1
    simp at this; omega
   subst hi2
   simp at hx
   subst hx
   rw [List.take_append_of_le_length (Nat.le_refl _), List.take_length]
   refine ⟨h3, fun y hy hyo hyl => ?_⟩
   have hc : C0 y ≠ none := (h0.dom y).2 ⟨hy, hyo⟩
   obtain ⟨c, hc⟩ := Option.ne_none_iff_exists'.1 hc
   have hc0 : c = 0 := by rw [h0.val y c hc]; exact akr.2 hyl
   subst hc0
   rcases List.mem_cons.1 ((h0.fr y).2 hc) with rfl | hm
   ·exact .inl rfl
   ·exact .inr ((List.pairwise_cons.1 h0.ris).1 y hm)
structure aru (f : Gr) (out bound : List Bs) : Prop where
 nd : out.Nodup
 ris : Ris bound
 all : ∀ k, f k ≠ none ↔ k ∈ out ∨ k ∈ bound
 apart : ∀ k ∈ out, k ∉ bound
 pre : ∀ (i : Nat) (k : Bs), out[i]? = some k → (∀ y, ju f k y → y ∈ out.take i) ∧ ∀ y, f y ≠ none → y ∉ out.take i → (∀ z, ju f y z → z ∈ out.take i) → y = k ∨ aw k y = true
 back : ∀ k ∈ bound, ∃ y ∈ bound, ju f k y
theorem Inv.stop {f : Gr} (hok : sg f) {out bound : List Bs} {C : Bs → Option Nat} (h : Inv f out C []) (hb : Ris bound) (hm : ∀ k, k ∈ bound ↔ C k ≠ none) : aru f out bound := by
 refine ⟨h.nd, hb, fun k => ?_, fun k hk c => ((h.dom k).1 ((hm k).1 c)).2 hk, h.pre, fun k hk => ?_⟩
 ·rw [hm, h.dom]
  by_cases hk : k ∈ out
  ·simp [hk, h.pt k hk]
  ·simp [hk]
 ·have hc := (hm k).1 hk
  obtain ⟨c, hc'⟩ := Option.ne_none_iff_exists'.1 hc
  have hne : cnt f out k ≠ 0 := fun e => by
   have h0 := h.val k c hc'
   rw [e] at h0; subst h0
   have := (h.fr k).2 hc'
   cases this
  have : ∃ y, ju f k y ∧ y ∉ out := Classical.byContradiction fun hn => hne (akr.2 fun y hy => Classical.byContradiction fun c => hn ⟨y, hy, c⟩)
  obtain ⟨y, hy, hyo⟩ := this
  obtain ⟨l, hl, hyl⟩ := id hy
  exact ⟨y, (hm y).2 ((h.dom y).2 ⟨hok.pt k l y hl hyl, hyo⟩), hy⟩
end Go.Proofs.YtmdimhcjogjcgaaGreatDoor.Gr
