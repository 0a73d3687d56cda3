/- What a query has found so far; the function literal that notes it. -/
import Derived.Test.YtmdimhcjogjcgaaGreatDoorGaz
import Derived.Test.YtmdimhcjogjcgaaGreatDoorGay
import Derived.Ground.NamesProg
import Derived.Shelf.Strings.Split
import Derived.Test.YtmdimhcjogjcgaaGreatDoorProg
import Derived.Lib.Join
set_option linter.all false
set_option maxRecDepth 100000
set_option maxHeartbeats 4000000
noncomputable section
namespace Go.Proofs.YtmdimhcjogjcgaaGreatDoor.Lat
structure Hit where
 p : Bs
 v : List Tm
def zg (h : Hit) : List Abs.AV := [.str h.p, .sl 8 (ak h.v)]
def kh (l : List Hit) : List (List Abs.AV) := l.map zg
theorem aa7 {l : List Hit} {i : Nat} {t : Hit} (h : l[i]? = some t) : (kh l)[i]? = some (zg t) := by rw [kh, List.getElem?_map, h]; rfl
theorem mj (l : List Hit) : (kh l).length = l.length := by simp [kh]
end Go.Proofs.YtmdimhcjogjcgaaGreatDoor.Lat
namespace Go.Proofs.YtmdimhcjogjcgaaGreatDoor.Qw
open Go.RowKit Go.Lib Go.Proofs.YtmdimhcjogjcgaaGreatDoor.Abs Go.Proofs.YtmdimhcjogjcgaaGreatDoor.Lat Go.Proofs.YtmdimhcjogjcgaaGreatDoor.Lat.Cp Go.Proofs.YtmdimhcjogjcgaaGreatDoor.Gr Go.Proofs.YtmdimhcjogjcgaaGreatDoor.Th
def Hx (B b : Nat) (c : Cls) (v : Value) : Cls := fun q => if v.ownBlock = some q ∨ q = b then .box 0 else if q < B then c q else .frz
theorem ahi {B b q i : Nat} {c : Cls} {v : Value} : dw (Hx B b c v) q i ↔ (v.ownBlock ≠ some q ∧ q ≠ b) ∧ (q < B → dw c q i) := by
 unfold dw Hx
 by_cases h : v.ownBlock = some q ∨ q = b
 ·rw [if_pos h]
  simp only [false_iff, not_and]
  rintro ⟨h1, h2⟩
  rcases h with h | h
  ·exact absurd h h1
  ·exact absurd h h2
 ·rw [if_neg h]
  have h1 : v.ownBlock ≠ some q ∧ q ≠ b := ⟨fun e => h (.inl e), fun e => h (.inr e)⟩
  by_cases h2 : q < B
  ·rw [if_pos h2]; simp [h1, h2]
  ·rw [if_neg h2]; simp [h1, h2]
structure oq (w : World) (B b : Nat) (c : Cls) (v : Value) (l : List Hit) : Prop where
 ex : ∃ xs, w.ownsRow B 47 2 v l.length xs ∧ ∀ i t j a, l[i]? = some t → (zg t)[j]? = some a → ∃ u, xs[i * 2 + j]? = some u ∧ Rep w (Hx B b c v) u a
structure HI (w1 : World) (c : Cls) (b : Nat) (l : List Hit) (W : World) : Prop where
 ex : ∃ v, W.heap[b]? = some (.cells #[v] 39 (0, 0)) ∧ oq W w1.heap.size b c v l ∧ v.ownBlock ≠ some b
 bel : Below w1.heap.size w1 W
 ge : w1.heap.size ≤ b
theorem amc {w : World} {B b : Nat} {c : Cls} {v : Value} {l : List Hit} (h : oq w B b c v l) : ∀ g, v.ownBlock = some g → B ≤ g ∧ g < w.heap.size := fun g e => by
 obtain ⟨xs, ⟨h1, ⟨rfl, h2⟩ | ⟨g', cap, cur, rfl, h3, h4, _⟩⟩, _⟩ := h.ex
 ·cases e
 ·cases e; exact ⟨h3, dz h4⟩
theorem yy {w w' : World} {B b : Nat} {c : Cls} {v v' u : Value} {a : AV} (h : Rep w (Hx B b c v) u a) (hsz : w.heap.size ≤ w'.heap.size) (ho : w'.os = w.os) (ht : w'.tape = w.tape) (hp : w'.output = w.output)
  (hk : ∀ q, q < w.heap.size → v.ownBlock ≠ some q → q ≠ b → w'.heap[q]? = w.heap[q]?) (hat : v'.ownBlock = v.ownBlock ∨ v'.ownBlock = some w.heap.size ∨ v'.ownBlock = none) : Rep w' (Hx B b c v') u a :=
 h.ext (a3b hsz ho ht hp fun q i hb hl => by
  obtain ⟨⟨h1, h0⟩, h2⟩ := ahi.1 hb
  refine ⟨hk q hl h1 h0, ahi.2 ⟨⟨fun e => ?_, h0⟩, h2⟩⟩
  rcases hat with q1 | q1 | q1
  ·exact h1 (q1.symm.trans e)
  ·rw [q1] at e; cases e; omega
  ·rw [q1] at e; cases e)
theorem oq.nil (w : World) (B b : Nat) (c : Cls) : oq w B b c (.slice none 0 0) [] := ⟨[], ⟨rfl, .inl ⟨rfl, rfl⟩⟩, fun i t j a hi => by simp at hi⟩
theorem oq.snoc {w w' : World} {B b : Nat} {c : Cls} {v v' : Value} {l : List Hit} {xs us : List Value} {t : Hit}
  (h3 : ∀ i t j a, l[i]? = some t → (zg t)[j]? = some a → ∃ u, xs[i * 2 + j]? = some u ∧ Rep w (Hx B b c v) u a) (hxs : xs.length = l.length * 2)
  (hu : ∀ (j : Nat) (a : AV), (zg t)[j]? = some a → ∃ u : Value, us[j]? = some u ∧ Rep w (Hx B b c v) u a)
  (hown : w'.ownsRow B 47 2 v' (l.length + 1) (xs ++ us)) (hg : w.grownBy w' v.ownBlock) (hat : v'.ownBlock = v.ownBlock ∨ v'.ownBlock = some w.heap.size) : oq w' B b c v' (l ++ [t]) := by
 have jj : ∀ {u a}, Rep w (Hx B b c v) u a → Rep w' (Hx B b c v') u a := fun hr => yy hr hg.size hg.os hg.tape hg.output (fun q hq h1 _ => hg.block q hq fun e => h1 e.symm) (hat.imp id .inl)
 refine ⟨xs ++ us, by rw [List.length_append]; exact hown, fun i t' j a hi hj => ?_⟩
 have hj3 : j < 2 := by have := (List.getElem?_eq_some_iff.1 hj).1; simpa [zg] using this
 by_cases h : i < l.length
 ·rw [List.getElem?_append_left h] at hi
  obtain ⟨u, e, hr⟩ := h3 i t' j a hi hj
  refine ⟨u, ?_, jj hr⟩
  rw [List.getElem?_append_left (by rw [hxs]; omega)]; exact e
 ·have hil := (List.getElem?_eq_some_iff.1 hi).1
  rw [List.length_append, List.length_singleton] at hil
  obtain rfl : i = l.length := by omega
  rw [List.getElem?_append_right (Nat.le_refl _), Nat.sub_self] at hi
  cases hi
  obtain ⟨u, e, hr⟩ := hu j a hj
  refine ⟨u, ?_, jj hr⟩
  rw [List.getElem?_append_right (by rw [hxs]; omega), hxs, Nat.add_sub_cancel_left]; exact e
theorem oq.rep {w : World} {B b : Nat} {v : Value} {l : List Hit} {c : Cls} (h : oq w B b c v l) : Rep w (fun q => if q < B then c q else .frz) v (.sl 2 (kh l)) := by
 obtain ⟨xs, ⟨h1, h2⟩, h3⟩ := h.ex
 have hR : ∀ {u a}, Rep w (Hx B b c v) u a → Rep w (fun q => if q < B then c q else .frz) u a := fun hr => hr.ext (a3b (Nat.le_refl _) rfl rfl rfl fun q i hb _ => ⟨rfl, aek.2 (ahi.1 hb).2⟩)
 rcases h2 with ⟨rfl, h2⟩ | ⟨g, cap, cur, rfl, h4, h5, h6, h7, h8, h9⟩
 ·obtain rfl := List.eq_nil_of_length_eq_zero h2
  exact .nil _
 ·have hl := mj l
  rw [← hl]
  have hcell : ∀ i t j a, l[i]? = some t → (zg t)[j]? = some a → ∃ u, cur[i * 2 + j]? = some u ∧ Rep w (fun q => if q < B then c q else .frz) u a := fun i t j a hi hj => by
   obtain ⟨u, e, hr⟩ := h3 i t j a hi hj
   refine ⟨u, ?_, hR hr⟩
   rw [← h9, List.getElem?_take] at e
   split at e
   ·simpa using e
   ·cases e
  refine Rep.sl g 0 cap 2 _ (fun i j => cur.getD (i * 2 + j) undef) (by omega) (fun i cs hi => ?_) (fun i j hi hj => ?_) (fun i j hi hj => aek.2 fun h => by omega) (fun i j cs a hi hj => ?_)
  ·rw [kh, List.getElem?_map] at hi
   cases hx : l[i]? with
   | none => rw [hx] at hi; cases hi
   | some f => rw [hx] at hi; cases hi; rfl
  ·rw [cell_of h5, Nat.zero_add]
   have : i * 2 + j < cur.size := by omega
   simp [Array.getD_eq_getD_getElem?, this]
  ·rw [kh, List.getElem?_map] at hi
   cases hx : l[i]? with
   | none => rw [hx] at hi; cases hi
   | some t =>
    rw [hx] at hi; cases hi
    obtain ⟨u, e, hr⟩ := hcell i t j a hx hj
    show Rep w _ (cur.getD (i * 2 + j) undef) a
    simp only [Array.getD_eq_getD_getElem?, e, Option.getD_some]; exact hr
end Go.Proofs.YtmdimhcjogjcgaaGreatDoor.Qw
namespace Go.Proofs
open Go.Shelf
def Tryz.j1 : Go.Shelf.Ren := ⟨fun | 146 => 100 | 221 => 132 | 268 => 176 | 138 => 177 | 143 => 178 | 195 => 223 | 197 => 224 | 218 => 225 | 219 => 226 | 260 => 265 | 217 => 266 | 225 => 267 | 224 => 268 | 267 => 269 | 266 => 289 | 314 => 290 | n => n, fun | 9 => 9 | 31 => 37 | 3 => 3 | 4 => 4 | 0 => 0 | 105 => 254 | 21 => 21 | 5 => 5 | 46 => 142 | 119 => 297 | 139 => 300 | 138 => 299 | 146 => 301 | 51 => 293 | n => n, fun | 1 => 3 | 3 => 5 | 4 => 6 | n => n⟩
theorem Tryz.ay7 : Go.Proofs.Lays.n146 Tryz.prog Tryz.j1 := {
 mixed := by kernel_rfl
 f138 := Tryz.func177.trans (congrArg some (by kernel_rfl))
 f143 := Tryz.func178.trans (congrArg some (by kernel_rfl))
 f146 := Tryz.func100.trans (congrArg some (by kernel_rfl))
 f195 := Tryz.func223.trans (congrArg some (by kernel_rfl))
 f197 := Tryz.func224.trans (congrArg some (by kernel_rfl))
 f217 := Tryz.func266.trans (congrArg some (by kernel_rfl))
 f218 := Tryz.func225.trans (congrArg some (by kernel_rfl))
 f219 := Tryz.func226.trans (congrArg some (by kernel_rfl))
 f221 := Tryz.func132.trans (congrArg some (by kernel_rfl))
 f224 := Tryz.func268.trans (congrArg some (by kernel_rfl))
 f225 := Tryz.func267.trans (congrArg some (by kernel_rfl))
 f260 := Tryz.func265.trans (congrArg some (by kernel_rfl))
 f266 := Tryz.func289.trans (congrArg some (by kernel_rfl))
 f267 := Tryz.func269.trans (congrArg some (by kernel_rfl))
 f268 := Tryz.func176.trans (congrArg some (by kernel_rfl))
 f314 := Tryz.func290.trans (congrArg some (by kernel_rfl))
 t0 := Tryz.underlying0
 a0 := Tryz.isAgg0
 z0 := Tryz.sizeOf0
 v0 := Tryz.zeroValue0
 t3 := Tryz.underlying3
 a3 := Tryz.isAgg3
 z3 := Tryz.sizeOf3
 v3 := Tryz.zeroValue3
 t4 := Tryz.underlying4
 a4 := Tryz.isAgg4
 z4 := Tryz.sizeOf4
 v4 := Tryz.zeroValue4
 t5 := Tryz.underlying5
 a5 := Tryz.isAgg5
 z5 := Tryz.sizeOf5
 v5 := Tryz.zeroValue5
 t9 := Tryz.underlying9
 a9 := Tryz.isAgg9
 z9 := Tryz.sizeOf9
 v9 := Tryz.zeroValue9
 t21 := Tryz.underlying21
 a21 := Tryz.isAgg21
 z21 := Tryz.sizeOf21
 v21 := Tryz.zeroValue21
 t31 := Tryz.underlying37
 a31 := Tryz.isAgg37
 z31 := Tryz.sizeOf37
 v31 := Tryz.zeroValue37
 t46 := Tryz.underlying142
 a46 := Tryz.isAgg142
 z46 := Tryz.sizeOf142
 v46 := Tryz.zeroValue142
 t51 := Tryz.underlying293
 a51 := Tryz.isAgg293
 z51 := Tryz.sizeOf293
 v51 := Tryz.zeroValue293
 t105 := Tryz.underlying254
 a105 := Tryz.isAgg254
 z105 := Tryz.sizeOf254
 v105 := Tryz.zeroValue254
 t119 := Tryz.underlying297
 a119 := Tryz.isAgg297
 z119 := Tryz.sizeOf297
 t138 := Tryz.underlying299
 a138 := Tryz.isAgg299
 z138 := Tryz.sizeOf299
 v138 := Tryz.zeroValue299
 t139 := Tryz.underlying300
 a139 := Tryz.isAgg300
 z139 := Tryz.sizeOf300
 v139 := Tryz.zeroValue300
 t146 := Tryz.underlying301
 a146 := Tryz.isAgg301
 z146 := Tryz.sizeOf301
 v146 := Tryz.zeroValue301
 g1 := by kernel_rfl
 g3 := by kernel_rfl
 g4 := by kernel_rfl }
end Go.Proofs
namespace Go.Proofs.YtmdimhcjogjcgaaGreatDoor.Qw
open Go.Shelf Go.RowKit Go.Lib Go.Proofs.YtmdimhcjogjcgaaGreatDoor.Abs Go.Proofs.YtmdimhcjogjcgaaGreatDoor.Lat Go.Proofs.YtmdimhcjogjcgaaGreatDoor.Lat.Cp Go.Proofs.YtmdimhcjogjcgaaGreatDoor.Gr Go.Proofs.YtmdimhcjogjcgaaGreatDoor.Th
abbrev L8 := List UInt8
def pre (x : L8) : List L8 → List L8
 | [] => [x]
 | h :: r => (x ++ h) :: r
def al : L8 → List L8
 | [] => [[]]
 | c :: r => if c = 46 then [] :: al r else pre [c] (al r)
theorem pre_nil (l : List L8) (h : l ≠ []) : pre [] l = l := by cases l with | nil => exact absurd rfl h | cons a r => rfl
theorem fj (l : L8) : al l ≠ [] := by
  cases l with
  | nil => simp [al]
  | cons c r => unfold al; split; · simp
                · cases al r <;> simp [pre]
theorem ahj (x y : L8) (l : List L8) (h : l ≠ []) : pre x (pre y l) = pre (x ++ y) l := by
 cases l with | nil => exact absurd rfl h | cons a r => simp [pre]
theorem af1 : ∀ s : L8, Lib.splitK [46] 0 (Lib.count s [46]) s = al s
 | [] => by rfl
 | c :: r => by
  have ih := af1 r
  unfold al
  by_cases hc : c = 46
  ·subst hc
   rw [if_pos rfl, Lib.count_cons_eq, Nat.add_comm, Lib.splitK]
   have hi : Lib.index (46 :: r) [46] = 0 := by rw [Lib.index_one]; simp [Lib.indexByte]
   rw [hi, if_neg (by decide)]
   simpa using ih
  ·rw [if_neg hc, Lib.count_cons_ne _ _ _ hc, ← ih]
   cases hk : Lib.count r [46] with
   | zero => rfl
   | succ k =>
    have hi : Lib.index (c :: r) [46] = if Lib.index r [46] == -1 then -1 else Lib.index r [46] + 1 := by
     rw [Lib.index_one, Lib.index_one, Lib.indexByte, if_neg (by simpa using hc)]
    have hge := Lib.index_ge r [46]
    unfold Lib.splitK
    by_cases hm : Lib.index r [46] = -1
    ·rw [hi, hm]; rfl
    ·obtain ⟨i, e⟩ : ∃ i : Nat, Lib.index r [46] = i := ⟨(Lib.index r [46]).toNat, by omega⟩
     rw [hi, e, if_neg (by simp <;> omega), if_neg (by simp <;> omega), if_neg (by simp <;> omega)]
     rw [show ((i : Int) + 1).toNat = i + 1 from by omega, Int.toNat_natCast]
     rfl
theorem wy (x y : L8) (r : List L8) (sep : L8) : Lib.join (x :: y :: r) sep = x ++ sep ++ Lib.join (y :: r) sep := by
 rw [Lib.join_cons, Lib.join_cons]
 simp [Lib.joinTail]
theorem qv : ∀ s : L8, Lib.join (al s) [46] = s
 | [] => by rfl
 | c :: r => by
  have ih := qv r
  unfold al
  cases hd : al r with
  | nil => exact absurd hd (fj r)
  | cons h t =>
   rw [hd] at ih
   split
   ·rename_i hc; rw [wy, ih, hc]; rfl
   ·rw [pre, Lib.join_cons]
    rw [Lib.join_cons] at ih
    rw [← ih]; simp
theorem mf : ∀ s : L8, (al s).length ≤ s.length + 1
 | [] => by simp [al]
 | c :: r => by
  have ih := mf r
  unfold al
  split
  ·simp; omega
  ·cases hd : al r with
   | nil => exact absurd hd (fj r)
   | cons h t => rw [hd] at ih; simp [pre] at ih ⊢; omega
theorem wz : ∀ (s : L8), ∀ x ∈ al s, x.length ≤ s.length
 | [], x, h => by simp [al] at h; simp [h]
 | c :: r, x, h => by
  have ih := wz r
  unfold al at h
  split at h
  ·rw [List.mem_cons] at h
   rcases h with rfl | h
   ·simp
   ·have := ih x h; simp; omega
  ·cases hd : al r with
   | nil => exact absurd hd (fj r)
   | cons y t =>
    rw [hd] at h ih
    rw [pre, List.mem_cons] at h
    rcases h with rfl | h
    ·have := ih y (by simp); simp; omega
    ·have := ih x (by simp [h]); simp; omega
def dot : ByteArray := ⟨#[46]⟩
theorem as3 (s : ByteArray) (w : World) (hs : s.size < 4294967281) : Calls Tryz.prog 100 #[.string s, .string dot] w fun e w' =>
   e = .returned (.slice (some ⟨w.heap.size, 0, none⟩) (Lib.countB s dot + 1) (Lib.countB s dot + 1)) ∧ w' = w.alloc (.cells ((Lib.splitB dot 0 (Lib.countB s dot) s).map Value.string).toArray 9) := by
 have L := Tryz.ay7
 have h1 : 1 ≤ dot.size := by decide
 have hle := Lib.countB_le dot h1 s.size s (Nat.le_refl _)
 have hlen := Lib.splitB_all dot h1 0 _ s rfl
 have hi9 : (Tryz.prog.info? 9).map (fun i => (i.zero, i.size, i.bytes)) = some (some (.string ByteArray.empty), 1, 16) := by kernel_rfl
 have hI : ∀ (x : ByteArray) (c : Array Value), x.size ≤ s.size → Calls Tryz.prog (Tryz.j1.f 143) #[.string x, .string dot] (w.alloc (.cells c (Tryz.j1.t 9))) fun e w' => e = .returned (.int .i64 (Lib.indexB x dot)) ∧ w' = w.alloc (.cells c (Tryz.j1.t 9)) := fun x c hx => by
  refine (Any.strings_Index_one (ρ := Tryz.j1) { L with } x 46 _).mono fun e w' ⟨he, hw⟩ => ⟨?_, hw⟩
  rw [he]
  show _ = Ending.returned (Value.int .i64 (Lib.index x.data.toList [46]))
  rw [Lib.index_one]
 have hC : Calls Tryz.prog (Tryz.j1.f 138) #[.string s, .string dot] w fun e w' => e = .returned (.int .i64 (Lib.countB s dot)) ∧ w' = w := by
  refine (Any.strings_Count_one (ρ := Tryz.j1) { L with } s 46 w).mono fun e w' ⟨he, hw⟩ => ⟨?_, hw⟩
  rw [he]
  show _ = Ending.returned (Value.int .i64 ((Lib.count s.data.toList [46] : Nat) : Int))
  rw [Lib.count_one]
  rfl
 have c := Any.strings_genSplit_core (ρ := Tryz.j1) { L with } hi9 s dot 0 (-1) (Lib.countB s dot + 1) w hs h1 (Nat.zero_le _) hI hC (by decide) (by decide) (by rw [if_pos (by decide)]; omega)
 rw [Nat.add_sub_cancel, hlen] at c
 have e2 : Lib.cellsOf (Lib.splitB dot 0 (Lib.countB s dot) s) (Lib.countB s dot + 1) = ((Lib.splitB dot 0 (Lib.countB s dot) s).map Value.string).toArray := by rw [← hlen]; exact Lib.cellsOf_full _
 rw [e2] at c
 replace c := Lib.hid c
 clear hI hC
 go_enter Tryz.func100, Tryz.ntmps100
 go_wp2_with fail
 refine c.out.mono ?_
 rintro e w' ⟨rfl, hw⟩
 rw [hw]
 go_wp2_with fail
 go_ret
 exact ⟨rfl, rfl⟩
theorem awf (s : ByteArray) : (Lib.splitB dot 0 (Lib.countB s dot) s).map (·.data.toList) = al s.data.toList :=
 (Lib.splitB_data dot 0 (Lib.countB s dot) s).trans (af1 s.data.toList)
theorem ay8 (w : World) (c : Cls) (L : List ByteArray) : Rep (w.alloc (.cells (L.map Value.string).toArray 9)) (fun b => if b < w.heap.size then c b else .frz) (.slice (some ⟨w.heap.size, 0, none⟩) L.length L.length) (.sl 1 (br (L.map (·.data.toList)))) := by
 have hlen : (br (L.map (·.data.toList))).length = L.length := by simp [br]
 rw [← hlen]
 refine Rep.sl w.heap.size 0 _ 1 _ (fun i _ => (L.map Value.string).toArray.getD i undef) (Nat.le_refl _) (fun i cs hi => ?_) (fun i j hi hj => ?_) (fun i j hi hj => ?_) (fun i j cs a hi hj => ?_)
 ·rw [br, List.getElem?_map, List.getElem?_map] at hi
  cases hx : L[i]? with
  | none => rw [hx] at hi; cases hi
  | some f => rw [hx] at hi; cases hi; rfl
 ·obtain rfl : j = 0 := by omega
  rw [cell_of (heap_alloc_new w _)]
  have : i < L.length := by rw [hlen] at hi; exact hi
  simp [Array.getD_eq_getD_getElem?, this]
 ·exact aek.2 fun h => absurd h (Nat.lt_irrefl _)
 ·rw [br, List.getElem?_map, List.getElem?_map] at hi
  cases hx : L[i]? with
  | none => rw [hx] at hi; cases hi
  | some f =>
   rw [hx] at hi
   cases hi
   have hj0 : j = 0 := by have := (List.getElem?_eq_some_iff.1 hj).1; simp at this; exact this
   subst hj0
   cases hj
   have he : (L.map Value.string).toArray.getD i undef = .string f := by simp [Array.getD_eq_getD_getElem?, hx]
   rw [he]
   exact Rep.str f
def acb : List AV → Option AV
 | [.str s, .str sep] => if s.length ≤ 1073741824 ∧ sep = [46] then some (.sl 1 (br (al s))) else none
 | _ => none
theorem ay9 (l : List AV) (r : AV) (h : acb l = some r) : PC Tryz.prog τ 100 l r := by
 unfold acb at h
 split at h
 ·rename_i s sep
  split at h
  ·rename_i hok
   cases h
   obtain ⟨h1, rfl⟩ := hok
   intro w c vs hG hsz ha
   obtain ⟨v, u, rfl, hv, hu⟩ := aa6 hsz ha
   have hS : Rep w c v (.str s) := by rcases hv with hv | hv <;> exact hv
   have hU : Rep w c u (.str [46]) := by rcases hu with hu | hu <;> exact hu
   obtain ⟨sb, rfl, rfl⟩ := gu hS
   have hsd : sb.size ≤ 1073741824 := by rw [Lib.size_eq]; exact h1
   have hu2 : u = .string dot := by rw [af0 hU]; rfl
   subst hu2
   refine .inl ⟨by simp [callFunc, Tryz.func100, (show ¬ Tryz.f100.name = "runtime.NumGoroutine" by decide +kernel), (show Tryz.f100.body = some _ from rfl)], ?_⟩
   refine (as3 sb w (by omega)).mono fun e w' ⟨he, hw⟩ => ?_
   subst hw
   have hB : Below w.heap.size w (w.alloc (.cells ((Lib.splitB dot 0 (Lib.countB sb dot) sb).map Value.string).toArray 9)) := (Below.refl _ w).alloc (Nat.le_refl _) _
   refine ⟨_, he, _, Abs.ig c hB, ?_⟩
   have hl : (Lib.splitB dot 0 (Lib.countB sb dot) sb).length = Lib.countB sb dot + 1 := Lib.splitB_all dot (by decide) 0 _ sb rfl
   have hm := awf sb
   generalize Lib.splitB dot 0 (Lib.countB sb dot) sb = L at hl hm hB ⊢
   rw [← hl, ← hm]
   exact ay8 w c L
  ·cases h
 ·cases h
end Go.Proofs.YtmdimhcjogjcgaaGreatDoor.Qw
namespace Go.Proofs.YtmdimhcjogjcgaaGreatDoor.Abs
open Go.RowKit Go.Proofs.YtmdimhcjogjcgaaGreatDoor.Lat Go.Proofs.YtmdimhcjogjcgaaGreatDoor.Gr Go.Proofs.YtmdimhcjogjcgaaGreatDoor.Th
def Z : Abs.Sys := sq Y3 100 Qw.acb
theorem upZ {f : Nat} {l : List AV} {v : AV} (h : ag S f l = some v) : ag Z f l = some v := afz Y3 100 Qw.acb rfl (afz Y2 107 ajt rfl (afz Y1 195 tq rfl (afz S 78 xz rfl h)))
theorem amd : aa4 Tryz.prog Z := ⟨vz.tab, vz.fol, fun f g h l r hr => by
 by_cases hf : f = 100
 ·subst hf
  rw [Z, nh] at h
  cases h
  exact Qw.ay9 l r hr
 rw [Z, ke _ _ _ hf] at h
 by_cases hf1 : f = 107
 ·subst hf1
  rw [Y3, nh] at h
  cases h
  exact a2y l r hr
 rw [Y3, ke _ _ _ hf1] at h
 by_cases hf2 : f = 195
 ·subst hf2
  rw [Y2, nh] at h
  cases h
  obtain ⟨t, h1, h2, rfl, rfl⟩ := ap9 hr
  exact awe h1 h2
 rw [Y2, ke _ _ _ hf2] at h
 by_cases hf3 : f = 78
 ·subst hf3
  rw [Y1, nh] at h
  cases h
  obtain ⟨ts, hs, rfl, rfl⟩ := asz hr
  exact ay4 hs
 rw [Y1, ke _ _ _ hf3] at h
 exact vz.or f g h l r hr, fun f d h => vz.fn f d h⟩
theorem aza {ts : List Th} (hs : ahg ts) : ag Z 78 [.sl 3 (cf ts)] = some (.bool (kq (tds ts))) := by
 rw [ph, aj9 Z 78 _ xz (by rw [Z, ke _ _ _ (by decide), Y3, ke _ _ _ (by decide), Y2, ke _ _ _ (by decide), Y1, nh])]; exact as0 hs
theorem awg {t : Tm} (h1 : szV [t] ≤ 1073741824) (h2 : wtV [t] ≤ 512) : ag Z 195 [.sl 8 [ah t]] = some (.tup [.agg 1 [.sl 8 [ah t]], .int .i64 0]) := by
 rw [ph, aj9 Z 195 _ tq (by rw [Z, ke _ _ _ (by decide), Y3, ke _ _ _ (by decide), Y2, nh])]; exact aqa h1 h2
theorem azb {s : Bs} (hs : s.length ≤ 1073741824) : ag Z 100 [.str s, .str [46]] = some (.sl 1 (br (Qw.al s))) := by
 rw [ph, aj9 Z 100 _ Qw.acb (by rw [Z, nh])]
 exact if_pos ⟨hs, rfl⟩
def sr (a0 : AV) : Option AV := ag Z 112 [a0]
def tr (a0 : AV) : Option AV := ag Z 113 [a0]
theorem af2 {a0 : AV} {v : AV} (h : o6 a0 = some v) : tr a0 = some v := upZ h
def aa8 (a0 : AV) : Option AV := ag Z 152 [a0]
theorem ang {a0 : AV} {v : AV} (h : ky a0 = some v) : aa8 a0 = some v := upZ h
def ee (a0 : AV) : Option AV := ag Z 153 [a0]
def qg (a0 : AV) : Option AV := ag Z 84 [a0]
theorem acd {a0 : AV} {v : AV} (h : ri a0 = some v) : qg a0 = some v := upZ h
def ace (a0 : AV) : Option AV := ag Z 195 [a0]
def x4 (a0 a1 : AV) : Option AV := ag Z 168 [a0, a1]
theorem ajb {a0 a1 : AV} {v : AV} (h : ev a0 a1 = some v) : x4 a0 a1 = some v := upZ h
def mg (a0 : AV) : Option AV := ag Z 101 [a0]
theorem abf {a0 : AV} {v : AV} (h : vu a0 = some v) : mg a0 = some v := upZ h
def vk (a0 : AV) : Option AV := ag Z 108 [a0]
theorem ahk {a0 : AV} {v : AV} (h : fz a0 = some v) : vk a0 = some v := upZ h
def az (a0 : AV) : Option AV := ag Z 64 [a0]
def x5 (a0 : AV) : Option AV := ag Z 194 [a0]
theorem ajc {a0 : AV} {v : AV} (h : ct a0 = some v) : x5 a0 = some v := upZ h
def jx (a0 a1 : AV) : Option AV := ag Z 114 [a0, a1]
theorem vm {a0 a1 : AV} {v : AV} (h : ia a0 a1 = some v) : jx a0 a1 = some v := upZ h
def ew (a0 : AV) : Option AV := ag Z 33 [a0]
def pe (a0 : AV) : Option AV := ag Z 77 [a0]
def abg (a0 : AV) : Option AV := ag Z 78 [a0]
def yz (a0 a1 : AV) : Option AV := ag Z 100 [a0, a1]
theorem sr.ae (c1 : List AV) : sr (.agg 1 c1) = ((qg (.agg 1 c1)).bind fun r2 => asB r2 fun b3 => ifB (!b3) (some (.tup [.agg 8 [.int .i64 0, .int .i64 0, .int .i64 0, .str [], .bool false, .bool false, .bool false, .sl 2 []], .int .i64 1])) ((aa8 (.agg 1 c1)).bind fun r4 => lg r4 fun a5 a6 => asC 8 a5 fun c7 => asI .i64 a6 fun n8 => (ifB (decide (n8 = 0)) (ab c7 0 fun a10 => asI .i64 a10 fun n11 => some (decide (n11 = 4))) (some false) : Option Bool).bind fun b9 => ifB b9 ((ee (.sl 8 [c7])).bind fun r12 => lg r12 fun a13 a14 => asC 1 a13 fun c15 => asI .i64 a14 fun n16 => ab c15 0 fun a17 => asL 8 a17 fun l18 => idx l18 0 fun c19 => some (.tup [.agg 8 c19, .int .i64 n8])) (some (.tup [.agg 8 c7, .int .i64 n8])))) := (af Z 112 _ d112 rfl a6u).trans (by kernel_rfl)
def ee.l0 (a0 a2 a4 a13 a14 a15 : AV) : Option AV := cj Z 153 d153 [1, 1, 1, 0, 1, 0] (look [(0, a0), (2, a2), (4, a4), (13, a13), (14, a14), (15, a15)])
def ee.l1 (a0 a2 a4 a13 a14 a15 a30 a31 a32 : AV) : Option AV := cj Z 153 d153 [1, 1, 1, 0, 1, 0, 0, 1, 1, 0, 0, 1, 1, 1, 1, 0] (look [(0, a0), (2, a2), (4, a4), (13, a13), (14, a14), (15, a15), (30, a30), (31, a31), (32, a32)])
theorem ee.ae (l1 : LL) : ee (.sl 8 l1) = (ifB (decide ((512 : Int) < (l1.length : Int))) (some (.tup [.agg 1 [.sl 8 []], .int .i64 1])) (ee.l0 (.sl 8 l1) (.boxv 1 [.sl 8 []] [(0, .own 8 [])]) (.int .i64 1) (.sl 8 l1) (.int .i64 (l1.length : Int)) (.int .i64 0))) := (af Z 153 _ d153 rfl a67).trans (by kernel_rfl)
theorem ee.ar (l1 l2 l3 : LL) (n4 : Int) (l5 : LL) (n6 n7 : Int) : ee.l0 (.sl 8 l1) (.boxv 1 [.sl 8 l2] [(0, .own 8 l3)]) (.int .i64 n4) (.sl 8 l5) (.int .i64 n6) (.int .i64 n7) = (ifB (decide (n7 < n6)) (idx l5 n7 fun c8 => (x4 (.agg 8 c8) (.int .i64 17)).bind fun r9 => asB r9 fun b10 => ifB (!b10) (some (.tup [.agg 1 [.sl 8 []], .int .i64 1])) ((x5 (.agg 1 [.sl 8 [c8]])).bind fun r11 => asI .i64 r11 fun n12 => ab c8 7 fun a13 => asL 2 a13 fun l14 => ee.l1 (.sl 8 l1) (.boxv 1 [.sl 8 l2] [(0, .own 8 l3)]) (.int .i64 (max (n4 : Int) n12)) (.sl 8 l5) (.int .i64 n6) (.int .i64 n7) (.sl 2 l14) (.int .i64 (l14.length : Int)) (.int .i64 0))) (ifB (decide ((16 : Int) < n4)) (some (.tup [.agg 1 [.sl 8 []], .int .i64 22])) ((ace (.sl 8 l1)).bind fun r15 => lg r15 fun a16 a17 => asC 1 a16 fun c18 => asI .i64 a17 fun n19 => some (.tup [.agg 1 c18, .int .i64 n19])))) := (aw ..).trans (by kernel_rfl)
theorem ee.ib (l1 l2 l3 : LL) (n4 : Int) (l5 : LL) (n6 n7 : Int) (l8 : LL) (n9 n10 : Int) : ee.l1 (.sl 8 l1) (.boxv 1 [.sl 8 l2] [(0, .own 8 l3)]) (.int .i64 n4) (.sl 8 l5) (.int .i64 n6) (.int .i64 n7) (.sl 2 l8) (.int .i64 n9) (.int .i64 n10) = (ifB (decide (n10 < n9)) (idx l8 n10 fun c11 => ab c11 1 fun a12 => (qg (.agg 1 [(frz a12)])).bind fun r13 => asB r13 fun b14 => ifB (!b14) (some (.tup [.agg 1 [.sl 8 []], .int .i64 1])) (ee.l1 (.sl 8 l1) (.boxv 1 [.sl 8 l2] [(0, .own 8 l3)]) (.int .i64 n4) (.sl 8 l5) (.int .i64 n6) (.int .i64 n7) (.sl 2 l8) (.int .i64 n9) (.int .i64 (w64 (n10 + 1))))) (ee.l0 (.sl 8 l1) (.boxv 1 [.sl 8 l2] [(0, .own 8 l3)]) (.int .i64 n4) (.sl 8 l5) (.int .i64 n6) (.int .i64 (w64 (n7 + 1))))) := (aw ..).trans (by kernel_rfl)
def ew.l0 (a0 a8 a9 a10 : AV) : Option AV := cj Z 33 d33 [1, 1, 0, 1, 0] (look [(0, a0), (8, a8), (9, a9), (10, a10)])
theorem ew.ae (l1 : LL) : ew (.sl 3 l1) = (ifB (decide ((256 : Int) < (l1.length : Int))) (some (.bool false)) (ew.l0 (.sl 3 l1) (.sl 3 l1) (.int .i64 (l1.length : Int)) (.int .i64 0))) := (af Z 33 _ d33 rfl h33).trans (by kernel_rfl)
theorem ew.ar (l1 l2 : LL) (n3 n4 : Int) : ew.l0 (.sl 3 l1) (.sl 3 l2) (.int .i64 n3) (.int .i64 n4) = (ifB (decide (n4 < n3)) (idx l2 n4 fun c5 => (pe (.agg 3 c5)).bind fun r6 => asB r6 fun b7 => (ifB (!b7) (some true) ((ifB (decide ((0 : Int) < n4)) (ab c5 0 fun a10 => asS a10 fun s11 => idx l1 (w64 (n4 - 1)) fun c12 => ab c12 0 fun a13 => asS a13 fun s14 => some (ai s11 s14 || decide (s11 = s14))) (some false) : Option Bool).bind fun b9 => some b9) : Option Bool).bind fun b8 => ifB b8 (some (.bool false)) (ew.l0 (.sl 3 l1) (.sl 3 l2) (.int .i64 n3) (.int .i64 (w64 (n4 + 1))))) ((abg (.sl 3 l1)).bind fun r15 => asB r15 fun b16 => some (.bool (!b16)))) := (aw ..).trans (by kernel_rfl)
theorem pe.ae (c1 : List AV) : pe (.agg 3 c1) = (ab c1 1 fun a2 => (sr (.agg 1 [(frz a2)])).bind fun r3 => lg r3 fun a4 a5 => asC 8 a4 fun c6 => asI .i64 a5 fun n7 => ab c1 0 fun a8 => asS a8 fun s9 => (mg (.str s9)).bind fun r10 => asB r10 fun b11 => (ifB b11 (some (decide (n7 = 0))) (some false) : Option Bool).bind fun b12 => (ifB b12 (ab c6 0 fun a14 => asI .i64 a14 fun n15 => some (decide (n15 = 4))) (some false) : Option Bool).bind fun b13 => (ifB b13 (ab c1 1 fun a17 => (tr (.agg 1 [(frz a17)])).bind fun r18 => asB r18 fun b19 => some b19) (some false) : Option Bool).bind fun b16 => (ifB b16 (ab c1 2 fun a21 => asL 1 a21 fun l22 => (vk (.sl 1 l22)).bind fun r23 => asB r23 fun b24 => some b24) (some false) : Option Bool).bind fun b20 => (ifB b20 (ab c1 2 fun a26 => asL 1 a26 fun l27 => ab c1 0 fun a28 => asS a28 fun s29 => (jx (.sl 1 l27) (.str s29)).bind fun r30 => asB r30 fun b31 => some (!b31)) (some false) : Option Bool).bind fun b25 => some (.bool b25)) := (af Z 77 _ d77 rfl h77).trans (by kernel_rfl)
def az.j0 (a2 a3 : AV) : Option AV := abo Z 64 d64 [1, 1, 1, 1] (look [(2, a2), (3, a3)])
def az.l1 (a2 a3 a31 a32 a33 : AV) : Option AV := cj Z 64 d64 [1, 1, 1, 1, 1, 0, 1, 0] (look [(2, a2), (3, a3), (31, a31), (32, a32), (33, a33)])
theorem az.ae (s1 : B8) : az (.str s1) = (ifB (decide ((272 : Int) < (s1.length : Int))) (some (.tup [.own 1 [], .bool false, .bool false])) ((yz (.str s1) (.str [46])).bind fun r2 => asL 1 r2 fun l3 => ifB (decide ((16 : Int) < (l3.length : Int))) (some (.tup [.own 1 [], .bool false, .bool false])) ((ifB (decide ((0 : Int) < (w64 ((l3.length : Int) - 1)))) (idx l3 (w64 ((l3.length : Int) - 1)) fun c5 => ab c5 0 fun a6 => asS a6 fun s7 => some (decide (s7 = [42, 42]))) (some false) : Option Bool).bind fun b4 => ifB b4 (acp l3 (w64 ((l3.length : Int) - 1)) fun l8 => az.j0 (.sl 1 l8) (.bool true)) (az.j0 (.sl 1 l3) (.bool false))))) := (af Z 64 _ d64 rfl h64).trans (by kernel_rfl)
theorem az.aar (l1 : LL) : az.j0 (.sl 1 l1) (.bool true) = (az.l1 (.sl 1 l1) (.bool true) (.sl 1 l1) (.int .i64 (l1.length : Int)) (.int .i64 0)) := (qx ..).trans (by kernel_rfl)
theorem az.as4 (l1 : LL) : az.j0 (.sl 1 l1) (.bool false) = (az.l1 (.sl 1 l1) (.bool false) (.sl 1 l1) (.int .i64 (l1.length : Int)) (.int .i64 0)) := (qx ..).trans (by kernel_rfl)
theorem az.ib (l1 l2 : LL) (n3 n4 : Int) : az.l1 (.sl 1 l1) (.bool true) (.sl 1 l2) (.int .i64 n3) (.int .i64 n4) = (ifB (decide (n4 < n3)) (idx l2 n4 fun c5 => ab c5 0 fun a6 => asS a6 fun s7 => (ifB (!decide (s7 = [42])) ((mg (.str s7)).bind fun r9 => asB r9 fun b10 => some (!b10)) (some false) : Option Bool).bind fun b8 => ifB b8 (some (.tup [.own 1 [], .bool false, .bool false])) (az.l1 (.sl 1 l1) (.bool true) (.sl 1 l2) (.int .i64 n3) (.int .i64 (w64 (n4 + 1))))) (some (.tup [.sl 1 l1, .bool true, .bool true]))) := (aw ..).trans (by kernel_rfl)
theorem az.acf (l1 l2 : LL) (n3 n4 : Int) : az.l1 (.sl 1 l1) (.bool false) (.sl 1 l2) (.int .i64 n3) (.int .i64 n4) = (ifB (decide (n4 < n3)) (idx l2 n4 fun c5 => ab c5 0 fun a6 => asS a6 fun s7 => (ifB (!decide (s7 = [42])) ((mg (.str s7)).bind fun r9 => asB r9 fun b10 => some (!b10)) (some false) : Option Bool).bind fun b8 => ifB b8 (some (.tup [.own 1 [], .bool false, .bool false])) (az.l1 (.sl 1 l1) (.bool false) (.sl 1 l2) (.int .i64 n3) (.int .i64 (w64 (n4 + 1))))) (some (.tup [.sl 1 l1, .bool false, .bool true]))) := (aw ..).trans (by kernel_rfl)
end Go.Proofs.YtmdimhcjogjcgaaGreatDoor.Abs
namespace Go.Proofs.YtmdimhcjogjcgaaGreatDoor.Qw
open Go.RowKit Go.Lib Go.Proofs.YtmdimhcjogjcgaaGreatDoor.Abs Go.Proofs.YtmdimhcjogjcgaaGreatDoor.Lat Go.Proofs.YtmdimhcjogjcgaaGreatDoor.Lat.Cp Go.Proofs.YtmdimhcjogjcgaaGreatDoor.Gr Go.Proofs.YtmdimhcjogjcgaaGreatDoor.Th
theorem a3c : (Tryz.prog.info? 47).map (fun i => (i.zero, i.size, i.bytes)) = some (some (.agg #[.string ⟨#[]⟩, .slice none 0 0]), 2, 40) := by kernel_rfl
theorem as5 (w : World) (x y : Value) (t : TypeId) : ∀ (j : Nat) (u : Value), [x, y][j]? = some u → (w.alloc (.cells #[x, y] t)).cell? ((⟨w.heap.size, 0, none⟩ : Addr).add j) = some u := fun j u hu => by
 rw [j6, cell_of (heap_alloc_new w _), Nat.zero_add]
 simpa using hu
theorem acg {w : World} {B : Nat} {t k n : Nat} {v : Value} {xs : List Value} (h : w.ownsRow B t k v n xs) : ∃ A cap, v = .slice A n cap := by
 obtain ⟨h1, ⟨rfl, h2⟩ | ⟨g, cap, cur, rfl, _⟩⟩ := h
 ·exact ⟨none, 0, by rw [h2]⟩
 ·exact ⟨_, _, rfl⟩
theorem a6g {W W6 : World} {b : Nat} {v : Value} {x y : Value} {t u : TypeId} (hb : W.heap[b]? = some (.cells #[v] 39 (0, 0))) (hvb : v.ownBlock ≠ some b) (hg : ((W.alloc (.cells #[x, y] t)).alloc (.cells #[x, y] u)).grownBy W6 v.ownBlock) : W6.heap[b]? = some (.cells #[v] 39 (0, 0)) := by
 have hlt := dz hb
 rw [hg.block b (by simp; omega) (fun e => hvb e.symm), Below.heap_alloc _ _ _ (by simp; omega), Below.heap_alloc _ _ _ hlt, hb]
theorem oq.set {w : World} {B b : Nat} {c : Cls} {v : Value} {l : List Hit} (h : oq w B b c v l) (hv : v.ownBlock ≠ some b) (u : Value) : oq (w.setCell ⟨b, 0, none⟩ u) B b c v l := by
 obtain ⟨xs, h1, h2⟩ := h.ex
 refine ⟨xs, ownsRow_setCell_other h1 hv u, fun i t j a hi hj => ?_⟩
 obtain ⟨x, e, hr⟩ := h2 i t j a hi hj
 have hB : Below 0 w (w.setCell ⟨b, 0, none⟩ u) := (Below.refl 0 w).setCell (Nat.zero_le _) u
 exact ⟨x, e, yy hr hB.size hB.os hB.tape hB.output (fun q hq _ hqb => Below.heap_setCell w _ u q hqb) (.inl rfl)⟩
theorem as6 (w1 : World) (c : Cls) (b : Nat) (l : List Hit) (W : World) (hl : l.length ≤ 1073741824) (v : Value) (hb : W.heap[b]? = some (.cells #[v] 39 (0, 0))) (hrow : oq W w1.heap.size b c v l) (hvb : v.ownBlock ≠ some b) (bel : Below w1.heap.size w1 W) (ge : w1.heap.size ≤ b)
  (s : ByteArray) (A : Option Addr) (n cap : Nat) (ts : List Tm) (hR : Rep W (Hx w1.heap.size b c v) (.slice A n cap) (.sl 8 (ak ts))) :
  Calls Tryz.prog 66 #[.agg #[.string s, .slice A n cap], .pointer (some ⟨b, 0, none⟩)] W fun e W' => e = .returned (.tuple #[]) ∧ HI w1 c b (l ++ [⟨s.data.toList, ts⟩]) W' ∧ ∀ q, q < W.heap.size → q ≠ b → v.ownBlock ≠ some q → W'.heap[q]? = W.heap[q]? := by
 obtain ⟨i0, hi, hz0, hz1, hz2⟩ := info_parts a3c
 have hi' := Lib.hid (And.intro hi (And.intro hz0 (And.intro hz1 hz2)))
 obtain ⟨xs, hown, hxs⟩ := hrow.ex
 have hlt := dz hb
 have hxl := hown.1
 have hownA : ((W.alloc (.cells #[.string s, .slice A n cap] 47)).alloc (.cells #[.string s, .slice A n cap] 47)).ownsRow w1.heap.size 47 2 v l.length xs := (hown.alloc _).alloc _
 have b1' : l.length + 1 ≤ maxLen := by unfold maxLen; omega
 have b2' : (l.length + 1) * 40 ≤ 140737488355328 := by omega
 have b3' : w1.heap.size ≤ ((W.alloc (.cells #[.string s, .slice A n cap] 47)).alloc (.cells #[.string s, .slice A n cap] 47)).heap.size := by have := bel.size; simp; omega
 have hc : W.cell? ⟨b, 0, none⟩ = some v := by rw [cell_of hb]; rfl
 have hcl : ∀ (j : Nat) (u : Value), [Value.string s, .slice A n cap][j]? = some u → ((W.alloc (.cells #[.string s, .slice A n cap] 47)).alloc (.cells #[.string s, .slice A n cap] 47)).cell? ((⟨W.heap.size + 1, 0, none⟩ : Addr).add j) = some u := fun j u hu => by
  have := as5 (W.alloc (.cells #[.string s, .slice A n cap] 47)) (.string s) (.slice A n cap) 47 j u hu
  simpa using this
 replace hxs := Lib.hid hxs
 replace hR := Lib.hid hR
 replace hrow := Lib.hid hrow
 replace bel := Lib.hid bel
 clear hown hi hz0 hz1 hz2
 go_enter Tryz.func66, Tryz.ntmps66
 go_wp2_with (at_builtin; refine wpList_append_own_at _ rfl _ _ 39 rfl w1.heap.size 47 i0 _ 2 40 Tryz.underlying39 hi'.out.1 hi'.out.2.1 hi'.out.2.2.1 hi'.out.2.2.2 rfl (by decide) v l.length xs rfl hownA ⟨W.heap.size + 1, 0, none⟩ 1 1 [.string s, .slice A n cap] rfl rfl hcl (by simp [Value.oneCell']) b1' b2' b3' ?_; intro v' w6 hown' hgrow hnil hloc; obtain ⟨A', cap', rfl⟩ := acg hown'; have hb6 := a6g hb hvb hgrow; have hc6 : w6.cell? ⟨b, 0, none⟩ = some v := (by rw [cell_of hb6]; rfl); have hf6 : w6.frozen? ⟨b, 0, none⟩ = false := (by unfold World.frozen?; simp [hb6]); replace hb6 := Lib.hid hb6; replace hown' := Lib.hid hown'; replace hgrow := Lib.hid hgrow; replace hloc := Lib.hid hloc; clear hownA hcl hnil)
 refine bodyPost_end (results_none rfl _ _ _) rfl ?_
 refine ⟨rfl, ?_⟩
 have h2 : Below W.heap.size W ((W.alloc (.cells #[.string s, .slice A n cap] 47)).alloc (.cells #[.string s, .slice A n cap] 47)) := ((Below.refl _ W).alloc (Nat.le_refl _) _).alloc (by simp) _
 have hblk := amc hrow.out
 have jj : ∀ {u a}, Rep W (Hx w1.heap.size b c v) u a → Rep ((W.alloc (.cells #[.string s, .slice A n cap] 47)).alloc (.cells #[.string s, .slice A n cap] 47)) (Hx w1.heap.size b c v) u a :=
  fun hr => yy hr h2.size h2.os h2.tape h2.output (fun q hq _ _ => h2.block q hq) (.inl rfl)
 have hne : (Value.slice A' (l.length + 1) cap').ownBlock ≠ some b := fun e => by
  rcases hloc.out with q | q
  ·exact hvb (q.symm.trans e)
  ·rw [q] at e
   have := Option.some.inj e
   simp at this; omega
 have hr6 : oq w6 w1.heap.size b c (.slice A' (l.length + 1) cap') (l ++ [⟨s.data.toList, ts⟩]) := by
  refine oq.snoc (xs := xs) (us := [.string s, .slice A n cap]) (fun i t j a hi hj => ?_) hxl (fun j a hj => ?_) hown'.out hgrow.out hloc.out
  ·obtain ⟨u, e, hr⟩ := hxs.out i t j a hi hj
   exact ⟨u, e, jj hr⟩
  ·have hj2 := (List.getElem?_eq_some_iff.1 hj).1
   rcases (by simpa [zg] using hj2 : j < 2) |> fun h => (by omega : j = 0 ∨ j = 1) with rfl | rfl
   ·cases hj; exact ⟨_, rfl, Rep.str s⟩
   ·cases hj; exact ⟨_, rfl, jj hR.out⟩
 refine ⟨⟨⟨_, one_setCell hb6.out, hr6.set hne _, hne⟩, ?_, ge⟩, fun q hq hqb hqv => ?_⟩
 case refine_2 =>
  rw [Below.heap_setCell _ _ _ q hqb, hgrow.out.block q (Nat.lt_of_lt_of_le hq h2.size) (fun e => hqv e.symm), h2.block q hq]
 have hb1 : Below w1.heap.size w1 ((W.alloc (.cells #[.string s, .slice A n cap] 47)).alloc (.cells #[.string s, .slice A n cap] 47)) := dp bel.out (Nat.le_refl _) h2
 exact (hb1.grown hgrow.out b3' (fun k hk => (hblk k hk).1)).setCell ge _
end Go.Proofs.YtmdimhcjogjcgaaGreatDoor.Qw
