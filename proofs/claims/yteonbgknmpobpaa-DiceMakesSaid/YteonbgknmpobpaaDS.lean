/- The program's script. -/
import Derived.Test.YteonbgknmpobpaaDQ
import Derived.Test.YteonbgknmpobpaaShelf
import Derived.Laws.EntriesVeiled
namespace Go.Proofs.Yteonbgknmpobpaa.DS
open Go.RowKit Go.Proofs.YteonbgknmpobpaaW.PrintWords Go.Proofs.YteonbgknmpobpaaW.PrintLast Go.Proofs.YteonbgknmpobpaaW.PrintMore
open Go.Proofs.Yteonbgknmpobpaa.Dice Go.Proofs.Yteonbgknmpobpaa.NT Go.Proofs.Yteonbgknmpobpaa.Txt Go.Proofs.Yteonbgknmpobpaa.DT Go.Proofs.Yteonbgknmpobpaa.DP Go.Proofs.Yteonbgknmpobpaa.DQ
open Go.Proofs.Yteonbgknmpobpaa.PDiceRolls
set_option linter.unusedVariables false
attribute [local go_sem] max2_int min2_int

/-! ### The lines, and how they are joined -/
def lsG (f : Int → Int × B) (s : Int) : Nat → List B
  | 0 => []
  | n + 1 => lsG f s n ++ [(f (stG f s n)).2]
theorem lsG_succ (f : Int → Int × B) (s : Int) (n : Nat) : lsG f s (n + 1) = lsG f s n ++ [(f (stG f s n)).2] := by rw [lsG]
theorem lsG_len (f : Int → Int × B) (s : Int) (n : Nat) : (lsG f s n).length = n := by
  induction n with
  | zero => rfl
  | succ n ih => rw [lsG_succ, List.length_append, ih]; rfl
def fuelT : B := ⟨#[102, 117, 101, 108, 32, 54, 48]⟩
def lst (s : Int) (n : Nat) : List B := fuelT :: lsG lineV s n
theorem lst_zero (s : Int) : lst s 0 = [fuelT] := rfl
theorem lst_succ (s : Int) (n : Nat) : lst s (n + 1) = lst s n ++ [(lineV (stAt s n)).2] := by
  unfold lst
  rw [lsG_succ lineV s n]; rfl
theorem lst_len (s : Int) (n : Nat) : (lst s n).length = n + 1 := by unfold lst; rw [List.length_cons, lsG_len]
def six : List B := [⟨#[119, 97, 107, 101]⟩, ⟨#[114, 117, 110]⟩, ⟨#[97, 112, 112, 108, 121, 32, 49]⟩, ⟨#[114, 117, 110]⟩, ⟨#[106, 117, 100, 103, 101]⟩, ⟨#[]⟩]
def bl (x : B) : List UInt8 := x.data.toList
theorem bl_app (x y : B) : bl (x ++ y) = bl x ++ bl y := by unfold bl; rw [ByteArray.data_append, Array.toList_append]
theorem tail_app (sep : List UInt8) (r q : List (List UInt8)) : Lib.joinTail sep (r ++ q) = Lib.joinTail sep r ++ Lib.joinTail sep q := by unfold Lib.joinTail; rw [List.map_append, List.flatten_append]
theorem preG_join (f : Int → Int × B) (s : Int) (n : Nat) : bl (preG f s n) = bl fuelT ++ Lib.joinTail [10] ((lsG f s n).map bl) ++ [10] := by
  induction n with
  | zero => rfl
  | succ n ih =>
    rw [preG_succ, bl_app, bl_app, ih, lsG_succ, List.map_append, tail_app]
    have e : bl (⟨#[10]⟩ : B) = [10] := rfl
    have e2 : Lib.joinTail [10] (List.map bl [(f (stG f s n)).2]) = [10] ++ bl (f (stG f s n)).2 := by simp [Lib.joinTail]
    rw [e, e2]
    simp only [List.append_assoc]
theorem six_join : Lib.joinTail [10] (six.map bl) = [10] ++ bl tailT := by decide +kernel
theorem join_is (s : Int) (n : Nat) : Lib.join ((lst s n ++ six).map (·.data.toList)) [10] = bl (scriptV s n) := by
  show Lib.join ((lst s n ++ six).map bl) [10] = _
  unfold lst
  rw [List.cons_append, List.map_cons, Lib.join_cons, List.map_append, tail_app, six_join]
  have e : scriptV s n = pre s n ++ tailT := by unfold scriptV; rfl
  rw [e, bl_app]
  have e3 : bl (pre s n) = _ := preG_join lineV s n
  rw [e3]
  simp only [List.append_assoc]
theorem script_sz (s : Int) (n : Nat) (hn : n ≤ 100) : (scriptV s n).size ≤ 100000 := by
  have e : scriptV s n = pre s n ++ tailT := by unfold scriptV; rfl
  have h := pre_sz s n
  have h2 : tailT.size = 27 := rfl
  rw [e, sz]; omega
theorem bl_len (x : B) : (bl x).length = x.size := Num.size_list x
theorem bl_mk (x : B) : (⟨(bl x).toArray⟩ : B) = x := by unfold bl; simp

/-! ### Appending texts -/
def strs (l : List B) : List Value := l.map Value.string
theorem info9 : (Try.prog.info? 9).map (fun i => (i.zero, i.size, i.bytes)) = some (some (.string ByteArray.empty), 1, 16) := by kernel_rfl
section
variable {ops : Array Oper} {rest : List Oper} {o : Oper} {a : Act} {Q : Exit → Act → World → Prop}
theorem app_strs {w0 W : World} (base : Nat) (hgd : o.guard = none) (s x : Operand) (ho : o.op = .call { callee := .builtin .append, args := #[s, x], argTypes := #[60, 60] })
    (v : Value) (l news : List B) (hs : a.eval s = v) (hx : a.eval x = .slice (some ⟨W.heap.size, 0, none⟩) news.length news.length)
    (HO : W.ownsRow base 9 1 v l.length (strs l)) (HB : Below base w0 W) (hbase : base ≤ W.heap.size) (hl : l.length + news.length ≤ 1000)
    (h : ∀ v1 w1, w1.ownsRow base 9 1 v1 (l ++ news).length (strs (l ++ news)) → Below base w0 w1 → W.grownBy w1 v.ownBlock → wpList Try.prog ops Q rest (a.put o.dst v1) w1) :
    wpList Try.prog ops Q (o :: rest) a (W.alloc (.cells (strs news).toArray 9)) := by
  obtain ⟨i0, hi, hzz⟩ := Option.map_eq_some_iff.1 info9
  simp only [Prod.mk.injEq] at hzz
  obtain ⟨hz0, hz1, hz2⟩ := hzz
  refine wpList_append_own_at (W.alloc (.cells (strs news).toArray 9)) hgd s x 60 ho base 9 i0 (.string ByteArray.empty) 1 16 Try.underlying60 hi hz0 hz1 hz2 rfl (by omega) v l.length (strs l) hs (HO.alloc _) ⟨W.heap.size, 0, none⟩ news.length news.length (strs news) hx (by simp [strs])
    (World.news_of_block (cs := (strs news).toArray) (t := 9) (fr := (0, 0)) (heap_alloc_new W _)) (fun u hu => by simp only [strs, List.mem_map] at hu; obtain ⟨b, _, rfl⟩ := hu; rfl) (by simp only [maxLen]; omega) (by omega) (by simp; omega) ?_
  intro v1 w1 hown hg _ hat
  refine h v1 w1 (by simpa [strs] using hown) ((HB.alloc hbase _).grown hg (by simp; omega) (own_base HO)) (World.grownBy.trans (World.grownBy_alloc W _ _) hg)
end
theorem own_ne9 {W : World} {base n g : Nat} {v : Value} {xs : List Value} {cs : Array Value} {t : TypeId} (h : W.ownsRow base 9 1 v n xs) (hb : W.heap[g]? = some (.cells cs t (0, 0))) (ht : t ≠ 9) : v.ownBlock ≠ some g := by
  intro e
  rcases h.2 with ⟨rfl, _⟩ | ⟨g', cap, cur, rfl, _, hh, _⟩
  · simp [Value.ownBlock] at e
  · have : g' = g := by simpa [Value.ownBlock] using e
    subst this
    rw [hb] at hh
    injection hh with hh
    injection hh with _ h2
    exact ht h2
def fnsA (g : Nat) : Array Value := #[.func (.func 34) #[.pointer (some ⟨g, 0, none⟩)] #[], .func (.func 34) #[.pointer (some ⟨g, 0, none⟩)] #[], .func (.func 34) #[.pointer (some ⟨g, 0, none⟩)] #[], .func (.func 35) #[.pointer (some ⟨g, 0, none⟩)] #[], .func (.func 35) #[.pointer (some ⟨g, 0, none⟩)] #[], .func (.func 36) #[.pointer (some ⟨g, 0, none⟩)] #[], .func (.func 37) #[.pointer (some ⟨g, 0, none⟩)] #[], .func (.func 38) #[.pointer (some ⟨g, 0, none⟩)] #[]]
/-- What holds at the head of each round. -/
def RS (s : Int) (m g Bk : Nat) (w : World) (v i : Value) (wr : World) : Prop :=
  ∃ k : Nat, k ≤ m ∧ i = .int .i64 k ∧ wr.ownsRow w.heap.size 9 1 v (lst s k).length (strs (lst s k)) ∧ wr.heap[Bk]? = some (.cells (fnsA g) 59 (0, 0)) ∧ Dst w wr wr g (stAt s k)
theorem times_is (st : Int) : max 0 (min st 100) = ((times st : Nat) : Int) := by
  unfold times
  split <;> omega
theorem join_of {w5 : World} {base g1 cap1 : Nat} {L : List B} (h : w5.ownsRow base 9 1 (.slice (some ⟨g1, 0, none⟩) L.length cap1) L.length (strs L)) (hg : g1 < w5.heap.size) (hL : L.length ≤ 1000) (T : B) (hT : Lib.join (L.map (·.data.toList)) [10] = bl T) (hs : T.size ≤ 1000000) :
    Calls Try.prog 39 #[.slice (some ⟨g1, 0, none⟩) L.length cap1, .string ⟨#[10]⟩] w5 fun e w' => e = .returned (.string T) ∧ Below w5.heap.size w5 w' := by
  have hcap : L.length ≤ cap1 := by
    rcases h.2 with ⟨h1, _⟩ | ⟨g', cap, cur, h1, _, _, h2, _⟩
    · injection h1 with h1; cases h1
    · injection h1 with _ _ h1; omega
  have hj := Try.strings_Join g1 0 cap1 L ⟨#[10]⟩ w5 (fun j x hx => by
    have hc := h.cells (g := g1) rfl j (.string x) (by simp [strs, hx])
    rw [add_plain] at hc
    rw [Nat.zero_add]
    exact hc) hg (by omega) hcap (by
      show (Lib.join (L.map (·.data.toList)) [10]).length ≤ _
      rw [hT, bl_len]; omega)
  have e : (⟨(Lib.join (L.map (·.data.toList)) (⟨#[10]⟩ : B).data.toList).toArray⟩ : B) = T := by
    show (⟨(Lib.join (L.map (·.data.toList)) [10]).toArray⟩ : B) = T
    rw [hT, bl_mk]
  rw [e] at hj
  exact hj
theorem times_le (st : Int) : times st ≤ 100 := by unfold times; split <;> omega
/-- A method value of the die's at place k: what its call tells. -/
theorem line_at (w0 w : World) (g : Nat) (u k : Int) (h : Dst w0 w w g u) (hk : 0 ≤ k ∧ k < 8) :
    ∃ f : Nat, (fnsA g)[k.toNat]? = some (.func (.func f) #[.pointer (some ⟨g, 0, none⟩)] #[]) ∧
      (f = 34 ∧ (k = 0 ∨ k = 1 ∨ k = 2) ∨ f = 35 ∧ (k = 3 ∨ k = 4) ∨ f = 36 ∧ k = 5 ∨ f = 37 ∧ k = 6 ∨ f = 38 ∧ k = 7) ∧
      Calls Try.prog f #[.pointer (some ⟨g, 0, none⟩)] w fun e w' => e = .returned (.string (lineK k u).2) ∧ Dst w0 w w' g (lineK k u).1 := by
  obtain ⟨hk0, hk8⟩ := hk
  unfold lineK
  rcases (by omega : k = 0 ∨ k = 1 ∨ k = 2 ∨ k = 3 ∨ k = 4 ∨ k = 5 ∨ k = 6 ∨ k = 7) with rfl | rfl | rfl | rfl | rfl | rfl | rfl | rfl
  · exact ⟨34, rfl, .inl ⟨rfl, by omega⟩, by rw [if_pos (by omega)]; exact edit_d w0 w g u h⟩
  · exact ⟨34, rfl, .inl ⟨rfl, by omega⟩, by rw [if_pos (by omega)]; exact edit_d w0 w g u h⟩
  · exact ⟨34, rfl, .inl ⟨rfl, by omega⟩, by rw [if_pos (by omega)]; exact edit_d w0 w g u h⟩
  · exact ⟨35, rfl, .inr (.inl ⟨rfl, by omega⟩), by rw [if_neg (by omega), if_pos (by omega)]; exact run_d w0 w g u h⟩
  · exact ⟨35, rfl, .inr (.inl ⟨rfl, by omega⟩), by rw [if_neg (by omega), if_pos (by omega)]; exact run_d w0 w g u h⟩
  · exact ⟨36, rfl, .inr (.inr (.inl ⟨rfl, by omega⟩)), by rw [if_neg (by omega), if_neg (by omega), if_pos (by omega)]; exact apply_d w0 w g u h⟩
  · exact ⟨37, rfl, .inr (.inr (.inr (.inl ⟨rfl, by omega⟩))), by rw [if_neg (by omega), if_neg (by omega), if_neg (by omega), if_pos (by omega)]; exact fuse_d w0 w g u h⟩
  · exact ⟨38, rfl, .inr (.inr (.inr (.inr ⟨rfl, by omega⟩))), by rw [if_neg (by omega), if_neg (by omega), if_neg (by omega), if_neg (by omega)]; exact wake_d w0 w g u h⟩

set_option maxHeartbeats 2000000 in
theorem script_any (s st : Int) (w : World) : Calls Try.prog 29 #[.int .u64 s, .int .i64 st] w fun e w' => e = .returned (.string (scriptV s (times st))) ∧ Below w.heap.size w w' := by
  have ht := times_is st
  have hm := times_le st
  go_enter Try.func29, Try.ntmps29
  go_wp2_with fail
  refine (dice_New.calls s s w _ (Below.refl _ _) rfl).mono ?_
  rintro e w1 ⟨g, rfl, hI, hB, hB2⟩
  have HD := Lib.hid (show Dst w w1 w1 g s from ⟨hI, hB, KeepBut.refl _ _ _⟩)
  clear hI hB hB2
  have HT := Lib.hid ht
  clear ht
  go_wp2_with fail
  rw [HT.out]
  generalize hmt : times st = m at hm HT
  have HMT := Lib.hid hmt
  clear hmt
  obtain ⟨Bk, hBk⟩ : ∃ b, w1.heap.size = b := ⟨_, rfl⟩
  have HR0 : RS s m g Bk w (.slice (some ⟨w1.heap.size + 1, 0, none⟩) 1 1) (.int .i64 0) ((w1.alloc (.cells (fnsA g) 59)).alloc (.cells #[.string ⟨#[102, 117, 101, 108, 32, 54, 48]⟩] 9)) := by
    refine ⟨0, Nat.zero_le _, rfl, ?_, ?_, ?_⟩
    · have h := World.ownsRow_lit (base := w.heap.size) (e := 9) (size := 1) (w1.alloc (.cells (fnsA g) 59)) #[.string ⟨#[102, 117, 101, 108, 32, 54, 48]⟩] 1 (by have := HD.out.bel.size; simp; omega) (by simp [maxLen]) rfl
      rw [lst_zero]
      simpa [strs, fuelT] using h
    · rw [← hBk]
      exact blk_alloc (heap_alloc_new w1 _) _
    · rw [stAt_zero]
      exact ((HD.out.alloc _).alloc _).self
  have HR := Lib.hid HR0
  clear HR0
  rw [hBk]
  rw [hBk] at HR
  clear hBk
  go_loopw [7, 31] (fun v i wr => RS s m g Bk w v i wr) (fun _ i _ => m - (intOf i).toNat)
  case atStart => exact HR.out
  case round =>
    obtain ⟨k, hk, rfl, ho, hbk, hd⟩ := hrel
    have HO := Lib.hid ho
    have HK := Lib.hid hbk
    have HDk := Lib.hid hd
    have hne : Bk ≠ g := fun e => by
      have h1 := hd.st.1
      rw [← e, hbk] at h1
      injection h1 with h1
      injection h1 with _ h2
      exact absurd h2 (by decide)
    have HV := Lib.hid (own_ne9 ho hd.st.1 (by decide))
    have HNE := Lib.hid hne
    clear ho hbk hd hne HR HD HT
    by_cases hlt : k < m
    · have hr := upto_range (stAt s k) 8 (by omega) (by omega)
      have C1 := Lib.hid (upto_d w wr g (stAt s k) 8 HDk.out (by omega) (by omega))
      have HX : Hid (lst s (k + 1) = lst s k ++ [(lineK (uptoV (stAt s k) 8) (uptoS (stAt s k) 8)).2] ∧ stAt s (k + 1) = (lineK (uptoV (stAt s k) 8) (uptoS (stAt s k) 8)).1) := Lib.hid ⟨lst_succ s k, stAt_succ s k⟩
      have HLN := Lib.hid (lst_len s k)
      generalize uptoS (stAt s k) 8 = u at C1 HX
      generalize uptoV (stAt s k) 8 = c at C1 HX hr
      obtain ⟨hr1, hr2⟩ := hr
      go_wp2_with fail
      refine C1.out.mono ?_
      rintro e w2 ⟨rfl, hD⟩
      obtain ⟨f, hf, hfc, hcall⟩ := line_at w w2 g u c hD.self ⟨hr1, hr2⟩
      have hcell := cell_of_blk (hD.keep.blk HK.out HNE.out (by simp)) c.toNat hf
      have HD2 := Lib.hid hD
      have HC := Lib.hid hcall
      have HO2 := Lib.hid (HD2.out.keep.own HO.out HV.out (Classical.em _))
      have HK2 := Lib.hid (HD2.out.keep.blk HK.out HNE.out (by simp))
      clear hD hcall hf
      rcases hfc with ⟨rfl, hq⟩ | ⟨rfl, hq⟩ | ⟨rfl, hq⟩ | ⟨rfl, hq⟩ | ⟨rfl, hq⟩
      all_goals
        clear hq
        go_wp2_with fail
        refine HC.out.mono ?_
        rintro e w3 ⟨rfl, hD⟩
        have HD3 := Lib.hid (HD2.out.trans hD)
        have HO3 := Lib.hid (hD.keep.own HO2.out HV.out (Classical.em _))
        have HK3 := Lib.hid (hD.keep.blk HK2.out HNE.out (by simp))
        clear hD
        generalize lineK c u = x at HX HD3
        go_wp2_with (at_builtin; refine app_strs (w0 := w) w.heap.size rfl _ _ rfl u7 (lst s k) [x.2] rfl rfl HO3.out HD3.out.bel (by exact HD3.out.bel.size) (by rw [HLN.out]; simp; omega) ?_; intro v1 w5 hown hbel hgr; have HO5 := Lib.hid hown; have HB5 := Lib.hid hbel; have HG5 := Lib.hid hgr; clear hown hbel hgr)
        go_roundw
        case rel => exact ⟨k + 1, by omega, i64_eq (by omega), by rw [HX.out.1]; exact HO5.out, blk_grown HK3.out HG5.out (fun e => own_ne9 HO3.out HK3.out (by decide) e.symm), by rw [HX.out.2]; exact ⟨HD3.out.st.grown HG5.out (by intro e; exact HV.out e.symm), HB5.out, KeepBut.refl _ _ _⟩⟩
        case measure => simp [intOf]; omega
    · obtain rfl : k = m := by omega
      have HJ := Lib.hid (join_is s k)
      have HS := Lib.hid (script_sz s k hm)
      have HLN := Lib.hid (lst_len s k)
      have HX : Hid ((lst s k ++ six).length = k + 7) := Lib.hid (by rw [List.length_append, lst_len]; rfl)
      go_wp2_with (at_builtin; refine app_strs (w0 := w) w.heap.size rfl _ _ rfl u7 (lst s k) six rfl rfl HO.out HDk.out.bel (by exact HDk.out.bel.size) (by rw [HLN.out]; simp [six]; omega) ?_; intro v1 w5 hown hbel hgr; have HO5 := Lib.hid hown; have HB5 := Lib.hid hbel; clear hown hbel hgr; obtain ⟨g1, cap1, rfl, hg1, hg2⟩ := HO5.out.form (by rw [HX.out]; omega))
      rw [← List.length_append]
      refine (join_of HO5.out hg2 (by rw [HX.out]; omega) (scriptV s k) HJ.out (by have := HS.out; omega)).mono ?_
      rintro e w6 ⟨rfl, hB6⟩
      have HB6 := Lib.hid (below_on HB5.out hB6)
      clear hB6
      go_wp2_with fail
      go_ret
      exact ⟨ret_s (by rw [HMT.out]), HB6.out⟩

set_option maxHeartbeats 400000 in
theorem walk (a0 a1 : Int) (w : World) (w0 : (Lit.int .u64 a0).wf = true) (w1 : (Lit.int .i64 a1).wf = true) :
    Calls Try.prog 8 #[.int .u64 a0, .int .i64 a1] w fun e w' => e = .returned (.bool true) ∧ Below w.heap.size w w' := by
  have C1 := Lib.hid fun w => script_any a0 a1 w
  have C2 := Lib.hid fun w => refScript_any a0 a1 w
  generalize scriptV a0 (times a1) = x at C1 C2
  clear w0 w1
  go_enter Try.func8, Try.ntmps8
  go_wp2_with fail
  refine (Dice.awake_any _).mono ?_
  rintro e w1 ⟨rfl, hB1⟩
  have HB1 := Lib.hid hB1
  clear hB1
  go_wp2_with fail
  refine (C1.out _).mono ?_
  rintro e w2 ⟨rfl, hB2⟩
  have HB2 := Lib.hid (below_on HB1.out hB2)
  clear hB2
  go_wp2_with fail
  refine (C2.out _).mono ?_
  rintro e w3 ⟨rfl, hB3⟩
  have HB3 := Lib.hid (below_on HB2.out hB3)
  clear hB3
  go_wp2_with fail
  go_ret
  exact ⟨by first | rfl | simp, HB3.out⟩
end Go.Proofs.Yteonbgknmpobpaa.DS
