/- Operations in any order: what each of them asks for, and what comes of it. -/
import Derived.Test.YtmdimhcjogjcgaaGreatDoorGau
import Derived.Orders
set_option linter.all false
noncomputable section
namespace Go.Proofs.YtmdimhcjogjcgaaGreatDoor.Abs
open Go.RowKit
theorem kr (m x : Nat) : ao m x = Nat.testBit m x := by
 unfold ao Nat.testBit
 show Nat.beq ((m >>> x) &&& 1) 1 = (1 &&& (m >>> x) != 0)
 rw [Nat.and_comm, Nat.one_and_eq_mod_two]
 rcases Nat.mod_two_eq_zero_or_one (m >>> x) with h | h <;> rw [h] <;> rfl
theorem la (a b x : Nat) : ao (a ||| b) x = (ao a x || ao b x) := by simp only [kr, Nat.testBit_or]
theorem jw (d : Option Nat) (x : Nat) : ao (jk d) x = true ↔ d = some x := by
 rw [kr]
 cases d with
 | none => simp [jk]
 | some d => simp [jk, bit, Nat.testBit_two_pow]
theorem ng (x : Nat) : ao 0 x = false := by rw [kr]; simp
theorem xv {g h : Option (Nat × Bool)} (hg : uq g h = true) : g = h := by
 cases g with
 | none => cases h with
  | none => rfl
  | some y => cases hg
 | some x =>
  obtain ⟨i, b⟩ := x
  cases h with
  | none => cases hg
  | some y =>
   obtain ⟨j, b'⟩ := y
   simp only [uq, Bool.and_eq_true] at hg
   obtain ⟨h1, h2⟩ := hg
   obtain rfl := Nat.eq_of_beq_eq_true h1
   cases b <;> cases b' <;> first | rfl | cases h2
def apy (e : Env) (v : AV) : Prop := match v with
 | .fptr q _ => ∃ z c m, e q = .boxv z c m
 | .vw q _ _ => ∃ z l, e q = .own z l
 | .vwc q _ _ _ => ∃ z c m, e q = .boxv z c m
 | _ => True
theorem asq {α : Type} {a : AV} {k : Option α} {r : α} (h : acs a k = some r) : (∃ z l, a = .own z l) ∧ k = some r := by cases a <;> first | (cases h; done) | exact ⟨⟨_, _, rfl⟩, h⟩
theorem avy {α : Type} {e : Env} {v : AV} {k : Option α} {r : α} (h : agc e v k = some r) : apy e v ∧ k = some r := by
 cases v <;> first
  | exact ⟨trivial, h⟩
  | exact ah0 h
  | exact asq h
theorem avz {α : Type} {b c : Bool} {x y : Option α} {r : α} (h : gate b c x y = some r) : (c = b ∧ x = some r) ∨ (c = (!b) ∧ y = some r) := by
 cases b <;> cases c <;> first | exact .inl ⟨rfl, h⟩ | exact .inr ⟨rfl, h⟩
def aq (l : List (Oper × Nat)) : List Nat := l.filterMap (fun x => dq x.1)
theorem ab6 {d : Nat} : ∀ {l acc g : List (Oper × Nat)} {p : Oper × Nat} {rest : List (Oper × Nat)}, upto d acc l = some (g, p, rest) → acc.reverse ++ l = g ++ p :: rest ∧ aew d p.1 = true
 | [], _, _, _, _, h => by cases h
 | o :: l, acc, g, p, rest, h => by
  unfold upto at h
  split at h
  ·rename_i hp
   cases h
   exact ⟨rfl, hp⟩
  ·obtain ⟨h1, h2⟩ := ab6 h
   refine ⟨?_, h2⟩
   rw [← h1]; simp
theorem asr {d : Nat} {o : Oper} (h : aew d o = true) : ∃ x y, o.op = .pick (.tmp d) x y := by
 unfold aew at h
 split at h
 ·rename_i s x y ho
  obtain rfl := Nat.eq_of_beq_eq_true h
  exact ⟨x, y, ho⟩
 ·cases h
theorem wq {e : Env} {d : Option Nat} {v : AV} {x : Nat} (h : d ≠ some x) : Abs.y7 e d v x = e x := by
 cases d with
 | none => rfl
 | some d => exact ea _ _ fun hh => h (by rw [hh])
theorem ahc {e : Env} {d : Option Nat} {v : AV} {x : Nat} (h : d = some x) : Abs.y7 e d v x = v := by subst h; exact cy ..
theorem kc {l : List (Oper × Nat)} {x : Nat} : x ∈ aq l ↔ ∃ y ∈ l, dq y.1 = some x := by simp [aq, List.mem_filterMap]
theorem yu : ∀ {l : List (Oper × Nat)} {e : Env} {x : Nat}, (x ∈ aq l → zj e l x = .undef) ∧ (x ∉ aq l → zj e l x = e x)
 | [], e, x => ⟨fun h => by simp [aq] at h, fun _ => rfl⟩
 | o :: l, e, x => by
  have ih := yu (l := l) (e := Abs.y7 e (dq o.1) .undef) (x := x)
  by_cases hl : x ∈ aq l
  ·exact ⟨fun _ => ih.1 hl, fun h => absurd (kc.2 (let ⟨y, hy, hh⟩ := kc.1 hl; ⟨y, by simp [hy], hh⟩)) h⟩
  ·by_cases ho : dq o.1 = some x
   ·exact ⟨fun _ => (ih.2 hl).trans (ahc ho), fun h => absurd (kc.2 ⟨o, by simp, ho⟩) h⟩
   ·refine ⟨fun h => ?_, fun _ => (ih.2 hl).trans (wq ho)⟩
    obtain ⟨y, hy, hh⟩ := kc.1 h
    rcases List.mem_cons.1 hy with rfl | hy
    ·exact absurd hh ho
    ·exact absurd (kc.2 ⟨y, hy, hh⟩) hl
abbrev qu := Nat → Option AV
theorem wu {o : Oper} (h : stT o = none) : dq o = o.dst := by unfold dq; rw [h]
theorem ahd {o : Oper} {t s : Nat} {x : Operand} (h : stT o = some (t, s, x)) : dq o = some s := by unfold dq; rw [h]
theorem alq {o : Oper} {c x y : Operand} (h : o.op = .pick c x y) : stT o = none := by unfold stT; rw [h]
theorem ay0 {o : Oper} {t s : Nat} {x : Operand} (h : stT o = some (t, s, x)) : o.op = .store t (.tmp s) x ∧ o.dst = none := by
 unfold stT at h
 split at h
 ·rename_i h1 h2; cases h; exact ⟨h1, h2⟩
 ·cases h
section
variable (τ : Tab) (call : Nat → List AV → Option AV) (all : List Oper) (W : Nat) (e0 : Env)
def Fits (V : qu) (bad : Nat) (m : Env) : Prop := ∀ x, ao bad x = false → (ao W x = true → m x = .undef ∨ V x = some (m x)) ∧ (ao W x = false → m x = e0 x)
def afp (m : Env) (o : Oper) (bad : Nat) : Prop := ∀ j b, o.guard = some (j, b) → ∃ d, tz all j = some d ∧ ao bad d = false ∧ m d = .bool b
inductive Loc (V : qu) (o : Oper) (bad : Nat) : Prop
 | store (m : Env) (t s : Nat) (x : Operand) (v : AV) (hf : Fits W e0 V bad m) (ho : stT o = some (t, s, x)) (hg : o.guard = none) (hv : ml τ t (gf bad m) x (e0 s) some = some v) (hd : V s = some v)
 | exec (m : Env) (v : AV) (hst : stT o = none) (hf : Fits W e0 V bad m) (hg : afp all m o bad) (hv : val τ call (gf bad m) o some = some v) (href : apy (gf bad m) v) (hd : ∀ d, dq o = some d → V d = some v)
 | pick (m : Env) (d : Nat) (c : Bool) (x y : Operand) (v : Bool) (hst : stT o = none) (hf : Fits W e0 V bad m) (hg : afp all m o bad) (ho : o.op = .pick (.tmp d) x y) (hb : ao bad d = false) (hm : m d = .bool c)
   (hx : de (gf bad m) (aa c x y) aoy = some v) (hd : ∀ d', dq o = some d' → V d' = some (.bool v))
 | skip (m : Env) (j : Nat) (b : Bool) (d : Nat) (hst : stT o = none) (hf : Fits W e0 V bad m) (hg : o.guard = some (j, b)) (hj : tz all j = some d) (hb : ao bad d = false) (hm : (∃ c, m d = .bool c ∧ c ≠ b) ∨ (ao W d = true ∧ V d = none))
   (hd : ∀ d', dq o = some d' → V d' = none)
theorem afq {g : Nat × Bool} : ∀ {l : List (Oper × Nat)} {S : Nat}, ajj all g S l = true → ∀ y ∈ l, yc all y.1 y.2 = true ∧ stT y.1 = none ∧ (y.1.guard = some g ∨ ∃ j b d, y.1.guard = some (j, b) ∧ tz all j = some d ∧ (ao S d = true ∨ d ∈ aq l))
 | [], _, _, y, hy => by cases hy
 | (o, bad) :: l, S, h, y, hy => by
  simp only [ajj, Bool.and_eq_true, Bool.or_eq_true] at h
  obtain ⟨⟨⟨h1, h2⟩, h0⟩, h3⟩ := h
  rcases List.mem_cons.1 hy with rfl | hy
  ·refine ⟨h1, by simpa using h0, ?_⟩
   rcases h2 with h2 | h2
   ·exact .inl (xv h2)
   ·split at h2
    ·rename_i j b hg
     split at h2
     ·rename_i d hd
      exact .inr ⟨j, b, d, hg, hd, .inl h2⟩
     ·cases h2
    ·cases h2
  ·obtain ⟨k1, k0, k2⟩ := afq h3 y hy
   refine ⟨k1, k0, k2.imp id ?_⟩
   rintro ⟨j, b, d, q1, q2, q3⟩
   refine ⟨j, b, d, q1, q2, ?_⟩
   rcases q3 with q3 | q3
   ·rw [la, Bool.or_eq_true] at q3
    rcases q3 with q3 | q3
    ·exact .inl q3
    ·exact .inr (kc.2 ⟨(o, bad), by simp, (jw _ _).1 q3⟩)
   ·obtain ⟨y', hy', hh⟩ := kc.1 q3
    exact .inr (kc.2 ⟨y', by simp [hy'], hh⟩)
theorem qc : ∀ (n : Nat) (cur : Option (Nat × Bool)) (l : List (Oper × Nat)) (e : Env) {α : Type} (k : Env → Option α) (r : α) (V0 : qu) (F : Nat → Prop), j2 τ call all e0 n cur l e k = some r →
  (∀ j b, cur = some (j, b) → ∃ d, tz all j = some d ∧ e d = .bool b) → (aq l).Nodup → (∀ x ∈ aq l, ao W x = true) → (∀ x, F x → e x = .undef) → (∀ x, F x → x ∉ aq l) → (∀ x ∈ aq l, e x = .undef) →
  (∀ x, (ao W x = true → e x = .undef ∨ V0 x = some (e x)) ∧ (ao W x = false → e x = e0 x)) →
  ∃ (V : qu) (e' : Env), k e' = some r ∧ (∀ x, x ∉ aq l → V x = V0 x) ∧ (∀ x, x ∉ aq l → e' x = e x) ∧ (∀ x ∈ aq l, e' x = .undef ∨ V x = some (e' x)) ∧ ∀ V', (∀ x, ¬ F x → V' x = V x) → ∀ y ∈ l, Loc τ call all W e0 V' y.1 y.2
 | 0, _, _, _, _, _, _, _, _, h, _, _, _, _, _, _, _ => by cases h
 | n + 1, cur, [], e, _, k, r, V0, F, h, _, _, _, _, _, _, _ => ⟨V0, e, h, fun _ _ => rfl, fun _ _ => rfl, fun x hx => by simp [aq] at hx, fun _ _ y hy => by cases hy⟩
 | n + 1, cur, (o, bad) :: l, e, _, k, r, V0, F, h, hcur, hnd, hW, hF, hFl, hl, he => by
  unfold j2 at h
  split at h
  ·rename_i hsame
   have hgc := xv hsame
   obtain ⟨v, h, hex⟩ : ∃ v, j2 τ call all e0 n cur l (Abs.y7 e (dq o) v) k = some r ∧ ∀ V', Fits W e0 V' bad e → (∀ d, dq o = some d → V' d = some v) → Loc τ call all W e0 V' o bad := by
    split at h
    ·rename_i t s x hst
     obtain ⟨hgn, h⟩ := bn h
     rw [abm] at h
     obtain ⟨v, hv, h⟩ := Option.bind_eq_some_iff.1 h
     refine ⟨v, by rw [ahd hst]; exact h, fun V' hf hd => .store e t s x v hf hst (by simpa using hgn) hv (hd s (ahd hst))⟩
    ·rename_i hst
     obtain ⟨hsee, h⟩ := bn h
     obtain ⟨v, hv, h⟩ := alo h
     obtain ⟨href, h⟩ := avy h
     refine ⟨v, by rw [wu hst]; exact h, fun V' hf hd => .exec e v hst hf (fun j b hg => ?_) hv href hd⟩
     obtain ⟨d, q1, q2⟩ := hcur j b (by rw [← hgc]; exact hg)
     refine ⟨d, q1, ?_, q2⟩
     simp only [yc, hg, q1] at hsee
     simpa using hsee
   have hmem : ∀ {x}, x ∈ aq ((o, bad) :: l) ↔ dq o = some x ∨ x ∈ aq l := by
    intro x; simp only [kc, List.mem_cons, exists_eq_or_imp]
   have hnd' : (aq l).Nodup ∧ ∀ x, dq o = some x → x ∉ aq l := by
    cases hd : dq o with
    | none =>
     have : aq ((o, bad) :: l) = aq l := by simp [aq, hd]
     rw [this] at hnd; exact ⟨hnd, fun x hx => by cases hx⟩
    | some d =>
     have : aq ((o, bad) :: l) = d :: aq l := by simp [aq, hd]
     rw [this, List.nodup_cons] at hnd; exact ⟨hnd.2, fun x hx => by cases hx; exact hnd.1⟩
   have hbool : ∀ {d b}, e d = .bool b → dq o ≠ some d := fun hb hd => by
    have := hl _ (hmem.2 (.inl hd)); rw [hb] at this; cases this
   obtain ⟨V, e', h1, h2, h3, h4, h5⟩ := qc n cur l (Abs.y7 e (dq o) v) k r (fun x => if dq o = some x then some v else V0 x) F h
    (fun j b hc => let ⟨d, q1, q2⟩ := hcur j b hc; ⟨d, q1, (wq (hbool q2)).trans q2⟩) hnd'.1 (fun x hx => hW x (hmem.2 (.inr hx)))
    (fun x hx => (wq fun hd => hFl x hx (hmem.2 (.inl hd))).trans (hF x hx)) (fun x hx hm => hFl x hx (hmem.2 (.inr hm)))
    (fun x hx => (wq fun hd => hnd'.2 x hd hx).trans (hl x (hmem.2 (.inr hx)))) (fun x => by
     by_cases hd : dq o = some x
     ·refine ⟨fun _ => .inr (by simp [hd, ahc]), fun hw => by rw [hW x (hmem.2 (.inl hd))] at hw; cases hw⟩
     ·rw [wq hd]; simp only [hd, if_false]; exact he x)
   refine ⟨V, e', h1, fun x hx => ?_, fun x hx => ?_, fun x hx => ?_, fun V' hV' y hy => ?_⟩
   ·rw [h2 x fun hm => hx (hmem.2 (.inr hm))]
    simp only [show ¬ dq o = some x from fun hd => hx (hmem.2 (.inl hd)), if_false]
   ·rw [h3 x fun hm => hx (hmem.2 (.inr hm)), wq fun hd => hx (hmem.2 (.inl hd))]
   ·rcases hmem.1 hx with hd | hm
    ·have hn := hnd'.2 x hd
     rw [h3 x hn, h2 x hn, ahc hd]; simp [hd]
    ·exact h4 x hm
   ·rcases List.mem_cons.1 hy with rfl | hy
    ·refine hex V' (fun x hb => ⟨fun hw => ?_, (he x).2⟩) fun d hd => ?_
     ·rcases (he x).1 hw with hu | hu
      ·exact .inl hu
      ·by_cases hz : e x = .undef
       ·exact .inl hz
       ·have hxl : x ∉ aq ((o, bad) :: l) := fun hm => hz (hl x hm)
        refine .inr ?_
        rw [hV' x fun hf => hz (hF x hf), h2 x fun hm => hxl (hmem.2 (.inr hm))]
        simp only [show ¬ dq o = some x from fun hd => hxl (hmem.2 (.inl hd)), if_false]
        exact hu
     ·have hd : dq o = some d := hd
      rw [hV' d fun hf => hFl d hf (hmem.2 (.inl hd)), h2 d (hnd'.2 d hd)]
      simp [hd]
    ·exact h5 V' hV' y hy
  ·split at h
   ·cases h
   ·rename_i j b hog
    split at h
    ·cases h
    ·rename_i d hj
     split at h
     ·cases h
     ·rename_i grp p pb rest hup
      split at h
      ·rename_i pd hpg hpd
       obtain ⟨hl0, hpk⟩ := ab6 hup
       have hl0 : (o, bad) :: l = grp ++ (p, pb) :: rest := hl0
       obtain ⟨px, py, hpo⟩ := asr hpk
       obtain ⟨hst, h⟩ := bn h
       simp only [Bool.and_eq_true] at hst
       obtain ⟨⟨hgrp, hsee⟩, hpb⟩ := hst
       have hpb : ao pb d = false := by simpa using hpb
       obtain ⟨cc, hed, h⟩ := zn h
       obtain ⟨v, hv, h⟩ := Option.bind_eq_some_iff.1 h
       rw [hl0] at hnd hW hFl hl ⊢
       clear hup hl0
       have hdl : aq (grp ++ (p, pb) :: rest) = aq grp ++ pd :: aq rest := by
        have : aq ((p, pb) :: rest) = pd :: aq rest := by
         have hpd' : dq p = some pd := hpd
         simp [aq, hpd']
        rw [← this]; simp [aq]
       rw [hdl] at hnd hW hFl hl ⊢
       have hmem : ∀ {x}, x ∈ aq grp ++ pd :: aq rest ↔ x ∈ aq grp ∨ x = pd ∨ x ∈ aq rest := by intro x; simp
       rw [List.nodup_append] at hnd
       obtain ⟨hndg, hndr, hdis⟩ := hnd
       rw [List.nodup_cons] at hndr
       have hdg : ∀ x, x ∈ aq grp → x ≠ pd ∧ x ∉ aq rest := fun x hx => ⟨fun hh => hdis x hx pd (by simp) hh, fun hh => hdis x hx x (by simp [hh]) rfl⟩
       have hgc := xv hpg
       have hbl : ∀ {d b}, e d = .bool b → d ∉ aq grp ++ pd :: aq rest := fun hb hm => by have := hl _ hm; rw [hb] at this; cases this
       have e2u : ∀ x, x ∉ aq grp → x ≠ pd → Abs.set (zj e grp) pd (.bool v) x = e x := fun x h1 h2 => by rw [ea _ _ h2, yu.2 h1]
       have fin : ∀ (V1 : qu), (∀ x, x ∉ aq grp → V1 x = V0 x) → (∀ V' : qu, (∀ x, ¬ F x → x ≠ pd → x ∉ aq rest → V' x = V1 x) → V' pd = some (.bool v) → (∀ y ∈ grp, Loc τ call all W e0 V' y.1 y.2) ∧ Loc τ call all W e0 V' p pb) →
         ∃ (V : qu) (e' : Env), k e' = some r ∧ (∀ x, x ∉ aq grp ++ pd :: aq rest → V x = V0 x) ∧ (∀ x, x ∉ aq grp ++ pd :: aq rest → e' x = e x) ∧ (∀ x ∈ aq grp ++ pd :: aq rest, e' x = .undef ∨ V x = some (e' x)) ∧
          ∀ V', (∀ x, ¬ F x → V' x = V x) → ∀ y ∈ grp ++ (p, pb) :: rest, Loc τ call all W e0 V' y.1 y.2 := by
        intro V1 hV1 hloc
        obtain ⟨V, e', h1, h2, h3, h4, h5⟩ := qc n cur rest (Abs.set (zj e grp) pd (.bool v)) k r (fun x => if x = pd then some (.bool v) else V1 x) F h
         (fun j b hc => let ⟨d, q1, q2⟩ := hcur j b hc; ⟨d, q1, by
          have hn := hbl q2
          rw [e2u d (fun hh => hn (hmem.2 (.inl hh))) (fun hh => hn (hmem.2 (.inr (.inl hh))))]; exact q2⟩) hndr.2 (fun x hx => hW x (hmem.2 (.inr (.inr hx))))
         (fun x hx => by
          have hn := hFl x hx
          rw [e2u x (fun hh => hn (hmem.2 (.inl hh))) (fun hh => hn (hmem.2 (.inr (.inl hh))))]; exact hF x hx) (fun x hx hh => hFl x hx (hmem.2 (.inr (.inr hh))))
         (fun x hx => by
          rw [e2u x (fun hh => (hdg x hh).2 hx) (fun hh => hndr.1 (hh ▸ hx))]; exact hl x (hmem.2 (.inr (.inr hx)))) (fun x => by
          by_cases hxp : x = pd
          ·subst hxp
           exact ⟨fun _ => .inr (by simp [cy]), fun hw => by rw [hW x (hmem.2 (.inr (.inl rfl)))] at hw; cases hw⟩
          ·by_cases hxg : x ∈ aq grp
           ·exact ⟨fun _ => .inl (by rw [ea _ _ hxp, yu.1 hxg]), fun hw => by rw [hW x (hmem.2 (.inl hxg))] at hw; cases hw⟩
           ·rw [e2u x hxg hxp]; simp only [hxp, if_false, hV1 x hxg]; exact he x)
        refine ⟨V, e', h1, fun x hx => ?_, fun x hx => ?_, fun x hx => ?_, fun V' hV' => ?_⟩
        ·rw [h2 x fun hh => hx (hmem.2 (.inr (.inr hh)))]
         simp only [show ¬ x = pd from fun hh => hx (hmem.2 (.inr (.inl hh))), if_false]
         exact hV1 x fun hh => hx (hmem.2 (.inl hh))
        ·rw [h3 x fun hh => hx (hmem.2 (.inr (.inr hh)))]
         exact e2u x (fun hh => hx (hmem.2 (.inl hh))) (fun hh => hx (hmem.2 (.inr (.inl hh))))
        ·rcases hmem.1 hx with hx | rfl | hx
         ·refine .inl ?_
          rw [h3 x (hdg x hx).2, ea _ _ (hdg x hx).1, yu.1 hx]
         ·rw [h3 x hndr.1, h2 x hndr.1, cy]; simp
         ·exact h4 x hx
        ·have hpdF : ¬ F pd := fun hf => hFl pd hf (hmem.2 (.inr (.inl rfl)))
         obtain ⟨q1, q2⟩ := hloc V' (fun x hf hp hr => by rw [hV' x hf, h2 x hr]; simp [hp]) (by rw [hV' pd hpdF, h2 pd hndr.1]; simp)
         intro y hy
         rcases List.mem_append.1 hy with hy | hy
         ·exact q1 y hy
         ·rcases List.mem_cons.1 hy with rfl | hy
          ·exact q2
          ·exact h5 V' hV' y hy
       have hpG : ∀ (m : Env), (∀ x, x ∉ aq grp → m x = e x) → afp all m p pb := fun m hm j b hg => by
        obtain ⟨d, q1, q2⟩ := hcur j b (by rw [← hgc]; exact hg)
        refine ⟨d, q1, ?_, by rw [hm d fun hh => hbl q2 (hmem.2 (.inl hh))]; exact q2⟩
        have hg' : p.guard = some (j, b) := hg
        simp only [yc, hg', q1] at hsee
        simpa using hsee
       have hoth : ∀ t, other t p = aa t px py := fun t => by
        have hpo' : p.op = .pick (.tmp d) px py := hpo
        unfold other; rw [hpo']
       rcases avz hv with ⟨hcb, hx⟩ | ⟨hcb, hx⟩
       ·subst hcb
        obtain ⟨V1, e1, k1, k2, k3, k4, k5⟩ := qc n (some (j, cc)) grp e (fun e' => de (gf pb e') (other cc p) aoy) v V0 (fun x => F x ∨ x = pd ∨ x ∈ aq rest) hx
         (fun j' b' hc => by cases hc; exact ⟨d, hj, hed⟩) hndg (fun x hx => hW x (hmem.2 (.inl hx)))
         (fun x hx => by
          rcases hx with hx | rfl | hx
          ·exact hF x hx
          ·exact hl _ (hmem.2 (.inr (.inl rfl)))
          ·exact hl _ (hmem.2 (.inr (.inr hx))))
         (fun x hx hg => by
          rcases hx with hx | rfl | hx
          ·exact hFl x hx (hmem.2 (.inl hg))
          ·exact (hdg _ hg).1 rfl
          ·exact (hdg _ hg).2 hx) (fun x hx => hl x (hmem.2 (.inl hx))) he
        refine fin V1 k2 fun V' hV' hVp => ⟨k5 V' fun x hn => hV' x (fun hh => hn (.inl hh)) (fun hh => hn (.inr (.inl hh))) (fun hh => hn (.inr (.inr hh))), ?_⟩
        refine .pick e1 d cc px py v (alq hpo) (fun x hb => ⟨fun hw => ?_, fun hw => ?_⟩) (hpG e1 k3) hpo hpb (by rw [k3 d fun hh => hbl hed (hmem.2 (.inl hh))]; exact hed) (by rw [← hoth]; exact k1) (fun d' hd' => by
         have hpd' : dq p = some pd := hpd
         rw [hpd'] at hd'; cases hd'; exact hVp)
        ·by_cases hz : e1 x = .undef
         ·exact .inl hz
         ·have hnF : ¬ (F x ∨ x = pd ∨ x ∈ aq rest) := fun hh => by
           have hxg : x ∉ aq grp := fun hg => by
            rcases hh with hh | rfl | hh
            ·exact hFl x hh (hmem.2 (.inl hg))
            ·exact (hdg _ hg).1 rfl
            ·exact (hdg _ hg).2 hh
           apply hz
           rw [k3 x hxg]
           rcases hh with hh | rfl | hh
           ·exact hF x hh
           ·exact hl _ (hmem.2 (.inr (.inl rfl)))
           ·exact hl _ (hmem.2 (.inr (.inr hh)))
          refine .inr ?_
          rw [hV' x (fun hh => hnF (.inl hh)) (fun hh => hnF (.inr (.inl hh))) (fun hh => hnF (.inr (.inr hh)))]
          by_cases hxg : x ∈ aq grp
          ·rcases k4 x hxg with hq | hq
           ·exact absurd hq hz
           ·exact hq
          ·rw [k2 x hxg, k3 x hxg]
           rw [k3 x hxg] at hz
           rcases (he x).1 hw with hq | hq
           ·exact absurd hq hz
           ·exact hq
        ·rw [k3 x fun hg => by rw [hW x (hmem.2 (.inl hg))] at hw; cases hw]
         exact (he x).2 hw
       ·have hfits : ∀ (V' : qu) (bad' : Nat), (∀ x, ¬ F x → x ≠ pd → x ∉ aq rest → V' x = if x ∈ aq grp then none else V0 x) → Fits W e0 V' bad' e := fun V' bad' hV' x _ => ⟨fun hw => by
         by_cases hz : e x = .undef
         ·exact .inl hz
         ·have hnl : x ∉ aq grp ++ pd :: aq rest := fun hm => hz (hl x hm)
          refine .inr ?_
          rw [hV' x (fun hf => hz (hF x hf)) (fun hh => hnl (hmem.2 (.inr (.inl hh)))) (fun hh => hnl (hmem.2 (.inr (.inr hh)))), if_neg (fun hh => hnl (hmem.2 (.inl hh)))]
          rcases (he x).1 hw with hq | hq
          ·exact absurd hq hz
          ·exact hq, (he x).2⟩
        refine fin (fun x => if x ∈ aq grp then none else V0 x) (fun x hx => if_neg hx) fun V' hV' hVp => ⟨fun y hy => ?_, ?_⟩
        ·obtain ⟨q1, q0, q2⟩ := afq all hgrp y hy
         have hyd : ∀ x, x ∈ aq grp → V' x = none := fun x hx => by
          rw [hV' x (fun hf => hFl x hf (hmem.2 (.inl hx))) (hdg x hx).1 (hdg x hx).2]; exact if_pos hx
         have hy' : ∀ d', dq y.1 = some d' → V' d' = none := fun d' hd' => hyd d' (kc.2 ⟨y, hy, hd'⟩)
         rcases q2 with q2 | ⟨j', b', d', q2, q3, q4⟩
         ·refine .skip e j b d q0 (hfits V' _ hV') q2 hj ?_ (.inl ⟨cc, hed, by rw [hcb]; simp⟩) hy'
          simp only [yc, q2, hj] at q1
          simpa using q1
         ·have hd' : d' ∈ aq grp := by
           rcases q4 with q4 | q4
           ·rw [ng] at q4; cases q4
           ·exact q4
          refine .skip e j' b' d' q0 (hfits V' _ hV') q2 q3 ?_ (.inr ⟨hW d' (hmem.2 (.inl hd')), hyd d' hd'⟩) hy'
          simp only [yc, q2, q3] at q1
          simpa using q1
        ·refine .pick e d cc px py v (alq hpo) (hfits V' _ hV') (hpG e fun _ _ => rfl) hpo hpb hed ?_ (fun d' hd' => by
          have hpd' : dq p = some pd := hpd
          rw [hpd'] at hd'; cases hd'; exact hVp)
         rw [hcb, ← hoth]; exact hx
      ·cases h
end
end Go.Proofs.YtmdimhcjogjcgaaGreatDoor.Abs
namespace Go.Proofs.YtmdimhcjogjcgaaGreatDoor.Abs
open Go.RowKit
def qd (v : AV) (q : Nat) : Prop := match v with
 | .fptr p _ => p = q
 | .vw p _ _ => p = q
 | .vwc p _ _ _ => p = q
 | _ => False
open Classical in
def ED (W : Nat) (e0 : Env) (V : qu) (Dn : Nat → Prop) : Env := fun x => if ao W x = true then (if Dn x then (V x).getD .undef else e0 x) else e0 x
structure om (τ : Tab) (B : Nat) (W : Nat) (e0 : Env) (V : qu) (w0 : World) (c0 : Cls) (a0 : Act) (Dn : Nat → Prop) (a : Act) (w : World) : Prop where
 rel : ∃ c, Ext B w0 c0 w c ∧ ax τ B w c (aj a) (ED W e0 V Dn)
 sk : ∀ x, ao W x = true → Dn x → V x = none → aj a x = undef
 rf : ∀ x q, qd (ED W e0 V Dn x) q → ¬ (ao W q = true ∧ ¬ Dn q)
 size : a.tmps.size = a0.tmps.size
 defers : a.defers = a0.defers
section
variable {P : Program} {τ : Tab} {B : Nat} {call : Nat → List AV → Option AV} {all : List Oper} {W : Nat} {e0 : Env} {V : qu} {w0 : World} {c0 : Cls} {a0 : Act} {Dn : Nat → Prop} {a : Act} {w : World}
theorem zt {x : Nat} (hw : ao W x = true) (hd : Dn x) : ED W e0 V Dn x = (V x).getD .undef := by simp [ED, hw, hd]
theorem ass {x : Nat} (hw : ao W x = false) : ED W e0 V Dn x = e0 x := by simp [ED, hw]
theorem wx {dst : Option Nat} {x : Nat} (h : dst ≠ some x) : ED W e0 V (fun x => Dn x ∨ dst = some x) x = ED W e0 V Dn x := by
 have hh : (fun x => Dn x ∨ dst = some x) x = Dn x := propext ⟨fun q => q.resolve_right h, .inl⟩
 unfold ED; rw [hh]
theorem av0 {dst : Option Nat} {u : Value} {x : Nat} (h : dst ≠ some x) : aj (a.put dst u) x = aj a x := by
 cases dst with
 | none => rfl
 | some d =>
  have hne : d ≠ x := fun hh => h (by rw [hh])
  simp [aj, Act.put, Array.getElem?_setIfInBounds_ne hne]
theorem om.put (h : om τ B W e0 V w0 c0 a0 Dn a w) {c c' : Cls} {w' : World} {u : Value} {dst : Option Nat} (he : Ext B w0 c0 w c) (hs : ax τ B w c (aj a) (ED W e0 V Dn)) (hx : Ext w.heap.size w c w' c')
  (hd : ∀ d, dst = some d → ao W d = true ∧ ¬ Dn d ∧ d < a0.tmps.size ∧ dx B w' c' (aj a) (ED W e0 V Dn) d u ((V d).getD .undef) ∧ (V d = none → u = undef) ∧ ∀ q, qd ((V d).getD .undef) q → ¬ (ao W q = true ∧ ¬ Dn q)) :
  om τ B W e0 V w0 c0 a0 (fun x => Dn x ∨ dst = some x) (a.put dst u) w' := by
 refine ⟨⟨c', he.trans (hx.mono hs.base), ?_⟩, fun x hw hdn hv => ?_, fun x q hr hq => ?_, kv.trans h.size, put_defers.trans h.defers⟩
 ·have h1 := hs.alloc hx
  cases hdst : dst with
  | none =>
   have : ED W e0 V (fun x => Dn x ∨ none = some x) = ED W e0 V Dn := by funext x; exact wx (by simp)
   rw [this]; exact h1
  | some d =>
   obtain ⟨q1, q2, q3, q4, q5, q6⟩ := hd d hdst
   rw [o4 (by rw [h.size]; exact q3)]
   refine h1.put q4 (zt q1 (.inr rfl)) (fun s hsd => ?_) (fun hh s hsd => ?_)
   ·rw [wx fun hh => hsd (by cases hh; rfl)]; exact .refl _
   ·have hn : ∀ v, ED W e0 V (fun x => Dn x ∨ some d = some x) s = v → ¬ qd v d := fun v hv hr => by
     rw [wx fun hh => hsd (by cases hh; rfl)] at hv
     exact h.rf s d (hv ▸ hr) ⟨q1, q2⟩
    exact ⟨fun o hv => hn _ hv rfl, fun z l hv => hn _ hv rfl, fun o z l hv => hn _ hv rfl⟩
 ·by_cases hdx : dst = some x
  ·obtain ⟨q1, q2, q3, q4, q5, q6⟩ := hd x hdx
   have := q5 hv
   rw [hdx, o4 (by rw [h.size]; exact q3), this]; simp [upd]
  ·rw [av0 hdx]
   exact h.sk x hw (hdn.resolve_right hdx) hv
 ·by_cases hdx : dst = some x
  ·obtain ⟨q1, q2, q3, q4, q5, q6⟩ := hd x hdx
   rw [zt q1 (.inr hdx)] at hr
   exact q6 q hr ⟨hq.1, fun hh => hq.2 (.inl hh)⟩
  ·rw [wx hdx] at hr
   exact h.rf x q hr ⟨hq.1, fun hh => hq.2 (.inl hh)⟩
theorem rk {bad : Nat} {m : Env} (hf : Fits W e0 V bad m) (hbad : ∀ x, ao W x = true → ao bad x = false → Dn x) : ∀ x, ff (ED W e0 V Dn x) (gf bad m x) := fun x => by
 unfold gf
 cases hb : ao bad x with
 | true => exact .undef _
 | false =>
  show ff _ (m x)
  cases hw : ao W x with
  | true =>
   rcases (hf x hb).1 hw with h | h
   ·rw [h]; exact .undef _
   ·rw [zt hw (hbad x hw hb), h]; exact .refl _
  | false => rw [ass hw, (hf x hb).2 hw]; exact .refl _
theorem av1 {bad x : Nat} {m : Env} (hb : ao bad x = false) : gf bad m x = m x := by simp [gf, hb, aa]
theorem aed {x : Nat} (hd : ¬ Dn x) : ED W e0 V Dn x = e0 x := by simp [ED, hd]
theorem av2 {s : Nat} {v : AV} (h : ¬ qd v s) : klc s v = v := by
 cases v <;> first
  | rfl
  | skip
 case vwc q off z l =>
  have h : ¬ q = s := h
  show aa (Nat.beq q s) _ _ = _
  cases hb : Nat.beq q s with
  | false => rfl
  | true => exact absurd (Nat.eq_of_beq_eq_true hb) h
theorem ay1 {u v : AV} (hw : ff u v) (h : (∃ b, v = .bool b) ∨ (∃ k n, v = .int k n) ∨ (∃ s, v = .str s) ∨ ∃ s c, v = .agg s c) : u = v := by
 rcases h with ⟨_, rfl⟩ | ⟨_, _, rfl⟩ | ⟨_, rfl⟩ | ⟨_, _, rfl⟩ <;> (cases hw; rfl)
theorem ast {τ : Tab} {t : Nat} {x : Operand} {m : Env} {b v : AV} (h : ml τ t m x b some = some v) : ∃ z cs mm z' cs' mm', b = .boxv z cs mm ∧ v = .boxv z' cs' mm' := by
 cases b with
 | boxv z cs mm =>
  have go : ∀ a : AV, (ks τ t fun sz => bh (Nat.ble (0 + sz) z) (cast τ t a fun a => cellsOf sz a fun c' => aa (Nat.beq 0 0 && Nat.beq sz z) (some (.boxv z c' [])) (ru sz c' 0 fun l => some (.boxv z cs (zw 0 l mm))))) = some v → ∃ z' cs' mm', v = .boxv z' cs' mm' := by
   intro a hg
   obtain ⟨ti, hti, hg⟩ := ja hg
   obtain ⟨hle, hg⟩ := bn hg
   obtain ⟨a', hc, hg⟩ := iq hg
   obtain ⟨cl, hcl, hg⟩ := oa hg
   cases hb : (Nat.beq 0 0 && Nat.beq ti.sz z) with
   | true => rw [hb] at hg; cases hg; exact ⟨_, _, _, rfl⟩
   | false =>
    rw [hb] at hg
    obtain ⟨l, hl1, hl2, hg⟩ := uv hg
    cases hg; exact ⟨_, _, _, rfl⟩
  have gop : ∀ a : AV, ry a (fun a => ks τ t fun sz => bh (Nat.ble (0 + sz) z) (cast τ t a fun a => cellsOf sz a fun c' => aa (Nat.beq 0 0 && Nat.beq sz z) (some (.boxv z c' [])) (ru sz c' 0 fun l => some (.boxv z cs (zw 0 l mm))))) = some v → ∃ z' cs' mm', v = .boxv z' cs' mm' := by
   intro a hg
   cases a <;> first | (cases hg; done) | exact go _ hg
  obtain ⟨z', cs', mm', hh⟩ : ∃ z' cs' mm', v = .boxv z' cs' mm' := by
   cases x with
   | tmp u => exact gop _ h
   | const cst => exact gop _ h
   | global g => cases h
   | func f => cases h
  exact ⟨z, cs, mm, z', cs', mm', rfl, hh⟩
 | _ => cases h
theorem anb {τ : Tab} {t s : Nat} {x : Operand} {E m : Env} {z : Nat} {cs : List AV} {mm : List (Nat × AV)} {v : AV} (hw : ∀ x, ff (E x) (m x)) (h : ml τ t m x (.boxv z cs mm) some = some v) :
  jn τ E t s 0 z cs mm x some = some (Abs.set (ot s E) s v) := by
 have hk : ml τ t m x (.boxv z cs mm) (fun bx => some (Abs.set (ot s E) s bx)) = some (Abs.set (ot s E) s v) := by rw [abm, h]; rfl
 rw [← hk]
 cases x with
 | tmp u =>
  have hu := hw u
  unfold ml stOp at h
  dsimp only at h
  unfold jn ml stOp
  show nz (kj (E u)) _ = ry (m u) _
  cases hm : m u <;> rw [hm] at hu <;> first
   | (rw [hm] at h; cases h; done)
   | skip
  all_goals
   have hE : E u = m u := by rw [hm]; exact ay1 hu (by simp)
   rw [hE, hm]
   simp only [kj, nz, ry, xa, aox, hE, hm, aaa]
 | const cst =>
  unfold ml stOp at h
  dsimp only at h
  unfold jn ml stOp
  show nz (cv cst) _ = ry (cv cst) _
  generalize cv cst = a at *
  cases a <;> first
   | (cases h; done)
   | simp only [nz, ry, xa, aox, aaa]
 | global g => cases h
 | func f => cases h
theorem flag {bad d : Nat} {m : Env} {t : Bool} {c : Cls} (hs : ax τ B w c (aj a) (gf bad m)) (hb : ao bad d = false) (hm : m d = .bool t) : aj a d = .bool t := by
 have := hs.slot d
 rw [av1 hb, hm] at this
 exact eo this
theorem alr {ops : Array Oper} {j d : Nat} (hall : all = ops.toList) (hj : tz all j = some d) : yielded ops a.tmps j = match aj a d with | .bool b => some b | _ => none := by
 unfold tz at hj
 rw [hall] at hj
 split at hj
 ·rename_i o ho
  have ho' : ops[j]? = some o := by simpa using ho
  unfold yielded aj
  rw [ho']
  simp only [Option.bind_some, hj]
  rw [Array.getD_eq_getD_getElem?]
  cases a.tmps[d]? with
  | none => rfl
  | some u => cases u <;> rfl
 ·cases hj
theorem dx.whole {c : Cls} {T : Nat → Value} {e e' : Env} {d : Nat} {u : Value} {v : AV} (h : dx B w c T e d u v) (hr : apy e v) (hw : ∀ x, ff (e' x) (e x)) : dx B w c T e' d u v := by
 cases v <;> first
  | exact h
  | skip
 case fptr q off =>
  obtain ⟨z, cs, m, hq⟩ := hr
  intro z' cs' m' hq'
  exact h z cs m hq
 case vw q z l =>
  obtain ⟨z', l', hq⟩ := hr
  exact ⟨h.1, fun _ _ _ => h.2 z' l' hq⟩
 case vwc q off z l =>
  obtain ⟨z', cs, m, hq⟩ := hr
  refine ⟨h.1, fun z2 cs2 m2 z3 l3 hq' ho => ?_⟩
  have := hw q
  rw [hq] at this
  have := this.agm
  rw [hq'] at this; cases this
  exact h.2 _ _ _ _ _ hq ho
theorem als (hT : db P τ) (hcall : ∀ f l r, call f l = some r → PC P τ f l r) {ops : Array Oper} {Q : Exit → Act → World → Prop} {K : Act → World → Prop} {i bad : Nat} {o : Oper} (hall : all = ops.toList) (ho : ops[i]? = some o)
    (h : om τ B W e0 V w0 c0 a0 Dn a w) (hl : Loc τ call all W e0 V o bad) (hbad : ∀ x, ao W x = true → ao bad x = false → Dn x) (hdst : ∀ d, dq o = some d → ao W d = true ∧ ¬ Dn d ∧ (stT o = none → d < a0.tmps.size))
    (hK : ∀ a' w', om τ B W e0 V w0 c0 a0 (fun x => Dn x ∨ dq o = some x) a' w' → K a' w') : wpOp P ops Q i K a w := by
  obtain ⟨c, he, hs⟩ := h.rel
  have wanted : ∀ {m : Env}, Fits W e0 V bad m → afp all m o bad → Region.wanted o (yielded ops a.tmps) = true := fun {m} hf hg => by
    unfold Region.wanted
    split
    · rfl
    · rename_i j b hgd
      obtain ⟨d, q1, q2, q3⟩ := hg j b hgd
      rw [alr hall q1, flag (hs.ku (rk hf hbad)) q2 q3]; simp
  unfold wpOp
  rw [ho]
  cases hl with
  | store m t s x v hf hst hg hv hd =>
    obtain ⟨hop, hdn⟩ := ay0 hst
    have hdq := ahd hst
    obtain ⟨q1, q2, _⟩ := hdst s hdq
    obtain ⟨z, cs, mm, z', cs', mm', hb, rfl⟩ := ast hv
    have hw : Region.wanted o (yielded ops a.tmps) = true := by simp [Region.wanted, hg]
    simp only [hw, if_true]
    have hsE : ED W e0 V Dn s = .boxv z cs mm := (aed q2).trans hb
    rw [hb] at hv
    have hst2 := anb (s := s) (E := ED W e0 V Dn) (rk hf hbad) hv
    refine .inl (abe hT hop hdn hs hsE (fun b hb => hb) hst2 K Q fun a' w' ha => hK _ _ ?_)
    obtain ⟨⟨c', k1, k2, k3, k4⟩, rfl⟩ := ha
    have hED : ED W e0 V (fun x => Dn x ∨ dq o = some x) = Abs.set (ot s (ED W e0 V Dn)) s (.boxv z' cs' mm') := by
      funext x
      by_cases hx : x = s
      · subst hx
        rw [cy, zt q1 (.inr hdq), hd]; rfl
      · rw [ea _ _ hx, wx (fun hh => hx (by rw [hdq] at hh; cases hh; rfl))]
        exact (av2 fun hr => h.rf x s hr ⟨q1, q2⟩).symm
    refine ⟨⟨c', he.trans k1, by rw [hED]; exact k2⟩, fun x hw hdn hv => ?_, fun x q hr hq => ?_, h.size, h.defers⟩
    · by_cases hx : x = s
      · subst hx; rw [hd] at hv; cases hv
      · exact h.sk x hw (hdn.resolve_right fun hh => hx (by rw [hdq] at hh; cases hh; rfl)) hv
    · by_cases hx : x = s
      · subst hx
        rw [hED, cy] at hr
        exact hr
      · rw [wx (fun hh => hx (by rw [hdq] at hh; cases hh; rfl))] at hr
        exact h.rf x q hr ⟨hq.1, fun hh => hq.2 (.inl hh)⟩
  | exec m v hst hf hg hv href hd =>
    rw [wu hst] at hK hdst hd
    have hs' := hs.ku (rk hf hbad)
    simp only [wanted hf hg, if_true]
    refine .inl ((ags (d := o.dst.getD 0) hT hcall hs' hv) K Q fun u w' hu => hK _ _ ?_)
    obtain ⟨c', hx, hsl⟩ := hu
    refine h.put he hs hx fun d hdd => ?_
    obtain ⟨q1, q2, q3⟩ := hdst d hdd
    have q3 := q3 hst
    rw [hdd] at hsl
    rw [hd d hdd]
    refine ⟨q1, q2, q3, hsl.whole href (rk hf hbad), (fun hh => by cases hh), fun q hr hq => ?_⟩
    have hqm : gf bad m q ≠ .undef := by
      cases v <;> first
        | exact (hr : False).elim
        | (obtain rfl : _ = q := hr
           first
            | (obtain ⟨z, cs, mm, hh⟩ := href; rw [hh]; simp; done)
            | (obtain ⟨z, l, hh⟩ := href; rw [hh]; simp; done))
    have hqb : ao bad q = false := by
      cases hb : ao bad q with
      | false => rfl
      | true => exact absurd (by simp [gf, hb, aa]) hqm
    exact hq.2 (hbad q hq.1 hqb)
  | pick m d t x y v hst hf hg hop hb hm hx hd =>
    rw [wu hst] at hK hdst hd
    have hs' := hs.ku (rk hf hbad)
    simp only [wanted hf hg, if_true]
    obtain ⟨b1, hb1, hx⟩ := ck hx
    obtain ⟨tb, e1, e2⟩ := zn hx
    cases e2
    subst e1
    obtain ⟨q, hq⟩ := hb1.slot hs'
    have hv : a.eval (aa t x y) = .bool v := eo hq
    have hdt : a.eval (.tmp d) = .bool t := flag hs' hb hm
    have hrun : (execOp a.eval o).run P w = .ok (.value (.bool v)) w := by
      rw [← hv]
      simp only [execOp, hop, hdt]
      cases t <;> simp [asBool, aa]
    refine .inl (ej.value (R := fun u' w' => u' = .bool v ∧ w' = w) hrun ⟨rfl, rfl⟩ K Q fun u w' hu => hK _ _ ?_)
    obtain ⟨rfl, rfl⟩ := hu
    refine h.put he hs (Ext.refl ..) fun d' hdd => ?_
    obtain ⟨q1, q2, q3⟩ := hdst d' hdd
    have q3 := q3 hst
    rw [hd d' hdd]
    exact ⟨q1, q2, q3, Rep.bool v, (fun hh => by cases hh), fun q hr => (hr : False).elim⟩
  | skip m j b d hst hf hg hj hb hm hd =>
    rw [wu hst] at hK hdst hd
    have hs' := hs.ku (rk hf hbad)
    have hno : Region.wanted o (yielded ops a.tmps) = false := by
      simp only [Region.wanted, hg]
      rw [alr hall hj]
      rcases hm with ⟨t, h1, h2⟩ | ⟨h1, h2⟩
      · rw [flag hs' hb h1]; simpa using h2
      · rw [h.sk d h1 (hbad d h1 hb) h2]; rfl
    simp only [hno, Bool.false_eq_true, if_false]
    refine hK _ _ (h.put he hs (Ext.refl ..) fun d' hdd => ?_)
    obtain ⟨q1, q2, q3⟩ := hdst d' hdd
    have q3 := q3 hst
    rw [hd d' hdd]
    exact ⟨q1, q2, q3, trivial, fun _ => rfl, fun q hr => (hr : False).elim⟩
end
end Go.Proofs.YtmdimhcjogjcgaaGreatDoor.Abs
