/- The reflective interpreter without a bound on its steps: the equations of calls and loops. -/
import Derived.Test.YtmdimhcjogjcgaaGreatDoorGab
set_option linter.all false
noncomputable section
namespace Go.Proofs.YtmdimhcjogjcgaaGreatDoor.Abs
def Le {β : Type} (x y : Option β) : Prop := ∀ v, x = some v → y = some v
theorem Le.refl {β : Type} (x : Option β) : Le x x := fun _ h => h
theorem Le.trans {β : Type} {x y z : Option β} (h : Le x y) (k : Le y z) : Le x z := fun v e => k v (h v e)
theorem Le.bind {β γ : Type} {x y : Option β} {g h : β → Option γ} (a : Le x y) (b : ∀ v, Le (g v) (h v)) : Le (x.bind g) (y.bind h) := by
 intro v e
 cases x with
 | none => cases e
 | some u => rw [a u rfl]; exact b u v e
structure Ap {β : Type} (g : Nat → Option β) (r : Option β) : Prop where
 up : ∀ n m, n ≤ m → Le (g n) (g m)
 lim : ∀ v, r = some v ↔ ∃ n, g n = some v
def aj6 {β : Type} (g : Nat → Option β) : Option β := open Classical in if h : ∃ n, (g n).isSome = true then g (Classical.choose h) else none
theorem anq {β : Type} {g : Nat → Option β} (up : ∀ n m, n ≤ m → Le (g n) (g m)) : Ap g (aj6 g) := by
 refine ⟨up, fun v => ?_⟩
 unfold aj6
 by_cases h : ∃ n, (g n).isSome = true
 ·rw [dif_pos h]
  refine ⟨fun e => ⟨_, e⟩, fun ⟨n, hn⟩ => ?_⟩
  have h1 := Classical.choose_spec h
  generalize Classical.choose h = m at *
  obtain ⟨u, hu⟩ := Option.isSome_iff_exists.1 h1
  rcases Nat.le_total n m with hle | hle
  ·exact up n m hle v hn
  ·have := up m n hle u hu
   rw [hu, ← this, hn]
 ·rw [dif_neg h]
  exact ⟨fun e => (by cases e), fun ⟨n, hn⟩ => absurd ⟨n, (by rw [hn]; rfl)⟩ h⟩
theorem Ap.uniq {β : Type} {g : Nat → Option β} {r r' : Option β} (a : Ap g r) (b : Ap g r') : r = r' := by
 cases r with
 | none =>
  cases r' with
  | none => rfl
  | some v => obtain ⟨n, hn⟩ := (b.lim v).1 rfl; exact (a.lim v).2 ⟨n, hn⟩
 | some v => obtain ⟨n, hn⟩ := (a.lim v).1 rfl; exact ((b.lim v).2 ⟨n, hn⟩).symm
theorem Ap.const {β : Type} (x : Option β) : Ap (fun _ => x) x := ⟨fun _ _ _ => Le.refl _, fun v => ⟨fun h => ⟨0, h⟩, fun ⟨_, h⟩ => h⟩⟩
theorem Ap.le {β : Type} {g : Nat → Option β} {r : Option β} (a : Ap g r) (n : Nat) : Le (g n) r := fun v h => (a.lim v).2 ⟨n, h⟩
theorem Ap.bind {β γ : Type} {g : Nat → Option β} {r : Option β} {h : Nat → β → Option γ} {k : β → Option γ} (a : Ap g r) (b : ∀ v, Ap (fun n => h n v) (k v)) :
  Ap (fun n => (g n).bind (h n)) (r.bind k) := by
 refine ⟨fun n m hnm => Le.bind (a.up n m hnm) fun v => (b v).up n m hnm, fun v => ⟨fun e => ?_, fun ⟨n, e⟩ => ?_⟩⟩
 ·cases hr : r with
  | none => rw [hr] at e; cases e
  | some u =>
   rw [hr] at e
   obtain ⟨n, hn⟩ := (a.lim u).1 hr
   obtain ⟨m, hm⟩ := ((b u).lim v).1 e
   refine ⟨max n m, ?_⟩
   show (g (max n m)).bind (h (max n m)) = some v
   rw [a.up n _ (Nat.le_max_left ..) u hn]
   exact (b u).up m _ (Nat.le_max_right ..) v hm
 ·cases hg : g n with
  | none => rw [show (g n).bind (h n) = none by rw [hg]; rfl] at e; cases e
  | some u =>
   have e : (g n).bind (h n) = some v := e
   rw [hg] at e
   rw [a.le n u hg]
   exact (b u).le n v e
theorem Ap.ifB {β : Type} (b : Bool) {g h : Nat → Option β} {r s : Option β} (x : Ap g r) (y : Ap h s) : Ap (fun n => ifB b (g n) (h n)) (ifB b r s) := by cases b <;> assumption
theorem Ap.aa {β : Type} (b : Bool) {g h : Nat → Option β} {r s : Option β} (x : Ap g r) (y : Ap h s) : Ap (fun n => aa b (g n) (h n)) (aa b r s) := by cases b <;> assumption
theorem Ap.gate {β : Type} (b c : Bool) {g h : Nat → Option β} {r s : Option β} (x : Ap g r) (y : Ap h s) : Ap (fun n => gate b c (g n) (h n)) (gate b c r s) := by
 cases b
 ·exact Ap.ifB c y x
 ·exact Ap.ifB c x y
theorem Ap.bh {β : Type} (b : Bool) {g : Nat → Option β} {k : Option β} (h : Ap g k) : Ap (fun n => bh b (g n)) (bh b k) := by cases b <;> first | exact h | exact Ap.const _
theorem Ap.tv {β : Type} (a : AV) {g : Nat → Option β} {k : Option β} (h : Ap g k) : Ap (fun n => tv a (g n)) (tv a k) := by cases a <;> first | exact h | exact Ap.const _
theorem Ap.acs {β : Type} (a : AV) {g : Nat → Option β} {k : Option β} (h : Ap g k) : Ap (fun n => acs a (g n)) (acs a k) := by cases a <;> first | exact h | exact Ap.const _
theorem Ap.agc {β : Type} (e : Env) (a : AV) {g : Nat → Option β} {k : Option β} (h : Ap g k) : Ap (fun n => agc e a (g n)) (agc e a k) := by cases a <;> first | exact h | exact Ap.tv _ h | exact Ap.acs _ h
theorem Ap.asB {β : Type} (a : AV) {g : Nat → Bool → Option β} {k : Bool → Option β} (h : ∀ b, Ap (fun n => g n b) (k b)) : Ap (fun n => asB a (g n)) (asB a k) := by
 cases a <;> first | exact h _ | exact Ap.const _
theorem aj7 {α : Type} (e : Env) (x : Operand) (g : AV → Option α) : de e x g = (de e x some).bind g := by rw [nj]; rfl
theorem Ap.de {β : Type} (e : Env) (x : Operand) {g : Nat → AV → Option β} {k : AV → Option β} (h : ∀ b, Ap (fun n => g n b) (k b)) : Ap (fun n => de e x (g n)) (de e x k) := by
 have := Ap.bind (Ap.const (Abs.de e x some)) h
 simpa only [← aj7] using this
section
variable (τ : Tab) {c : Nat → Nat → List AV → Option AV} {call : Nat → List AV → Option AV} (hc : ∀ f l, Ap (fun n => c n f l) (call f l))
include hc
theorem axv (e : Env) (o : Oper) : Ap (fun n => val τ (c n) e o some) (val τ call e o some) := by
 obtain ⟨dst, op, ty, pos, after, guard⟩ := o
 by_cases h : ∃ f args ts, op = .call ⟨.value f, args, ts⟩
 ·obtain ⟨f, args, ts, rfl⟩ := h
  refine Ap.de _ _ fun f => ?_
  cases f <;> first | exact Ap.const _ | skip
  rename_i f caps
  show Ap (fun n => tt e args.toList fun l => pr τ ts.toList l fun l => tw τ (c n) f (l ++ caps) ty some) _
  have h1 : ∀ (l : List AV), Ap (fun n => pr τ ts.toList l fun l => tw τ (c n) f (l ++ caps) ty some) (pr τ ts.toList l fun l => tw τ call f (l ++ caps) ty some) := fun l => by
   have := Ap.bind (h := fun n l => tw τ (c n) f (l ++ caps) ty some) (k := fun l => tw τ call f (l ++ caps) ty some) (Ap.const (pr τ ts.toList l some)) fun l' => Ap.bind (hc f _) fun r => Ap.const (abh τ (τ.RO f) ty r some)
   simp only [ad0, Option.bind_some] at this
   exact this
  have := Ap.bind (Ap.const (tt e args.toList some)) h1
  simp only [age, Option.bind_some] at this
  exact this
 ·have : (fun n => val τ (c n) e ⟨dst, op, ty, pos, after, guard⟩ some) = fun _ => val τ call e ⟨dst, op, ty, pos, after, guard⟩ some := by
   funext n
   unfold val
   split <;> first
    | rfl
    | (exfalso; exact h ⟨_, _, _, by assumption⟩)
  rw [this]
  exact Ap.const _
theorem aqr {β : Type} (e : Env) (o : Oper) {g : Nat → AV → Option β} {k : AV → Option β} (h : ∀ b, Ap (fun n => g n b) (k b)) : Ap (fun n => val τ (c n) e o (g n)) (val τ call e o k) := by
 have := Ap.bind (axv τ hc e o) h
 simpa only [← anp] using this
theorem aty (res : List Nat) (e : Env) (o : Oper) : Ap (fun n => step τ (c n) res e o some) (step τ call res e o some) := by
 by_cases h : ∀ call' : Nat → List AV → Option AV, step τ call' res e o some = val τ call' e o fun v => some (j5 e o.dst v)
 ·have : (fun n => step τ (c n) res e o some) = fun n => val τ (c n) e o fun v => some (j5 e o.dst v) := funext fun n => h _
  rw [this, h]
  exact aqr τ hc e o fun v => Ap.const _
 ·have : (fun n => step τ (c n) res e o some) = fun _ => step τ call res e o some := by
   funext n
   unfold step
   split <;> first
    | rfl
    | (exfalso; refine h fun call' => ?_; unfold step; simp only [*]; done)
  rw [this]
  exact Ap.const _
theorem axw {β : Type} (res : List Nat) (e : Env) (o : Oper) {g : Nat → Env → Option β} {k : Env → Option β} (h : ∀ b, Ap (fun n => g n b) (k b)) : Ap (fun n => step τ (c n) res e o (g n)) (step τ call res e o k) := by
 have := Ap.bind (aty τ hc res e o) h
 simpa only [← aj5] using this
theorem pg (all : List Oper) (eb : Env) : ∀ (fu : Nat) (cur : Option (Nat × Bool)) (ops : List (Oper × Nat)) (e : Env) {β : Type} {g : Nat → Env → Option β} {k : Env → Option β},
  (∀ b, Ap (fun n => g n b) (k b)) → Ap (fun n => j2 τ (c n) all eb fu cur ops e (g n)) (j2 τ call all eb fu cur ops e k)
 | 0, _, _, _, _, _, _, _ => Ap.const _
 | fu + 1, _, [], e, _, _, _, h => h e
 | fu + 1, cur, (o, bad) :: r, e, _, g, k, h => by
  unfold j2
  split
  ·split
   ·rename_i t s x hst
    refine Ap.bh _ ?_
    have := Ap.bind (Ap.const (ml τ t (gf bad e) x (eb s) some)) fun v => pg all eb fu cur r (Abs.y7 e (some s) v) h
    simpa only [← abm] using this
   ·exact Ap.bh _ (aqr τ hc _ o fun v => Ap.agc _ _ (pg all eb fu cur r _ h))
  ·split
   ·exact Ap.const _
   ·split
    ·exact Ap.const _
    ·split
     ·exact Ap.const _
     ·split
      ·exact Ap.bh _ (Ap.asB _ fun b => Ap.bind (Ap.gate _ _ (pg all eb fu _ _ _ fun e' => Ap.const _) (Ap.const _)) fun v => pg all eb fu cur _ _ h)
      ·exact Ap.const _
theorem yf (res : List Nat) (all : List Oper) : ∀ (fu : Nat) (ops : List Oper) (e : Env) {β : Type} {g : Nat → Env → Option β} {k : Env → Option β},
  (∀ b, Ap (fun n => g n b) (k b)) → Ap (fun n => kl τ (c n) res all fu ops e (g n)) (kl τ call res all fu ops e k)
 | 0, _, _, _, _, _, _ => Ap.const _
 | fu + 1, [], e, _, _, _, h => h e
 | fu + 1, o :: r, e, _, g, k, h => by
  unfold kl
  split
  ·exact axw τ hc res e o fun e' => yf res all fu r e' h
  ·split
   ·exact Ap.const _
   ·split
    ·exact Ap.const _
    ·exact Ap.bh _ (pg τ hc all _ _ _ _ _ fun e' => yf res all fu _ e' h)
theorem ahx (res : List Nat) (ops : List Oper) (draw : Bool) (e : Env) {β : Type} {g : Nat → Env → Option β} {k : Env → Option β}
  (h : ∀ b, Ap (fun n => g n b) (k b)) : Ap (fun n => sa τ (c n) res ops draw e (g n)) (sa τ call res ops draw e k) := by
 unfold sa
 split
 ·exact yf τ hc res _ _ _ _ h
 ·split
  ·exact pg τ hc _ _ _ _ _ _ fun e' => yf τ hc res _ _ _ _ h
  ·exact Ap.const _
end
def KLe (K K' : fe) : Prop := ∀ x e, Le (K x e) (K' x e)
def BLe (B B' : Env → fe → Option AV) : Prop := ∀ e K K', KLe K K' → Le (B e K) (B' e K')
abbrev Lp := (Env → Env) → (Env → fe → Option AV) → fe → Env → Option AV
def LLe (lp lp' : Lp) : Prop := ∀ fg B B' K K' e, BLe B B' → BLe B' B' → KLe K K' → Le (lp fg B K e) (lp' fg B' K' e)
theorem anr {r r' : Env → Option AV} {K K' : fe} (h : ∀ e, Le (r e) (r' e)) (hk : KLe K K') : KLe (ve r K) (ve r' K') := fun x e => by
 cases x
 ·exact h e
 ·exact hk _ e
 ·exact hk _ e
theorem aqs {id : Nat} {K K' : fe} (hk : KLe K K') : KLe (xc id K) (xc id K') := fun x e => by
 cases x
 ·exact hk _ e
 ·show Le (aa _ _ _) (aa _ _ _)
  cases Nat.beq _ id
  ·exact hk _ e
  ·exact hk _ e
 ·exact hk _ e
theorem wi (fg : Env → Env) {B B' : Env → fe → Option AV} {K K' : fe} (hb : BLe B B') (hk : KLe K K') : ∀ n m e, n ≤ m → Le (iter n fg B K e) (iter m fg B' K' e)
 | 0, _, _, _ => fun v h => by cases h
 | n + 1, m, e, h => by
  obtain ⟨m, rfl⟩ : ∃ k, m = k + 1 := ⟨m - 1, by omega⟩
  exact hb e _ _ (anr (fun e => wi fg hb hk n m _ (by omega)) hk)
def jo : Lp := fun fg B K e => aj6 fun n => iter n fg B K e
theorem acx (fg : Env → Env) {B : Env → fe → Option AV} (hb : BLe B B) (K : fe) (e : Env) : Ap (fun n => iter n fg B K e) (jo fg B K e) :=
 anq fun n m h => wi fg hb (fun _ _ => Le.refl _) n m e h
theorem oz {n m : Nat} (h : n ≤ m) : LLe (iter n) (iter m) := fun fg B B' K K' e hb _ hk => wi fg hb hk n m e h
theorem abn (n : Nat) : LLe (iter n) jo := fun fg B B' K K' e hb hb' hk => (wi fg hb hk n n e (Nat.le_refl _)).trans ((acx fg hb' K' e).le n)
theorem o0 : LLe jo jo := fun fg B B' K K' e hb hb' hk v h => by
 have hb0 : BLe B B ∨ True := .inr trivial
 unfold jo aj6 at h
 split at h
 ·exact abn _ fg B B' K K' e hb hb' hk v h
 ·cases h
section
variable (τ : Tab) (ann : Nat → Option (List Nat)) (res : List Nat)
theorem aqt {c c' : Nat → List AV → Option AV} (hc : ∀ f l, Le (c f l) (c' f l)) (ops : List Oper) (draw : Bool) (e : Env) {β : Type} {k k' : Env → Option β}
  (h : ∀ b, Le (k b) (k' b)) : Le (sa τ c res ops draw e k) (sa τ c' res ops draw e k') := by
 have hap : ∀ {γ : Type} {x y : Option γ}, Le x y → Ap (fun n => match n with | 0 => x | _ + 1 => y) y := fun {γ x y} hl =>
  ⟨fun n m hnm => by
   cases n with
   | zero => cases m with
    | zero => exact Le.refl _
    | succ m => exact hl
   | succ n => cases m with
    | zero => omega
    | succ m => exact Le.refl _, fun v => ⟨fun e => ⟨1, e⟩, fun ⟨n, e⟩ => by cases n with | zero => exact hl v e | succ n => exact e⟩⟩
 have h1 : ∀ f l, Ap (fun n => (match n with | 0 => c | _ + 1 => c') f l) (c' f l) := fun f l => by
  have := hap (hc f l)
  refine ⟨fun n m h => ?_, fun v => ?_⟩
  ·have := this.up n m h; cases n <;> cases m <;> exact this
  ·refine ⟨fun e => ⟨1, e⟩, fun ⟨n, e⟩ => ?_⟩
   cases n with
   | zero => exact hc f l v e
   | succ n => exact e
 have h2 : ∀ b, Ap (fun n => (match n with | 0 => k | _ + 1 => k') b) (k' b) := fun b => by
  have := hap (h b)
  refine ⟨fun n m h => ?_, fun v => ?_⟩
  ·have := this.up n m h; cases n <;> cases m <;> exact this
  ·refine ⟨fun e => ⟨1, e⟩, fun ⟨n, e⟩ => ?_⟩
   cases n with
   | zero => exact h b v e
   | succ n => exact e
 exact (ahx τ h1 res ops draw e h2).le 0
theorem js {c c' : Nat → List AV → Option AV} {lp lp' : Lp} (hc : ∀ f l, Le (c f l) (c' f l)) (hl : LLe lp lp') (hl' : LLe lp' lp') : ∀ (cd : Code), BLe (run τ ann c res lp cd) (run τ ann c' res lp' cd)
 | .skip, e, K, K', hk => hk _ e
 | .region id ops draw, e, K, K', hk => aqt τ res hc _ _ _ fun b => hk _ b
 | .seq a b, e, K, K', hk => js hc hl hl' a e _ _ (anr (fun e => js hc hl hl' b _ _ _ hk) hk)
 | .cond x a b, e, K, K', hk => by
  show Le (de e x fun x => asB x fun x => ifB x (run τ ann c res lp a e K) (run τ ann c res lp b e K)) (de e x fun x => asB x fun x => ifB x (run τ ann c' res lp' a e K') (run τ ann c' res lp' b e K'))
  rw [aj7, aj7 e x fun x => asB x fun x => ifB x (run τ ann c' res lp' a e K') (run τ ann c' res lp' b e K')]
  refine Le.bind (Le.refl _) fun v => ?_
  cases v <;> first | exact Le.refl _ | skip
  rename_i t
  cases t
  ·exact js hc hl hl' b e _ _ hk
  ·exact js hc hl hl' a e _ _ hk
 | .block id a, e, K, K', hk => js hc hl hl' a e _ _ (aqs hk)
 | .loop a, e, K, K', hk => hl _ _ _ _ _ _ (js hc hl hl' a) (by
   have := js (c := c') (c' := c') (fun _ _ => Le.refl _) hl' hl' a
   exact this) hk
 | .exit id, e, K, K', hk => hk _ e
 | .ret, e, K, K', hk => hk _ e
 | .rangeFunc .., e, K, K', hk => Le.refl _
 | .scope .., e, K, K', hk => Le.refl _
 | .label .., e, K, K', hk => Le.refl _
 | .goto .., e, K, K', hk => Le.refl _
 | .refuse .., e, K, K', hk => Le.refl _
def ApK (Kn : Nat → fe) (K : fe) : Prop := ∀ x e, Ap (fun n => Kn n x e) (K x e)
structure ApB (Bn : Nat → Env → fe → Option AV) (B : Env → fe → Option AV) : Prop where
 up : ∀ n m, n ≤ m → BLe (Bn n) (Bn m)
 to : ∀ n, BLe (Bn n) B
 self : BLe B B
 ap : ∀ Kn K, ApK Kn K → ∀ e, Ap (fun n => Bn n e (Kn n)) (B e K)
theorem agi {r : Nat → Env → Option AV} {r' : Env → Option AV} {Kn : Nat → fe} {K : fe} (h : ∀ e, Ap (fun n => r n e) (r' e)) (hk : ApK Kn K) : ApK (fun n => ve (r n) (Kn n)) (ve r' K) := fun x e => by
 cases x
 ·exact h e
 ·exact hk _ e
 ·exact hk _ e
theorem aqu {id : Nat} {Kn : Nat → fe} {K : fe} (hk : ApK Kn K) : ApK (fun n => xc id (Kn n)) (xc id K) := fun x e => by
 cases x
 ·exact hk _ e
 ·exact Ap.aa _ (hk _ e) (hk _ e)
 ·exact hk _ e
theorem axx (fg : Env → Env) {Bn : Nat → Env → fe → Option AV} {B : Env → fe → Option AV} {Kn : Nat → fe} {K : fe} (hb : ApB Bn B) (hk : ApK Kn K) (e : Env) :
  Ap (fun n => iter n fg (Bn n) (Kn n) e) (jo fg B K e) := by
 have h1 : ∀ m e, Ap (fun n => iter m fg (Bn n) (Kn n) e) (iter m fg B K e) := by
  intro m
  induction m with
  | zero => intro e; exact Ap.const _
  | succ m ih => intro e; exact hb.ap _ _ (agi (fun e => ih _) hk) e
 refine ⟨fun n m h => wi fg (hb.up n m h) (fun x e => (hk x e).up n m h) n m e h, fun v => ?_⟩
 rw [(acx fg hb.self K e).lim v]
 constructor
 ·rintro ⟨m, hm⟩
  obtain ⟨n, hn⟩ := ((h1 m e).lim v).1 hm
  refine ⟨max m n, wi fg (hb.up n _ (Nat.le_max_right ..)) (fun x e => (hk x e).up n _ (Nat.le_max_right ..)) m _ e (Nat.le_max_left ..) v hn⟩
 ·rintro ⟨n, hn⟩
  exact ⟨n, (h1 n e).le n v hn⟩
theorem agj {c : Nat → Nat → List AV → Option AV} {call : Nat → List AV → Option AV} (hc : ∀ f l, Ap (fun n => c n f l) (call f l)) : ∀ (cd : Code),
  ApB (fun n => run τ ann (c n) res (iter n) cd) (run τ ann call res jo cd) := by
 intro cd
 refine ⟨fun n m h => js τ ann res (fun f l => (hc f l).up n m h) (oz h) (oz (Nat.le_refl _)) cd, fun n => js τ ann res (fun f l => (hc f l).le n) (abn n) o0 cd,
  js τ ann res (fun _ _ => Le.refl _) o0 o0 cd, ?_⟩
 induction cd with
 | skip => exact fun Kn K hk e => hk _ e
 | region id ops draw =>
  intro Kn K hk e
  exact ahx τ hc res _ _ _ fun b => hk _ b
 | seq a b iha ihb => exact fun Kn K hk e => iha _ _ (agi (fun e => ihb _ _ hk _) hk) e
 | cond x a b iha ihb =>
  exact fun Kn K hk e => Ap.de e x fun v => Ap.asB v fun t => Ap.ifB t (iha _ _ hk e) (ihb _ _ hk e)
 | block id a iha => exact fun Kn K hk e => iha _ _ (aqu hk) e
 | loop a iha =>
  exact fun Kn K hk e => axx _ ⟨fun n m h => js τ ann res (fun f l => (hc f l).up n m h) (oz h) (oz (Nat.le_refl _)) a, fun n => js τ ann res (fun f l => (hc f l).le n) (abn n) o0 a,
   js τ ann res (fun _ _ => Le.refl _) o0 o0 a, iha⟩ hk _
 | exit id => exact fun Kn K hk e => hk _ e
 | ret => exact fun Kn K hk e => hk _ e
 | rangeFunc => exact fun Kn K hk e => Ap.const _
 | scope => exact fun Kn K hk e => Ap.const _
 | label => exact fun Kn K hk e => Ap.const _
 | goto => exact fun Kn K hk e => Ap.const _
 | refuse => exact fun Kn K hk e => Ap.const _
theorem axy {call : Nat → List AV → Option AV} (cd : Code) (fg : Env → Env) (K : fe) (e : Env) :
  jo fg (run τ ann call res jo cd) K e = run τ ann call res jo cd e (ve (fun e' => jo fg (run τ ann call res jo cd) K (fg e')) K) := by
 have hs := js τ ann res (c := call) (c' := call) (fun _ _ => Le.refl _) o0 o0 cd
 have hb := agj τ ann res (c := fun _ => call) (call := call) (fun _ _ => Ap.const _) cd
 have h1 := acx fg hs K e
 have h2 : Ap (fun n => iter (n + 1) fg (run τ ann call res jo cd) K e) (jo fg (run τ ann call res jo cd) K e) :=
  ⟨fun n m h => h1.up _ _ (by omega), fun v => (h1.lim v).trans ⟨fun ⟨n, h⟩ => ⟨n, h1.up n _ (by omega) v h⟩, fun ⟨n, h⟩ => ⟨n + 1, h⟩⟩⟩
 have hB : ApB (fun _ => run τ ann call res jo cd) (run τ ann call res jo cd) := by
  refine ⟨fun _ _ _ => hs, fun _ => hs, hs, ?_⟩
  intro Kn K hk e
  have h3 : ∀ m, Ap (fun n => run τ ann call res (iter n) cd e (Kn m)) (run τ ann call res jo cd e (Kn m)) := fun m => hb.ap (fun _ => Kn m) (Kn m) (fun _ _ => Ap.const _) e
  have h4 := hb.ap Kn K hk e
  refine ⟨fun n m h => hs e _ _ fun x e => (hk x e).up n m h, fun v => ⟨fun hv => ?_, fun ⟨n, hn⟩ => ?_⟩⟩
  ·obtain ⟨n, hn⟩ := (h4.lim v).1 hv
   exact ⟨n, (h3 n).le n v hn⟩
  ·exact hs e _ _ (fun x e => (hk x e).le n) v hn
 have h5 := hB.ap _ _ (agi (r := fun n e' => iter n fg (run τ ann call res jo cd) K (fg e')) (r' := fun e' => jo fg (run τ ann call res jo cd) K (fg e')) (Kn := fun _ => K) (K := K) (fun e' => acx fg hs K _) (fun _ _ => Ap.const _)) e
 exact h2.uniq h5
end
theorem aj8 (S : Sys) : ∀ n m f l, n ≤ m → Le (iw S n f l) (iw S m f l)
 | 0, _, _, _, _ => fun v h => by cases h
 | n + 1, m, f, l, h => by
  obtain ⟨m, rfl⟩ : ∃ k, m = k + 1 := ⟨m - 1, by omega⟩
  unfold iw
  split
  ·exact Le.refl _
  ·split
   ·exact js S.τ _ _ (fun f l => aj8 S n m f l (by omega)) (oz (by omega)) (oz (Nat.le_refl _)) _ _ _ _ fun _ _ => Le.refl _
   ·exact Le.refl _
def ω (S : Sys) (f : Nat) (l : List AV) : Option AV := aj6 fun n => iw S n f l
theorem aez (S : Sys) (f : Nat) (l : List AV) : Ap (fun n => iw S n f l) (ω S f l) := anq fun n m h => aj8 S n m f l h
theorem agk {S : Sys} {f : Nat} {l : List AV} {v : AV} : ω S f l = some v ↔ ∃ n, iw S n f l = some v := (aez S f l).lim v
theorem a4a (S : Sys) (f : Nat) (l : List AV) (d : FD) (hO : S.O f = none) (hF : S.F f = some d) : ω S f l = wh S (ω S) jo f d l := by
 have h1 := aez S f l
 have h2 : Ap (fun n => iw S (n + 1) f l) (ω S f l) :=
  ⟨fun n m h => h1.up _ _ (by omega), fun v => (h1.lim v).trans ⟨fun ⟨n, h⟩ => ⟨n, h1.up n _ (by omega) v h⟩, fun ⟨n, h⟩ => ⟨n + 1, h⟩⟩⟩
 have h3 : Ap (fun n => iw S (n + 1) f l) (wh S (ω S) jo f d l) := by
  have := (agj S.τ (S.ann f) (gl d.rs) (aez S) d.code).ap (fun _ => sx S.τ d.rs) (sx S.τ d.rs) (fun _ _ => Ap.const _) (look (pv 0 l))
  have e : (fun n => iw S (n + 1) f l) = fun n => run S.τ (S.ann f) (iw S n) (gl d.rs) (iter n) d.code (look (pv 0 l)) (sx S.τ d.rs) := by
   funext n; simp only [iw, hO, hF, wh]
  rw [e]; exact this
 exact h2.uniq h3
theorem aj9 (S : Sys) (f : Nat) (l : List AV) (g : List AV → Option AV) (hO : S.O f = some g) : ω S f l = g l := by
 have h1 := aez S f l
 have h2 : Ap (fun n => iw S (n + 1) f l) (ω S f l) :=
  ⟨fun n m h => h1.up _ _ (by omega), fun v => (h1.lim v).trans ⟨fun ⟨n, h⟩ => ⟨n, h1.up n _ (by omega) v h⟩, fun ⟨n, h⟩ => ⟨n + 1, h⟩⟩⟩
 have e : (fun n => iw S (n + 1) f l) = fun _ => g l := by funext n; simp only [iw, hO]
 rw [e] at h2
 exact h2.uniq (Ap.const _)
theorem aw2 : ∃ mk : (Env → Option AV) → Env → Option AV, mk = fun r e => r e := ⟨_, rfl⟩
def atz : (Env → Option AV) → Env → Option AV := Classical.choose aw2
theorem ans (r : Env → Option AV) (e : Env) : atz r e = r e := congrFun (congrFun (Classical.choose_spec aw2) r) e
theorem aw3 : ∃ lp : Lp, lp = jo := ⟨_, rfl⟩
def sy : Lp := Classical.choose aw3
theorem agl : sy = jo := Classical.choose_spec aw3
theorem aw4 : ∃ w : Sys → Nat → List AV → Option AV, w = ω := ⟨_, rfl⟩
def ag : Sys → Nat → List AV → Option AV := Classical.choose aw4
theorem ph : ag = ω := Classical.choose_spec aw4
def fgM (ann : Nat → Option (List Nat)) (c : Code) (r : Env → Option AV) (e : Env) : Option AV := match xe c with
 | some k => (match ann (k + 1000000) with | some L => atz r (forget L e) | none => r e)
 | none => r e
theorem a0b (ann : Nat → Option (List Nat)) (c : Code) (r : Env → Option AV) (e : Env) : fgM ann c r e = r (fgJ ann c e) := by
 unfold fgM fgJ
 cases xe c with
 | none => rfl
 | some k =>
  dsimp only
  cases ann (k + 1000000) with
  | none => rfl
  | some L => exact ans _ _
section
variable (τ : Tab) (ann : Nat → Option (List Nat)) (call : Nat → List AV → Option AV) (res : List Nat) (lp : Lp)
def runM : Code → Env → fe → Option AV
 | .skip, e, K => K .normal e
 | .region id ops draw, e, K => sa τ call res ops.toList draw e fun e' => K .normal e'
 | .seq a b, e, K => runM a e (ve (fun e' => fgM ann b (fun e'' => runM b e'' K) e') K)
 | .cond c a b, e, K => de e c fun c => asB c fun c => ifB c (runM a e K) (runM b e K)
 | .block id c, e, K => runM c e (xc id K)
 | .loop c, e, K => lp (rz ann c) (runM c) K (rz ann c e)
 | .exit id, e, K => K (.exit id) e
 | .ret, e, K => K .ret e
 | _, _, _ => none
def ua : Code → List Nat → fe → fe
 | _, [], K => K
 | .seq a b, i :: p, K => (match i with
  | 0 => ua a p (ve (fun e' => fgM ann b (fun e'' => runM τ ann call res lp b e'' K) e') K)
  | _ => ua b p K)
 | .cond _ a b, i :: p, K => (match i with | 0 => ua a p K | _ => ua b p K)
 | .block id c, _ :: p, K => ua c p (xc id K)
 | .loop c, _ :: p, K => ua c p (ve (fun e' => lp (rz ann c) (runM τ ann call res lp c) K (rz ann c e')) K)
 | _, _, K => K
theorem pj : ∀ (c : Code), runM τ ann call res lp c = run τ ann call res lp c
 | .skip => rfl
 | .region _ _ _ => rfl
 | .seq a b => by
  funext e K
  simp only [runM, run, pj a, pj b, a0b]
 | .cond c a b => by funext e K; simp only [runM, run, pj a, pj b]
 | .block id c => by funext e K; simp only [runM, run, pj c]
 | .loop c => by funext e K; simp only [runM, run, pj c]
 | .exit _ => rfl
 | .ret => rfl
 | .rangeFunc .. => rfl
 | .scope .. => rfl
 | .label .. => rfl
 | .goto .. => rfl
 | .refuse .. => rfl
end
def cj (S : Sys) (f : Nat) (d : FD) (p : List Nat) (e : Env) : Option AV :=
 sy (rz (S.ann f) (sub d.code (p ++ [0]))) (runM S.τ (S.ann f) (ag S) (gl d.rs) sy (sub d.code (p ++ [0]))) (ua S.τ (S.ann f) (ag S) (gl d.rs) sy d.code p (sx S.τ d.rs)) e
def abo (S : Sys) (f : Nat) (d : FD) (p : List Nat) (e : Env) : Option AV :=
 atz (fun e' => runM S.τ (S.ann f) (ag S) (gl d.rs) sy (sub d.code (p ++ [1])) e' (ua S.τ (S.ann f) (ag S) (gl d.rs) sy d.code p (sx S.τ d.rs))) e
theorem aw (S : Sys) (f : Nat) (d : FD) (p : List Nat) (e : Env) : cj S f d p e =
  runM S.τ (S.ann f) (ag S) (gl d.rs) sy (sub d.code (p ++ [0])) e (ve (fun e' => cj S f d p (rz (S.ann f) (sub d.code (p ++ [0])) e')) (ua S.τ (S.ann f) (ag S) (gl d.rs) sy d.code p (sx S.τ d.rs))) := by
 unfold cj
 rw [agl, pj]
 exact axy ..
theorem qx (S : Sys) (f : Nat) (d : FD) (p : List Nat) (e : Env) : abo S f d p e =
  runM S.τ (S.ann f) (ag S) (gl d.rs) sy (sub d.code (p ++ [1])) e (ua S.τ (S.ann f) (ag S) (gl d.rs) sy d.code p (sx S.τ d.rs)) := ans _ _
def lk (n : Nat) : Code → Bool
 | .region _ ops _ => ops.toList.all fun o => match o.dst with | some d => Nat.blt d n | none => true
 | .seq a b => lk n a && lk n b
 | .cond _ a b => lk n a && lk n b
 | .block _ c => lk n c
 | .loop c => lk n c
 | _ => true
def zm : ResultVar → Nat
 | .tmp t => 2 * t
 | .cell s _ => 2 * s + 1
def xf : List Nat → Bool
 | [] => true
 | x :: r => !(r.any fun y => Nat.beq x y) && xf r
def bj (fn : Func) : Option FD := match fn.body with
 | some c => aa (lk fn.ntmps c && xf (fn.results.toList.map zm) && !(fn.name == "runtime.NumGoroutine")) (some ⟨c, fn.results.toList, fn.ntmps⟩) none
 | none => none
theorem af (S : Sys) (f : Nat) (l : List AV) (d : FD) (hO : S.O f = none) (hF : S.F f = some d) :
  ag S f l = runM S.τ (S.ann f) (ag S) (gl d.rs) sy d.code (look (pv 0 l)) (sx S.τ d.rs) := by
 rw [ph, agl, pj]
 exact a4a S f l d hO hF
abbrev w64 (x : Int) : Int := IntKind.wrap .i64 x
end Go.Proofs.YtmdimhcjogjcgaaGreatDoor.Abs
namespace Go.Proofs.YtmdimhcjogjcgaaGreatDoor.Lat
open Go.Proofs.YtmdimhcjogjcgaaGreatDoor.Abs (ai)
abbrev Bs := List UInt8
mutual
inductive Tm where
 | mk (k lo hi : Int) (s : Bs) (a m o : Bool) (fs : List Fd)
inductive Fd where
 | mk (n : Bs) (v : List Tm)
end
def Tm.k : Tm → Int | .mk k _ _ _ _ _ _ _ => k
def Tm.lo : Tm → Int | .mk _ x _ _ _ _ _ _ => x
def Tm.hi : Tm → Int | .mk _ _ x _ _ _ _ _ => x
def Tm.s : Tm → Bs | .mk _ _ _ x _ _ _ _ => x
def Tm.a : Tm → Bool | .mk _ _ _ _ x _ _ _ => x
def Tm.m : Tm → Bool | .mk _ _ _ _ _ x _ _ => x
def Tm.o : Tm → Bool | .mk _ _ _ _ _ _ x _ => x
def Tm.fs : Tm → List Fd | .mk _ _ _ _ _ _ _ x => x
def Fd.n : Fd → Bs | .mk n _ => n
def Fd.v : Fd → List Tm | .mk _ v => v
def jd (x y : Int) : Int := if x < y then -1 else if y < x then 1 else 0
def ll (x y : Bs) : Int := if ai x y = true then -1 else if ai y x = true then 1 else 0
def flag (b : Bool) : Int := if b = true then 1 else 0
def dm (n : Int) (k : Int) : Int := if n = 0 then k else n
mutual
def jt : Tm → Tm → Int
 | .mk k lo hi s a m o fs, t => dm (jd k t.k) (dm (jd lo t.lo) (dm (jd hi t.hi) (dm (ll s t.s) (dm (flag a - flag t.a) (dm (flag m - flag t.m) (dm (flag o - flag t.o) (ln fs t.fs)))))))
def ln : List Fd → List Fd → Int
 | [], [] => 0
 | [], _ :: _ => -1
 | _ :: _, [] => 1
 | .mk n v :: r, f :: q => dm (dm (ll n f.n) (iy v f.v)) (ln r q)
def iy : List Tm → List Tm → Int
 | [], [] => 0
 | [], _ :: _ => -1
 | _ :: _, [] => 1
 | t :: r, u :: q => dm (jt t u) (iy r q)
end
mutual
def wtT : Tm → Nat
 | .mk _ _ _ _ _ _ _ fs => 1 + wtF fs
def wtF : List Fd → Nat
 | [] => 0
 | .mk _ v :: r => wtV v + wtF r
def wtV : List Tm → Nat
 | [] => 0
 | t :: r => wtT t + wtV r
end
mutual
def dpT : Tm → Nat
 | .mk _ _ _ _ _ _ _ fs => dpF fs
def dpF : List Fd → Nat
 | [] => 0
 | .mk _ v :: r => max (dpV v + 1) (dpF r)
def dpV : List Tm → Nat
 | [] => 0
 | t :: r => max (dpT t) (dpV r)
end
def depth (v : List Tm) : Nat := dpV v + 1
def single : Tm → Bool
 | .mk k lo hi _ a _ _ _ => if k = 3 then !a else decide (lo = hi)
def ji : Tm → Bool
 | .mk k lo hi s a m o fs =>
  if (o || !fs.isEmpty || (m && single (.mk k lo hi s a m o fs))) = true then false
  else if k = 3 then decide (lo = 0 ∧ hi = 0) && (if a = true then decide (s = []) else decide (s.length ≤ 256))
  else if k = 1 then decide (0 ≤ lo ∧ lo ≤ hi ∧ hi ≤ 1 ∧ s = []) && !a
  else if k = 2 then decide (-9007199254740992 ≤ lo ∧ lo ≤ hi ∧ hi ≤ 9007199254740992 ∧ s = []) && !a
  else false
def ao2 : Tm → Tm → Bool
 | .mk k lo hi s a m o fs, .mk k' lo' hi' s' a' m' o' fs' => ji (.mk k lo hi s a m o fs) && ji (.mk k' lo' hi' s' a' m' o' fs') && decide (k = k' ∧ lo = lo' ∧ hi = hi' ∧ s = s') && (a == a') && (m == m')
def aac : Tm → Tm → Option Tm
 | .mk k lo hi s a m o fs, .mk k' lo' hi' s' a' m' o' fs' =>
  if (ji (.mk k lo hi s a m o fs) && ji (.mk k' lo' hi' s' a' m' o' fs') && decide (k = k')) = true then
   if min hi hi' < max lo lo' then none
   else if (a || a' || decide (s = s')) = true then
    some (.mk k (max lo lo') (min hi hi') (bif a then s' else s) (a && a') ((m || m') && !single (.mk k (max lo lo') (min hi hi') (bif a then s' else s) (a && a') false false [])) false [])
   else none
  else none
def ae0 (a b : Tm) : Bool := match aac a b with | some m => ao2 m a | none => false
def findF : List Fd → Bs → Option (List Tm)
 | [], _ => none
 | .mk n v :: r, s => if n = s then some v else findF r s
def hasAll (a b : List Fd) : Bool := a.all fun f => (findF b f.n).isSome
mutual
def oh (a : Tm) : Tm → Bool
 | .mk k lo hi s x m o fs => decide (k = 5) || (if a.k ≠ 4 ∨ k ≠ 4 then ae0 a (.mk k lo hi s x m o fs) else (!a.o || o) && (o || hasAll a.fs fs) && aad a.fs fs)
def aad (a : List Fd) : List Fd → Bool
 | [] => true
 | .mk n v :: r => (match findF a n with | some w => w.all (fun t => aka t v) | none => false) && aad a r
def aka (t : Tm) : List Tm → Bool
 | [] => false
 | u :: r => oh t u || aka t r
end
def abp (a b : List Tm) : Bool := a.all fun t => aka t b
section
variable (R : Bs → Bool)
def ub : Option Bs → Bs → Bool
 | none, _ => true
 | some q, n => ai q n
def ij : Option Bs → List Fd → Bool
 | _, [] => true
 | p, .mk n _ :: r => R n && ub p n && ij (some n) r
def y9 : List Tm → Bool
 | t :: u :: r => decide (jt t u < 0) && y9 (u :: r)
 | _ => true
def ad1 (v : List Tm) : Bool := (List.range v.length).all fun i => (List.range v.length).all fun k => decide (i = k) || (match v[i]?, v[k]? with | some t, some u => !oh t u | _, _ => true)
def sc : Tm → Bool
 | .mk _ lo hi s a m o fs => decide (lo = 0 ∧ hi = 0 ∧ s = []) && !a && !m && !o && fs.isEmpty
def uc : Tm → Bool
 | .mk _ lo hi s a m _ fs => decide (lo = 0 ∧ hi = 0 ∧ s = []) && !a && !m && decide (fs.length ≤ 32) && ij R none fs
mutual
def rcT : Tm → Bool
 | .mk k lo hi s a m o fs => if k = 5 then sc (.mk k lo hi s a m o fs) else if k = 4 then uc R (.mk k lo hi s a m o fs) && rcF fs else ji (.mk k lo hi s a m o fs)
def rcF : List Fd → Bool
 | [] => true
 | .mk _ v :: r => !v.isEmpty && (rcL v && y9 v && ad1 v) && rcF r
def rcL : List Tm → Bool
 | [] => true
 | t :: r => rcT t && rcL r
end
def rcV (v : List Tm) : Bool := rcL R v && y9 v && ad1 v
def za (v : List Tm) : Bool := decide (wtV v ≤ 512) && decide (depth v ≤ 16)
mutual
def okT : Tm → Bool
 | .mk k lo hi s a m o fs => if k = 5 then sc (.mk k lo hi s a m o fs) else if k = 4 then uc R (.mk k lo hi s a m o fs) && okF fs else ji (.mk k lo hi s a m o fs)
def okF : List Fd → Bool
 | [] => true
 | .mk _ v :: r => !v.isEmpty && (za v && okL v && y9 v && ad1 v) && okF r
def okL : List Tm → Bool
 | [] => true
 | t :: r => okT t && okL r
end
def okV (v : List Tm) : Bool := za v && okL R v && y9 v && ad1 v
mutual
def liT : Int → Tm → Bool
 | d, .mk k lo hi s a m o fs => if k = 5 then sc (.mk k lo hi s a m o fs) else if k = 4 then uc R (.mk k lo hi s a m o fs) && liF (d - 1) fs else ji (.mk k lo hi s a m o fs)
def liF : Int → List Fd → Bool
 | _, [] => true
 | d, .mk _ v :: r => !v.isEmpty && (decide (1 ≤ d) && decide (v.length ≤ 512) && liL d v && y9 v && ad1 v) && liF d r
def liL : Int → List Tm → Bool
 | _, [] => true
 | d, t :: r => liT d t && liL d r
end
def liV (d : Int) (v : List Tm) : Bool := decide (1 ≤ d) && decide (v.length ≤ 512) && liL R d v && y9 v && ad1 v
theorem akb : ∀ v : List Tm, v.length ≤ wtV v
 | [] => by simp [wtV]
 | .mk k lo hi s a m o fs :: r => by have := akb r; simp [wtV, wtT]; omega
mutual
theorem aqv : ∀ t : Tm, wtT t ≤ 512 → dpT t ≤ 15 → okT R t = rcT R t
 | .mk k lo hi s a m o fs, h1, h2 => by
  rw [okT, rcT, aqw fs (by simp [wtT] at h1; omega) (by simp [dpT] at h2; omega)]
theorem aqw : ∀ fs : List Fd, wtF fs ≤ 512 → dpF fs ≤ 15 → okF R fs = rcF R fs
 | [], _, _ => by rw [okF, rcF]
 | .mk n v :: r, h1, h2 => by
  simp only [wtF, dpF] at h1 h2
  rw [okF, rcF, akc v (by omega) (by omega), aqw r (by omega) (by omega)]
  have : za v = true := by unfold za depth; simp; omega
  rw [this]; simp
theorem akc : ∀ v : List Tm, wtV v ≤ 512 → dpV v ≤ 15 → okL R v = rcL R v
 | [], _, _ => by rw [okL, rcL]
 | t :: r, h1, h2 => by
  simp only [wtV, dpV] at h1 h2
  rw [okL, rcL, aqv t (by omega) (by omega), akc r (by omega) (by omega)]
end
theorem a4b (v : List Tm) : okV R v = (za v && rcV R v) := by
 unfold okV rcV
 cases h : za v with
 | false => simp
 | true =>
  unfold za depth at h
  simp at h
  rw [akc R v (by omega) (by omega)]
  simp [Bool.and_assoc]
mutual
theorem aqx : ∀ (t : Tm) (d : Int), wtT t ≤ 512 → (dpT t : Int) < d → liT R d t = rcT R t
 | .mk k lo hi s a m o fs, d, h1, h2 => by
  rw [liT, rcT, aqy fs (d - 1) (by simp [wtT] at h1; omega) (by simp [dpT] at h2; omega)]
theorem aqy : ∀ (fs : List Fd) (d : Int), wtF fs ≤ 512 → (dpF fs : Int) ≤ d → liF R d fs = rcF R fs
 | [], _, _, _ => by rw [liF, rcF]
 | .mk n v :: r, d, h1, h2 => by
  simp only [wtF, dpF] at h1 h2
  have hl := akb v
  rw [liF, rcF, akd v d (by omega) (by omega), aqy r d (by omega) (by omega)]
  have e1 : decide (1 ≤ d) = true := by simp; omega
  have e2 : decide (v.length ≤ 512) = true := by simp; omega
  rw [e1, e2]; simp
theorem akd : ∀ (v : List Tm) (d : Int), wtV v ≤ 512 → (dpV v : Int) < d → liL R d v = rcL R v
 | [], _, _, _ => by rw [liL, rcL]
 | t :: r, d, h1, h2 => by
  simp only [wtV, dpV] at h1 h2
  rw [liL, rcL, aqx t d (by omega) (by omega), akd r d (by omega) (by omega)]
end
mutual
theorem a0c : ∀ (t : Tm) (d : Int), 1 ≤ d → liT R d t = true → (dpT t : Int) < d
 | .mk k lo hi s a m o fs, d, h1, h2 => by
  rw [liT] at h2
  rw [dpT]
  split at h2
  ·rw [sc] at h2
   simp at h2
   rw [show fs = [] from h2.2, dpF]; omega
  ·split at h2
   ·simp at h2
    have := aqz fs (d - 1) (by omega) h2.2
    omega
   ·rw [ji] at h2
    have : fs = [] := by
     by_cases hn : (o || !fs.isEmpty || (m && single (.mk k lo hi s a m o fs))) = true
     ·rw [if_pos hn] at h2; cases h2
     ·simp only [Bool.or_eq_true, not_or] at hn
      simpa using hn.1.2
    rw [this, dpF]; omega
theorem aqz : ∀ (fs : List Fd) (d : Int), 0 ≤ d → liF R d fs = true → (dpF fs : Int) ≤ d
 | [], d, h, _ => by rw [dpF]; omega
 | .mk n v :: r, d, h, h2 => by
  rw [liF] at h2
  simp at h2
  rw [dpF]
  have h3 := ake v d h2.1.2.1.1.1.1 h2.1.2.1.1.2
  have h4 := aqz r d h h2.2
  omega
theorem ake : ∀ (v : List Tm) (d : Int), 1 ≤ d → liL R d v = true → (dpV v : Int) < d
 | [], d, h, _ => by rw [dpV]; omega
 | t :: r, d, h, h2 => by
  rw [liL] at h2
  simp at h2
  rw [dpV]
  have h3 := a0c t d h h2.1
  have h4 := ake r d h h2.2
  omega
end
theorem a4c (v : List Tm) : (liV R 16 v && decide (wtV v ≤ 512)) = okV R v := by
 rw [a4b]
 unfold za rcV
 by_cases hw : wtV v ≤ 512
 ·have hl := akb v
  by_cases hd : depth v ≤ 16
  ·have hd' := hd
   unfold depth at hd'
   unfold liV
   rw [akd R v 16 hw (by omega)]
   have e2 : decide (v.length ≤ 512) = true := by simp; omega
   simp [hw, hd, e2, Bool.and_assoc]
  ·have : liV R 16 v = false := by
    cases h : liV R 16 v with
    | false => rfl
    | true =>
     unfold liV at h
     simp at h
     have := ake R v 16 (by omega) h.1.1.2
     unfold depth at hd
     omega
   simp [this, hd]
 ·simp [hw]
end
end Go.Proofs.YtmdimhcjogjcgaaGreatDoor.Lat
namespace Go.Proofs.YtmdimhcjogjcgaaGreatDoor.Lat
open Go.Proofs.YtmdimhcjogjcgaaGreatDoor.Abs (ai)
theorem acy (a b : UInt8) : a < b ↔ a.toNat < b.toNat := UInt8.lt_iff_toNat_lt
theorem ic : ∀ x : Bs, ai x x = false
 | [] => rfl
 | a :: x => by rw [ai, ic x]; simp
theorem aae : ∀ x y : Bs, ai x y = true → ai y x = false
 | [], [], h => by simp [ai] at h
 | [], _ :: _, _ => rfl
 | _ :: _, [], h => by simp [ai] at h
 | a :: x, b :: y, h => by
  simp only [ai, Bool.or_eq_true, decide_eq_true_eq, Bool.and_eq_true, beq_iff_eq, Bool.or_eq_false_iff, decide_eq_false_iff_not, Bool.and_eq_false_iff] at h ⊢
  rcases h with h | ⟨rfl, h⟩
  ·refine ⟨fun h2 => ?_, .inl ?_⟩
   ·rw [acy] at h h2; omega
   ·rw [beq_eq_false_iff_ne]; rintro rfl; rw [acy] at h; omega
  ·exact ⟨fun h2 => by rw [acy] at h2; omega, .inr (aae x y h)⟩
theorem qy : ∀ x y z : Bs, ai x y = true → ai y z = true → ai x z = true
 | _, _, [], _, h => by simp [ai] at h
 | _, [], _ :: _, h, _ => by simp [ai] at h
 | [], _ :: _, _ :: _, _, _ => rfl
 | a :: x, b :: y, c :: z, h, k => by
  simp only [ai, Bool.or_eq_true, decide_eq_true_eq, Bool.and_eq_true, beq_iff_eq] at h k ⊢
  rcases h with h | ⟨rfl, h⟩ <;> rcases k with k | ⟨rfl, k⟩
  ·left; rw [acy] at *; omega
  ·exact .inl h
  ·exact .inl k
  ·exact .inr ⟨rfl, qy x y z h k⟩
theorem qz : ∀ x y : Bs, ai x y = false → ai y x = false → x = y
 | [], [], _, _ => rfl
 | [], _ :: _, h, _ => by simp [ai] at h
 | _ :: _, [], _, h => by simp [ai] at h
 | a :: x, b :: y, h, k => by
  simp only [ai, Bool.or_eq_false_iff, decide_eq_false_iff_not, Bool.and_eq_false_iff] at h k
  have : a = b := UInt8.toNat_inj.1 (by have h1 := h.1; have k1 := k.1; rw [acy] at h1 k1; omega)
  subst this
  have h2 := h.2.resolve_left (by simp)
  have k2 := k.2.resolve_left (by simp)
  rw [qz x y h2 k2]
theorem abq {x y : Bs} : ll x y = 0 ↔ x = y := by
 unfold ll
 constructor
 ·intro h
  split at h
  ·omega
  ·rename_i h1
   split at h
   ·omega
   ·rename_i h2
    exact qz x y (by simpa using h1) (by simpa using h2)
 ·rintro rfl
  rw [ic]; rfl
theorem ae1 {x y : Int} : jd x y = 0 ↔ x = y := by unfold jd; split <;> (try split) <;> omega
section
variable (R : Bs → Bool)
theorem abr : ∀ (fs : List Fd) (p : Bs), ij R (some p) fs = true → ∀ f ∈ fs, ai p f.n = true
 | [], p, _, f, hf => by cases hf
 | .mk n v :: r, p, h, f, hf => by
  rw [ij] at h
  simp only [Bool.and_eq_true] at h
  rcases List.mem_cons.1 hf with rfl | hf
  ·exact h.1.2
  ·exact qy _ _ _ h.1.2 (abr r n h.2 f hf)
theorem ta {p : Option Bs} {f : Fd} {r : List Fd} (h : ij R p (f :: r) = true) : ij R (some f.n) r = true := by
 obtain ⟨n, v⟩ := f
 rw [ij] at h
 simp only [Bool.and_eq_true] at h
 exact h.2
theorem akf : ∀ (fs : List Fd) (p : Option Bs), ij R p fs = true → ∀ f ∈ fs, findF fs f.n = some f.v
 | [], p, _, f, hf => by cases hf
 | .mk n v :: r, p, h, f, hf => by
  have h2 := ta R h
  rw [findF]
  rcases List.mem_cons.1 hf with rfl | hf
  ·exact if_pos rfl
  ·rw [if_neg, akf r (some n) h2 f hf]
   intro e
   have := abr R r n h2 f hf
   rw [e, ic] at this
   cases this
end
mutual
def seT (w : Bool) : Tm → Bool
 | .mk k lo hi s a m o fs => decide (k ≠ 5) && (if k = 4 then seF w fs else single (.mk k lo hi s a m o fs) || (w && m))
def seF (w : Bool) : List Fd → Bool
 | [] => true
 | .mk _ v :: r => seL w v && seF w r
def seL (w : Bool) : List Tm → Bool
 | [t] => seT w t
 | _ => false
end
section
variable (N : Int → Bs)
def a8u : Tm → Int → Tm
 | .mk k lo hi _ _ _ _ _, p =>
  if k = 1 then .mk 1 (p % 2) (p % 2) [] false false false []
  else if k = 2 then .mk 2 (lo + p % (hi - lo + 1)) (lo + p % (hi - lo + 1)) [] false false false []
  else .mk 3 0 0 (116 :: N p) false false false []
variable (R : Bs → Bool) (hN : ∀ p, (N p).length ≤ 255)
include hN in
include hN
end
end Go.Proofs.YtmdimhcjogjcgaaGreatDoor.Lat
