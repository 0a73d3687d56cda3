/- The reflective interpreter without a bound on its steps: the equations of calls and loops. -/
import Derived.Test.YtffojfcinkihnaaGreatDoorAbsB
set_option linter.unusedVariables false
set_option linter.unusedSimpArgs false
set_option linter.unusedSectionVars false
set_option linter.deprecated false
set_option linter.unnecessarySimpa false
namespace Go.Proofs.YtffojfcinkihnaaGreatDoor.Abs
set_option linter.unusedVariables false

def Le {β : Type} (x y : Option β) : Prop := ∀ v, x = some v → y = some v
theorem Le.refl {β : Type} (x : Option β) : Le x x := fun _ h => h
theorem Le.trans {β : Type} {x y z : Option β} (h : Le x y) (k : Le y z) : Le x z := fun v e => k v (h v e)
theorem Le.bind {β γ : Type} {x y : Option β} {g h : β → Option γ} (a : Le x y) (b : ∀ v, Le (g v) (h v)) : Le (x.bind g) (y.bind h) := by
  intro v e
  cases x with
  | none => cases e
  | some u => rw [a u rfl]; exact b u v e
/-- A rising row, and what it comes to. -/
structure Ap {β : Type} (g : Nat → Option β) (r : Option β) : Prop where
  up : ∀ n m, n ≤ m → Le (g n) (g m)
  lim : ∀ v, r = some v ↔ ∃ n, g n = some v
noncomputable def limO {β : Type} (g : Nat → Option β) : Option β := open Classical in if h : ∃ n, (g n).isSome = true then g (Classical.choose h) else none
theorem ap_limO {β : Type} {g : Nat → Option β} (up : ∀ n m, n ≤ m → Le (g n) (g m)) : Ap g (limO g) := by
  refine ⟨up, fun v => ?_⟩
  unfold limO
  by_cases h : ∃ n, (g n).isSome = true
  · rw [dif_pos h]
    refine ⟨fun e => ⟨_, e⟩, fun ⟨n, hn⟩ => ?_⟩
    have h1 := Classical.choose_spec h
    generalize Classical.choose h = m at *
    obtain ⟨u, hu⟩ := Option.isSome_iff_exists.1 h1
    rcases Nat.le_total n m with hle | hle
    · exact up n m hle v hn
    · have := up m n hle u hu
      rw [hu, ← this, hn]
  · rw [dif_neg h]
    exact ⟨fun e => (by cases e), fun ⟨n, hn⟩ => absurd ⟨n, (by rw [hn]; rfl)⟩ h⟩
theorem Ap.uniq {β : Type} {g : Nat → Option β} {r r' : Option β} (a : Ap g r) (b : Ap g r') : r = r' := by
  cases r with
  | none =>
    cases r' with
    | none => rfl
    | some v => obtain ⟨n, hn⟩ := (b.lim v).1 rfl; exact (a.lim v).2 ⟨n, hn⟩
  | some v => obtain ⟨n, hn⟩ := (a.lim v).1 rfl; exact ((b.lim v).2 ⟨n, hn⟩).symm
theorem Ap.const {β : Type} (x : Option β) : Ap (fun _ => x) x := ⟨fun _ _ _ => Le.refl _, fun v => ⟨fun h => ⟨0, h⟩, fun ⟨_, h⟩ => h⟩⟩
theorem Ap.le {β : Type} {g : Nat → Option β} {r : Option β} (a : Ap g r) (n : Nat) : Le (g n) r := fun v h => (a.lim v).2 ⟨n, h⟩
theorem Ap.bind {β γ : Type} {g : Nat → Option β} {r : Option β} {h : Nat → β → Option γ} {k : β → Option γ} (a : Ap g r) (b : ∀ v, Ap (fun n => h n v) (k v)) :
    Ap (fun n => (g n).bind (h n)) (r.bind k) := by
  refine ⟨fun n m hnm => Le.bind (a.up n m hnm) fun v => (b v).up n m hnm, fun v => ⟨fun e => ?_, fun ⟨n, e⟩ => ?_⟩⟩
  · cases hr : r with
    | none => rw [hr] at e; cases e
    | some u =>
      rw [hr] at e
      obtain ⟨n, hn⟩ := (a.lim u).1 hr
      obtain ⟨m, hm⟩ := ((b u).lim v).1 e
      refine ⟨max n m, ?_⟩
      show (g (max n m)).bind (h (max n m)) = some v
      rw [a.up n _ (Nat.le_max_left ..) u hn]
      exact (b u).up m _ (Nat.le_max_right ..) v hm
  · cases hg : g n with
    | none => rw [show (g n).bind (h n) = none by rw [hg]; rfl] at e; cases e
    | some u =>
      have e : (g n).bind (h n) = some v := e
      rw [hg] at e
      rw [a.le n u hg]
      exact (b u).le n v e
theorem Ap.ifB {β : Type} (b : Bool) {g h : Nat → Option β} {r s : Option β} (x : Ap g r) (y : Ap h s) : Ap (fun n => ifB b (g n) (h n)) (ifB b r s) := by cases b <;> assumption
theorem Ap.pick2 {β : Type} (b : Bool) {g h : Nat → Option β} {r s : Option β} (x : Ap g r) (y : Ap h s) : Ap (fun n => pick2 b (g n) (h n)) (pick2 b r s) := by cases b <;> assumption
theorem Ap.gate {β : Type} (b c : Bool) {g h : Nat → Option β} {r s : Option β} (x : Ap g r) (y : Ap h s) : Ap (fun n => gate b c (g n) (h n)) (gate b c r s) := by
  cases b
  · exact Ap.ifB c y x
  · exact Ap.ifB c x y
theorem Ap.guardK {β : Type} (b : Bool) {g : Nat → Option β} {k : Option β} (h : Ap g k) : Ap (fun n => guardK b (g n)) (guardK b k) := by cases b <;> first | exact h | exact Ap.const _
theorem Ap.isBox {β : Type} (a : AV) {g : Nat → Option β} {k : Option β} (h : Ap g k) : Ap (fun n => isBox a (g n)) (isBox a k) := by cases a <;> first | exact h | exact Ap.const _
theorem Ap.isOwn {β : Type} (a : AV) {g : Nat → Option β} {k : Option β} (h : Ap g k) : Ap (fun n => isOwn a (g n)) (isOwn a k) := by cases a <;> first | exact h | exact Ap.const _
theorem Ap.refK {β : Type} (e : Env) (a : AV) {g : Nat → Option β} {k : Option β} (h : Ap g k) : Ap (fun n => refK e a (g n)) (refK e a k) := by cases a <;> first | exact h | exact Ap.isBox _ h | exact Ap.isOwn _ h
theorem Ap.asB {β : Type} (a : AV) {g : Nat → Bool → Option β} {k : Bool → Option β} (h : ∀ b, Ap (fun n => g n b) (k b)) : Ap (fun n => asB a (g n)) (asB a k) := by
  cases a <;> first | exact h _ | exact Ap.const _
theorem opnd_n {α : Type} (e : Env) (x : Operand) (g : AV → Option α) : opnd e x g = (opnd e x some).bind g := by rw [opnd_b]; rfl
theorem Ap.opnd {β : Type} (e : Env) (x : Operand) {g : Nat → AV → Option β} {k : AV → Option β} (h : ∀ b, Ap (fun n => g n b) (k b)) : Ap (fun n => opnd e x (g n)) (opnd e x k) := by
  have := Ap.bind (Ap.const (Abs.opnd e x some)) h
  simpa only [← opnd_n] using this

section
variable (τ : Tab) {c : Nat → Nat → List AV → Option AV} {call : Nat → List AV → Option AV} (hc : ∀ f l, Ap (fun n => c n f l) (call f l))
include hc
theorem val_ap1 (e : Env) (o : Oper) : Ap (fun n => val τ (c n) e o some) (val τ call e o some) := by
  obtain ⟨dst, op, ty, pos, after, guard⟩ := o
  by_cases h : ∃ f args ts, op = .call ⟨.value f, args, ts⟩
  · obtain ⟨f, args, ts, rfl⟩ := h
    refine Ap.opnd _ _ fun f => ?_
    cases f <;> first | exact Ap.const _ | skip
    rename_i f caps
    show Ap (fun n => opnds e args.toList fun l => castsA τ ts.toList l fun l => callK τ (c n) f (l ++ caps) ty some) _
    have h1 : ∀ (l : List AV), Ap (fun n => castsA τ ts.toList l fun l => callK τ (c n) f (l ++ caps) ty some) (castsA τ ts.toList l fun l => callK τ call f (l ++ caps) ty some) := fun l => by
      have := Ap.bind (h := fun n l => callK τ (c n) f (l ++ caps) ty some) (k := fun l => callK τ call f (l ++ caps) ty some) (Ap.const (castsA τ ts.toList l some)) fun l' => Ap.bind (hc f _) fun r => Ap.const (retK τ (τ.RO f) ty r some)
      simp only [castsA_b, Option.bind_some] at this
      exact this
    have := Ap.bind (Ap.const (opnds e args.toList some)) h1
    simp only [opnds_b, Option.bind_some] at this
    exact this
  · have : (fun n => val τ (c n) e ⟨dst, op, ty, pos, after, guard⟩ some) = fun _ => val τ call e ⟨dst, op, ty, pos, after, guard⟩ some := by
      funext n
      unfold val
      split <;> first
        | rfl
        | (exfalso; exact h ⟨_, _, _, by assumption⟩)
    rw [this]
    exact Ap.const _
theorem val_ap {β : Type} (e : Env) (o : Oper) {g : Nat → AV → Option β} {k : AV → Option β} (h : ∀ b, Ap (fun n => g n b) (k b)) : Ap (fun n => val τ (c n) e o (g n)) (val τ call e o k) := by
  have := Ap.bind (val_ap1 τ hc e o) h
  simpa only [← val_nat] using this
theorem step_ap1 (res : List Nat) (e : Env) (o : Oper) : Ap (fun n => step τ (c n) res e o some) (step τ call res e o some) := by
  by_cases h : ∀ call' : Nat → List AV → Option AV, step τ call' res e o some = val τ call' e o fun v => some (setH e o.dst v)
  · have : (fun n => step τ (c n) res e o some) = fun n => val τ (c n) e o fun v => some (setH e o.dst v) := funext fun n => h _
    rw [this, h]
    exact val_ap τ hc e o fun v => Ap.const _
  · have : (fun n => step τ (c n) res e o some) = fun _ => step τ call res e o some := by
      funext n
      unfold step
      split <;> first
        | rfl
        | (exfalso; refine h fun call' => ?_; unfold step; simp only [*]; done)
    rw [this]
    exact Ap.const _
theorem step_ap {β : Type} (res : List Nat) (e : Env) (o : Oper) {g : Nat → Env → Option β} {k : Env → Option β} (h : ∀ b, Ap (fun n => g n b) (k b)) : Ap (fun n => step τ (c n) res e o (g n)) (step τ call res e o k) := by
  have := Ap.bind (step_ap1 τ hc res e o) h
  simpa only [← step_nat] using this
theorem runHead_ap (all : List Oper) : ∀ (fu : Nat) (cur : Option (Nat × Bool)) (ops : List (Oper × Nat)) (e : Env) {β : Type} {g : Nat → Env → Option β} {k : Env → Option β},
    (∀ b, Ap (fun n => g n b) (k b)) → Ap (fun n => runHead τ (c n) all fu cur ops e (g n)) (runHead τ call all fu cur ops e k)
  | 0, _, _, _, _, _, _, _ => Ap.const _
  | fu + 1, _, [], e, _, _, _, h => h e
  | fu + 1, cur, (o, bad) :: r, e, _, g, k, h => by
    unfold runHead
    split
    · exact Ap.guardK _ (val_ap τ hc _ o fun v => Ap.refK _ _ (runHead_ap all fu cur r _ h))
    · split
      · exact Ap.const _
      · split
        · exact Ap.const _
        · split
          · exact Ap.const _
          · split
            · exact Ap.guardK _ (Ap.asB _ fun b => Ap.bind (Ap.gate _ _ (runHead_ap all fu _ _ _ fun e' => Ap.const _) (Ap.const _)) fun v => runHead_ap all fu cur _ _ h)
            · exact Ap.const _
theorem runOps_ap (res : List Nat) (all : List Oper) : ∀ (fu : Nat) (ops : List Oper) (e : Env) {β : Type} {g : Nat → Env → Option β} {k : Env → Option β},
    (∀ b, Ap (fun n => g n b) (k b)) → Ap (fun n => runOps τ (c n) res all fu ops e (g n)) (runOps τ call res all fu ops e k)
  | 0, _, _, _, _, _, _ => Ap.const _
  | fu + 1, [], e, _, _, _, h => h e
  | fu + 1, o :: r, e, _, g, k, h => by
    unfold runOps
    split
    · exact step_ap τ hc res e o fun e' => runOps_ap res all fu r e' h
    · split
      · exact Ap.const _
      · split
        · exact Ap.const _
        · exact Ap.guardK _ (runHead_ap τ hc all _ _ _ _ fun e' => runOps_ap res all fu _ e' h)
theorem regRun_ap (res : List Nat) (ops : List Oper) (draw : Bool) (e : Env) {β : Type} {g : Nat → Env → Option β} {k : Env → Option β}
    (h : ∀ b, Ap (fun n => g n b) (k b)) : Ap (fun n => regRun τ (c n) res ops draw e (g n)) (regRun τ call res ops draw e k) := by
  unfold regRun
  split
  · exact runOps_ap τ hc res _ _ _ _ h
  · split
    · exact runHead_ap τ hc _ _ _ _ _ fun e' => runOps_ap τ hc res _ _ _ _ h
    · exact Ap.const _
end

def KLe (K K' : Kont) : Prop := ∀ x e, Le (K x e) (K' x e)
def BLe (B B' : Env → Kont → Option AV) : Prop := ∀ e K K', KLe K K' → Le (B e K) (B' e K')
abbrev Lp := (Env → Env) → (Env → Kont → Option AV) → Kont → Env → Option AV
def LLe (lp lp' : Lp) : Prop := ∀ fg B B' K K' e, BLe B B' → BLe B' B' → KLe K K' → Le (lp fg B K e) (lp' fg B' K' e)
theorem seqK_le {r r' : Env → Option AV} {K K' : Kont} (h : ∀ e, Le (r e) (r' e)) (hk : KLe K K') : KLe (seqK r K) (seqK r' K') := fun x e => by
  cases x
  · exact h e
  · exact hk _ e
  · exact hk _ e
theorem blockK_le {id : Nat} {K K' : Kont} (hk : KLe K K') : KLe (blockK id K) (blockK id K') := fun x e => by
  cases x
  · exact hk _ e
  · show Le (pick2 _ _ _) (pick2 _ _ _)
    cases Nat.beq _ id
    · exact hk _ e
    · exact hk _ e
  · exact hk _ e
theorem iter_le (fg : Env → Env) {B B' : Env → Kont → Option AV} {K K' : Kont} (hb : BLe B B') (hk : KLe K K') : ∀ n m e, n ≤ m → Le (iter n fg B K e) (iter m fg B' K' e)
  | 0, _, _, _ => fun v h => by cases h
  | n + 1, m, e, h => by
    obtain ⟨m, rfl⟩ : ∃ k, m = k + 1 := ⟨m - 1, by omega⟩
    exact hb e _ _ (seqK_le (fun e => iter_le fg hb hk n m _ (by omega)) hk)
/-- A loop, without a bound. -/
noncomputable def lpω : Lp := fun fg B K e => limO fun n => iter n fg B K e
theorem lpω_ap (fg : Env → Env) {B : Env → Kont → Option AV} (hb : BLe B B) (K : Kont) (e : Env) : Ap (fun n => iter n fg B K e) (lpω fg B K e) :=
  ap_limO fun n m h => iter_le fg hb (fun _ _ => Le.refl _) n m e h
theorem iter_lle {n m : Nat} (h : n ≤ m) : LLe (iter n) (iter m) := fun fg B B' K K' e hb _ hk => iter_le fg hb hk n m e h
theorem iter_lpω (n : Nat) : LLe (iter n) lpω := fun fg B B' K K' e hb hb' hk => (iter_le fg hb hk n n e (Nat.le_refl _)).trans ((lpω_ap fg hb' K' e).le n)
theorem lpω_lle : LLe lpω lpω := fun fg B B' K K' e hb hb' hk v h => by
  have hb0 : BLe B B ∨ True := .inr trivial
  unfold lpω limO at h
  split at h
  · exact iter_lpω _ fg B B' K K' e hb hb' hk v h
  · cases h
section
variable (τ : Tab) (ann : Nat → Option (List Nat)) (res : List Nat)
theorem regRun_le {c c' : Nat → List AV → Option AV} (hc : ∀ f l, Le (c f l) (c' f l)) (ops : List Oper) (draw : Bool) (e : Env) {β : Type} {k k' : Env → Option β}
    (h : ∀ b, Le (k b) (k' b)) : Le (regRun τ c res ops draw e k) (regRun τ c' res ops draw e k') := by
  have hap : ∀ {γ : Type} {x y : Option γ}, Le x y → Ap (fun n => match n with | 0 => x | _ + 1 => y) y := fun {γ x y} hl =>
    ⟨fun n m hnm => by
      cases n with
      | zero => cases m with
        | zero => exact Le.refl _
        | succ m => exact hl
      | succ n => cases m with
        | zero => omega
        | succ m => exact Le.refl _, fun v => ⟨fun e => ⟨1, e⟩, fun ⟨n, e⟩ => by cases n with | zero => exact hl v e | succ n => exact e⟩⟩
  have h1 : ∀ f l, Ap (fun n => (match n with | 0 => c | _ + 1 => c') f l) (c' f l) := fun f l => by
    have := hap (hc f l)
    refine ⟨fun n m h => ?_, fun v => ?_⟩
    · have := this.up n m h; cases n <;> cases m <;> exact this
    · refine ⟨fun e => ⟨1, e⟩, fun ⟨n, e⟩ => ?_⟩
      cases n with
      | zero => exact hc f l v e
      | succ n => exact e
  have h2 : ∀ b, Ap (fun n => (match n with | 0 => k | _ + 1 => k') b) (k' b) := fun b => by
    have := hap (h b)
    refine ⟨fun n m h => ?_, fun v => ?_⟩
    · have := this.up n m h; cases n <;> cases m <;> exact this
    · refine ⟨fun e => ⟨1, e⟩, fun ⟨n, e⟩ => ?_⟩
      cases n with
      | zero => exact h b v e
      | succ n => exact e
  exact (regRun_ap τ h1 res ops draw e h2).le 0
theorem run_le {c c' : Nat → List AV → Option AV} {lp lp' : Lp} (hc : ∀ f l, Le (c f l) (c' f l)) (hl : LLe lp lp') (hl' : LLe lp' lp') : ∀ (cd : Code), BLe (run τ ann c res lp cd) (run τ ann c' res lp' cd)
  | .skip, e, K, K', hk => hk _ e
  | .region id ops draw, e, K, K', hk => regRun_le τ res hc _ _ _ fun b => hk _ b
  | .seq a b, e, K, K', hk => run_le hc hl hl' a e _ _ (seqK_le (fun e => run_le hc hl hl' b _ _ _ hk) hk)
  | .cond x a b, e, K, K', hk => by
    show Le (opnd e x fun x => asB x fun x => ifB x (run τ ann c res lp a e K) (run τ ann c res lp b e K)) (opnd e x fun x => asB x fun x => ifB x (run τ ann c' res lp' a e K') (run τ ann c' res lp' b e K'))
    rw [opnd_n, opnd_n e x fun x => asB x fun x => ifB x (run τ ann c' res lp' a e K') (run τ ann c' res lp' b e K')]
    refine Le.bind (Le.refl _) fun v => ?_
    cases v <;> first | exact Le.refl _ | skip
    rename_i t
    cases t
    · exact run_le hc hl hl' b e _ _ hk
    · exact run_le hc hl hl' a e _ _ hk
  | .block id a, e, K, K', hk => run_le hc hl hl' a e _ _ (blockK_le hk)
  | .loop a, e, K, K', hk => hl _ _ _ _ _ _ (run_le hc hl hl' a) (by
      have := run_le (c := c') (c' := c') (fun _ _ => Le.refl _) hl' hl' a
      exact this) hk
  | .exit id, e, K, K', hk => hk _ e
  | .ret, e, K, K', hk => hk _ e
  | .rangeFunc .., e, K, K', hk => Le.refl _
  | .scope .., e, K, K', hk => Le.refl _
  | .label .., e, K, K', hk => Le.refl _
  | .goto .., e, K, K', hk => Le.refl _
  | .refuse .., e, K, K', hk => Le.refl _

def ApK (Kn : Nat → Kont) (K : Kont) : Prop := ∀ x e, Ap (fun n => Kn n x e) (K x e)
structure ApB (Bn : Nat → Env → Kont → Option AV) (B : Env → Kont → Option AV) : Prop where
  up : ∀ n m, n ≤ m → BLe (Bn n) (Bn m)
  to : ∀ n, BLe (Bn n) B
  self : BLe B B
  ap : ∀ Kn K, ApK Kn K → ∀ e, Ap (fun n => Bn n e (Kn n)) (B e K)
theorem seqK_ap {r : Nat → Env → Option AV} {r' : Env → Option AV} {Kn : Nat → Kont} {K : Kont} (h : ∀ e, Ap (fun n => r n e) (r' e)) (hk : ApK Kn K) : ApK (fun n => seqK (r n) (Kn n)) (seqK r' K) := fun x e => by
  cases x
  · exact h e
  · exact hk _ e
  · exact hk _ e
theorem blockK_ap {id : Nat} {Kn : Nat → Kont} {K : Kont} (hk : ApK Kn K) : ApK (fun n => blockK id (Kn n)) (blockK id K) := fun x e => by
  cases x
  · exact hk _ e
  · exact Ap.pick2 _ (hk _ e) (hk _ e)
  · exact hk _ e
/-- Rounds in number and what they are made of grow together. -/
theorem iter_ap (fg : Env → Env) {Bn : Nat → Env → Kont → Option AV} {B : Env → Kont → Option AV} {Kn : Nat → Kont} {K : Kont} (hb : ApB Bn B) (hk : ApK Kn K) (e : Env) :
    Ap (fun n => iter n fg (Bn n) (Kn n) e) (lpω fg B K e) := by
  have h1 : ∀ m e, Ap (fun n => iter m fg (Bn n) (Kn n) e) (iter m fg B K e) := by
    intro m
    induction m with
    | zero => intro e; exact Ap.const _
    | succ m ih => intro e; exact hb.ap _ _ (seqK_ap (fun e => ih _) hk) e
  refine ⟨fun n m h => iter_le fg (hb.up n m h) (fun x e => (hk x e).up n m h) n m e h, fun v => ?_⟩
  rw [(lpω_ap fg hb.self K e).lim v]
  constructor
  · rintro ⟨m, hm⟩
    obtain ⟨n, hn⟩ := ((h1 m e).lim v).1 hm
    refine ⟨max m n, iter_le fg (hb.up n _ (Nat.le_max_right ..)) (fun x e => (hk x e).up n _ (Nat.le_max_right ..)) m _ e (Nat.le_max_left ..) v hn⟩
  · rintro ⟨n, hn⟩
    exact ⟨n, (h1 n e).le n v hn⟩
theorem run_apB {c : Nat → Nat → List AV → Option AV} {call : Nat → List AV → Option AV} (hc : ∀ f l, Ap (fun n => c n f l) (call f l)) : ∀ (cd : Code),
    ApB (fun n => run τ ann (c n) res (iter n) cd) (run τ ann call res lpω cd) := by
  intro cd
  refine ⟨fun n m h => run_le τ ann res (fun f l => (hc f l).up n m h) (iter_lle h) (iter_lle (Nat.le_refl _)) cd, fun n => run_le τ ann res (fun f l => (hc f l).le n) (iter_lpω n) lpω_lle cd,
    run_le τ ann res (fun _ _ => Le.refl _) lpω_lle lpω_lle cd, ?_⟩
  induction cd with
  | skip => exact fun Kn K hk e => hk _ e
  | region id ops draw =>
    intro Kn K hk e
    exact regRun_ap τ hc res _ _ _ fun b => hk _ b
  | seq a b iha ihb => exact fun Kn K hk e => iha _ _ (seqK_ap (fun e => ihb _ _ hk _) hk) e
  | cond x a b iha ihb =>
    exact fun Kn K hk e => Ap.opnd e x fun v => Ap.asB v fun t => Ap.ifB t (iha _ _ hk e) (ihb _ _ hk e)
  | block id a iha => exact fun Kn K hk e => iha _ _ (blockK_ap hk) e
  | loop a iha =>
    exact fun Kn K hk e => iter_ap _ ⟨fun n m h => run_le τ ann res (fun f l => (hc f l).up n m h) (iter_lle h) (iter_lle (Nat.le_refl _)) a, fun n => run_le τ ann res (fun f l => (hc f l).le n) (iter_lpω n) lpω_lle a,
      run_le τ ann res (fun _ _ => Le.refl _) lpω_lle lpω_lle a, iha⟩ hk _
  | exit id => exact fun Kn K hk e => hk _ e
  | ret => exact fun Kn K hk e => hk _ e
  | rangeFunc => exact fun Kn K hk e => Ap.const _
  | scope => exact fun Kn K hk e => Ap.const _
  | label => exact fun Kn K hk e => Ap.const _
  | goto => exact fun Kn K hk e => Ap.const _
  | refuse => exact fun Kn K hk e => Ap.const _
/-- One round more. -/
theorem lpω_eq {call : Nat → List AV → Option AV} (cd : Code) (fg : Env → Env) (K : Kont) (e : Env) :
    lpω fg (run τ ann call res lpω cd) K e = run τ ann call res lpω cd e (seqK (fun e' => lpω fg (run τ ann call res lpω cd) K (fg e')) K) := by
  have hs := run_le τ ann res (c := call) (c' := call) (fun _ _ => Le.refl _) lpω_lle lpω_lle cd
  have hb := run_apB τ ann res (c := fun _ => call) (call := call) (fun _ _ => Ap.const _) cd
  have h1 := lpω_ap fg hs K e
  have h2 : Ap (fun n => iter (n + 1) fg (run τ ann call res lpω cd) K e) (lpω fg (run τ ann call res lpω cd) K e) :=
    ⟨fun n m h => h1.up _ _ (by omega), fun v => (h1.lim v).trans ⟨fun ⟨n, h⟩ => ⟨n, h1.up n _ (by omega) v h⟩, fun ⟨n, h⟩ => ⟨n + 1, h⟩⟩⟩
  have hB : ApB (fun _ => run τ ann call res lpω cd) (run τ ann call res lpω cd) := by
    refine ⟨fun _ _ _ => hs, fun _ => hs, hs, ?_⟩
    intro Kn K hk e
    have h3 : ∀ m, Ap (fun n => run τ ann call res (iter n) cd e (Kn m)) (run τ ann call res lpω cd e (Kn m)) := fun m => hb.ap (fun _ => Kn m) (Kn m) (fun _ _ => Ap.const _) e
    have h4 := hb.ap Kn K hk e
    refine ⟨fun n m h => hs e _ _ fun x e => (hk x e).up n m h, fun v => ⟨fun hv => ?_, fun ⟨n, hn⟩ => ?_⟩⟩
    · obtain ⟨n, hn⟩ := (h4.lim v).1 hv
      exact ⟨n, (h3 n).le n v hn⟩
    · exact hs e _ _ (fun x e => (hk x e).le n) v hn
  have h5 := hB.ap _ _ (seqK_ap (r := fun n e' => iter n fg (run τ ann call res lpω cd) K (fg e')) (r' := fun e' => lpω fg (run τ ann call res lpω cd) K (fg e')) (Kn := fun _ => K) (K := K) (fun e' => lpω_ap fg hs K _) (fun _ _ => Ap.const _)) e
  exact h2.uniq h5
end

theorem acall_up (S : Sys) : ∀ n m f l, n ≤ m → Le (acall S n f l) (acall S m f l)
  | 0, _, _, _, _ => fun v h => by cases h
  | n + 1, m, f, l, h => by
    obtain ⟨m, rfl⟩ : ∃ k, m = k + 1 := ⟨m - 1, by omega⟩
    unfold acall
    split
    · exact Le.refl _
    · split
      · exact run_le S.τ _ _ (fun f l => acall_up S n m f l (by omega)) (iter_lle (by omega)) (iter_lle (Nat.le_refl _)) _ _ _ _ fun _ _ => Le.refl _
      · exact Le.refl _
/-- A call, without a bound on its steps. -/
noncomputable def ω (S : Sys) (f : Nat) (l : List AV) : Option AV := limO fun n => acall S n f l
theorem ω_ap (S : Sys) (f : Nat) (l : List AV) : Ap (fun n => acall S n f l) (ω S f l) := ap_limO fun n m h => acall_up S n m f l h
theorem ω_some {S : Sys} {f : Nat} {l : List AV} {v : AV} : ω S f l = some v ↔ ∃ n, acall S n f l = some v := (ω_ap S f l).lim v
theorem ω_eq (S : Sys) (f : Nat) (l : List AV) (d : FD) (hO : S.O f = none) (hF : S.F f = some d) : ω S f l = bodyRun S (ω S) lpω f d l := by
  have h1 := ω_ap S f l
  have h2 : Ap (fun n => acall S (n + 1) f l) (ω S f l) :=
    ⟨fun n m h => h1.up _ _ (by omega), fun v => (h1.lim v).trans ⟨fun ⟨n, h⟩ => ⟨n, h1.up n _ (by omega) v h⟩, fun ⟨n, h⟩ => ⟨n + 1, h⟩⟩⟩
  have h3 : Ap (fun n => acall S (n + 1) f l) (bodyRun S (ω S) lpω f d l) := by
    have := (run_apB S.τ (S.ann f) (resSlots d.rs) (ω_ap S) d.code).ap (fun _ => retV S.τ d.rs) (retV S.τ d.rs) (fun _ _ => Ap.const _) (look (argEnv 0 l))
    have e : (fun n => acall S (n + 1) f l) = fun n => run S.τ (S.ann f) (acall S n) (resSlots d.rs) (iter n) d.code (look (argEnv 0 l)) (retV S.τ d.rs) := by
      funext n; simp only [acall, hO, hF, bodyRun]
    rw [e]; exact this
  exact h2.uniq h3
theorem ω_O (S : Sys) (f : Nat) (l : List AV) (g : List AV → Option AV) (hO : S.O f = some g) : ω S f l = g l := by
  have h1 := ω_ap S f l
  have h2 : Ap (fun n => acall S (n + 1) f l) (ω S f l) :=
    ⟨fun n m h => h1.up _ _ (by omega), fun v => (h1.lim v).trans ⟨fun ⟨n, h⟩ => ⟨n, h1.up n _ (by omega) v h⟩, fun ⟨n, h⟩ => ⟨n + 1, h⟩⟩⟩
  have e : (fun n => acall S (n + 1) f l) = fun _ => g l := by funext n; simp only [acall, hO]
  rw [e] at h2
  exact h2.uniq (Ap.const _)

/-! ### Pieces of a body by name -/
/-- A cut: nothing but its word stops the kernel there. -/
theorem mk_is : ∃ mk : (Env → Option AV) → Env → Option AV, mk = fun r e => r e := ⟨_, rfl⟩
noncomputable def mkω : (Env → Option AV) → Env → Option AV := Classical.choose mk_is
theorem mkω_eq (r : Env → Option AV) (e : Env) : mkω r e = r e := congrFun (congrFun (Classical.choose_spec mk_is) r) e
theorem lp_is : ∃ lp : Lp, lp = lpω := ⟨_, rfl⟩
noncomputable def lpκ : Lp := Classical.choose lp_is
theorem lpκ_eq : lpκ = lpω := Classical.choose_spec lp_is
theorem ω_is : ∃ w : Sys → Nat → List AV → Option AV, w = ω := ⟨_, rfl⟩
noncomputable def ωκ : Sys → Nat → List AV → Option AV := Classical.choose ω_is
theorem ωκ_eq : ωκ = ω := Classical.choose_spec ω_is
noncomputable def fgM (ann : Nat → Option (List Nat)) (c : Code) (r : Env → Option AV) (e : Env) : Option AV := match firstR c with
  | some k => (match ann (k + 1000000) with | some L => mkω r (forget L e) | none => r e)
  | none => r e
theorem fgM_eq (ann : Nat → Option (List Nat)) (c : Code) (r : Env → Option AV) (e : Env) : fgM ann c r e = r (fgJ ann c e) := by
  unfold fgM fgJ
  cases firstR c with
  | none => rfl
  | some k =>
    dsimp only
    cases ann (k + 1000000) with
    | none => rfl
    | some L => exact mkω_eq _ _
section
variable (τ : Tab) (ann : Nat → Option (List Nat)) (call : Nat → List AV → Option AV) (res : List Nat) (lp : Lp)
noncomputable def runM : Code → Env → Kont → Option AV
  | .skip, e, K => K .normal e
  | .region id ops draw, e, K => regRun τ call res ops.toList draw e fun e' => K .normal e'
  | .seq a b, e, K => runM a e (seqK (fun e' => fgM ann b (fun e'' => runM b e'' K) e') K)
  | .cond c a b, e, K => opnd e c fun c => asB c fun c => ifB c (runM a e K) (runM b e K)
  | .block id c, e, K => runM c e (blockK id K)
  | .loop c, e, K => lp (fgOf ann c) (runM c) K (fgOf ann c e)
  | .exit id, e, K => K (.exit id) e
  | .ret, e, K => K .ret e
  | _, _, _ => none
noncomputable def kontM : Code → List Nat → Kont → Kont
  | _, [], K => K
  | .seq a b, i :: p, K => (match i with
    | 0 => kontM a p (seqK (fun e' => fgM ann b (fun e'' => runM τ ann call res lp b e'' K) e') K)
    | _ => kontM b p K)
  | .cond _ a b, i :: p, K => (match i with | 0 => kontM a p K | _ => kontM b p K)
  | .block id c, _ :: p, K => kontM c p (blockK id K)
  | .loop c, _ :: p, K => kontM c p (seqK (fun e' => lp (fgOf ann c) (runM τ ann call res lp c) K (fgOf ann c e')) K)
  | _, _, K => K
theorem runM_eq : ∀ (c : Code), runM τ ann call res lp c = run τ ann call res lp c
  | .skip => rfl
  | .region _ _ _ => rfl
  | .seq a b => by
    funext e K
    simp only [runM, run, runM_eq a, runM_eq b, fgM_eq]
  | .cond c a b => by funext e K; simp only [runM, run, runM_eq a, runM_eq b]
  | .block id c => by funext e K; simp only [runM, run, runM_eq c]
  | .loop c => by funext e K; simp only [runM, run, runM_eq c]
  | .exit _ => rfl
  | .ret => rfl
  | .rangeFunc .. => rfl
  | .scope .. => rfl
  | .label .. => rfl
  | .goto .. => rfl
  | .refuse .. => rfl
end
noncomputable def loopAt (S : Sys) (f : Nat) (d : FD) (p : List Nat) (e : Env) : Option AV :=
  lpκ (fgOf (S.ann f) (sub d.code (p ++ [0]))) (runM S.τ (S.ann f) (ωκ S) (resSlots d.rs) lpκ (sub d.code (p ++ [0]))) (kontM S.τ (S.ann f) (ωκ S) (resSlots d.rs) lpκ d.code p (retV S.τ d.rs)) e
noncomputable def joinAt (S : Sys) (f : Nat) (d : FD) (p : List Nat) (e : Env) : Option AV :=
  mkω (fun e' => runM S.τ (S.ann f) (ωκ S) (resSlots d.rs) lpκ (sub d.code (p ++ [1])) e' (kontM S.τ (S.ann f) (ωκ S) (resSlots d.rs) lpκ d.code p (retV S.τ d.rs))) e
theorem loopAt_eq (S : Sys) (f : Nat) (d : FD) (p : List Nat) (e : Env) : loopAt S f d p e =
    runM S.τ (S.ann f) (ωκ S) (resSlots d.rs) lpκ (sub d.code (p ++ [0])) e (seqK (fun e' => loopAt S f d p (fgOf (S.ann f) (sub d.code (p ++ [0])) e')) (kontM S.τ (S.ann f) (ωκ S) (resSlots d.rs) lpκ d.code p (retV S.τ d.rs))) := by
  unfold loopAt
  rw [lpκ_eq, runM_eq]
  exact lpω_eq ..
theorem joinAt_eq (S : Sys) (f : Nat) (d : FD) (p : List Nat) (e : Env) : joinAt S f d p e =
    runM S.τ (S.ann f) (ωκ S) (resSlots d.rs) lpκ (sub d.code (p ++ [1])) e (kontM S.τ (S.ann f) (ωκ S) (resSlots d.rs) lpκ d.code p (retV S.τ d.rs)) := mkω_eq _ _
def dstsOk (n : Nat) : Code → Bool
  | .region _ ops _ => ops.toList.all fun o => match o.dst with | some d => Nat.blt d n | none => true
  | .seq a b => dstsOk n a && dstsOk n b
  | .cond _ a b => dstsOk n a && dstsOk n b
  | .block _ c => dstsOk n c
  | .loop c => dstsOk n c
  | _ => true
def resKey : ResultVar → Nat
  | .tmp t => 2 * t
  | .cell s _ => 2 * s + 1
def nodupN : List Nat → Bool
  | [] => true
  | x :: r => !(r.any fun y => Nat.beq x y) && nodupN r
def toFD (fn : Func) : Option FD := match fn.body with
  | some c => pick2 (dstsOk fn.ntmps c && nodupN (fn.results.toList.map resKey) && !(fn.name == "runtime.NumGoroutine")) (some ⟨c, fn.results.toList, fn.ntmps⟩) none
  | none => none
/-- A call, piece by piece. -/
theorem ωκ_run (S : Sys) (f : Nat) (l : List AV) (d : FD) (hO : S.O f = none) (hF : S.F f = some d) :
    ωκ S f l = runM S.τ (S.ann f) (ωκ S) (resSlots d.rs) lpκ d.code (look (argEnv 0 l)) (retV S.τ d.rs) := by
  rw [ωκ_eq, lpκ_eq, runM_eq]
  exact ω_eq S f l d hO hF
abbrev w64 (x : Int) : Int := IntKind.wrap .i64 x
end Go.Proofs.YtffojfcinkihnaaGreatDoor.Abs
