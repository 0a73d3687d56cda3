/- The reflective interpreter without a bound on its steps: its laws. -/
import Derived.Test.YtmdimhcjogjcgaaGreatDoorGaa
set_option linter.all false
noncomputable section
namespace Go.Proofs.YtmdimhcjogjcgaaGreatDoor.Abs
section
variable {α β : Type} (k : α → Option β)
theorem bg2 (b : Bool) (x y : Option α) : (ifB b x y).bind k = ifB b (x.bind k) (y.bind k) := by cases b <;> rfl
theorem fl (b : Bool) (x : Option α) : (aq b x).bind k = aq b (x.bind k) := by cases b <;> rfl
theorem a9r (a : AV) (g : Bool → Option α) : (asB a g).bind k = asB a fun x => (g x).bind k := by cases a <;> rfl
theorem bg3 (kd : IntKind) (a : AV) (g : Int → Option α) : (asI kd a g).bind k = asI kd a fun x => (g x).bind k := by cases a <;> first | rfl | exact fl ..
theorem arl (a : AV) (g : Int → Option α) : (asN a g).bind k = asN a fun x => (g x).bind k := by cases a <;> rfl
theorem arn (a : AV) (g : List UInt8 → Option α) : (asS a g).bind k = asS a fun x => (g x).bind k := by cases a <;> rfl
theorem ad2 (sz : Nat) (a : AV) (g : List (List AV) → Option α) : (asL sz a g).bind k = asL sz a fun x => (g x).bind k := by cases a <;> first | rfl | exact fl ..
theorem ayr (sz : Nat) (a : AV) (g : List (List AV) → Option α) : (asO sz a g).bind k = asO sz a fun x => (g x).bind k := by cases a <;> first | rfl | exact fl ..
theorem ays (sz : Nat) (a : AV) (g : List AV → Option α) : (asC sz a g).bind k = asC sz a fun x => (g x).bind k := by cases a <;> first | rfl | exact fl ..
theorem a9s (a : AV) (g : Nat → List AV → Option α) : (asF a g).bind k = asF a fun x y => (g x y).bind k := by cases a <;> rfl
theorem bc6 (a : AV) (g : Option α) : (anf a g).bind k = anf a (g.bind k) := by unfold anf; split <;> rfl
theorem bc7 (a : AV) (g : AV → AV → Option α) : (ja a g).bind k = ja a fun x y => (g x y).bind k := by unfold ja; split <;> rfl
theorem bc8 (a : AV) (g : AV → AV → AV → Option α) : (aj6 a g).bind k = aj6 a fun x y z => (g x y z).bind k := by unfold aj6; split <;> rfl
theorem bc9 (a : AV) (g : AV → AV → AV → AV → Option α) : (ang a g).bind k = ang a fun x y z u => (g x y z u).bind k := by unfold ang; split <;> rfl
theorem ae6 (c : List AV) (off : Nat) (g : AV → Option α) : (aa c off g).bind k = aa c off fun x => (g x).bind k := by unfold aa; split <;> rfl
theorem air : ∀ (n : Nat) (c : List AV) (off : Nat) (g : List AV → Option α), (yh n c off g).bind k = yh n c off fun x => (g x).bind k
 | 0, _, _, _ => rfl
 | n + 1, c, off, g => by
  show (aa c off fun a => yh n c (off + 1) fun r => g (a :: r)).bind k = _
  rw [ae6]
  show _ = aa c off fun a => yh n c (off + 1) fun r => (g (a :: r)).bind k
  exact congrArg _ (funext fun a => air n c (off + 1) fun r => g (a :: r))
theorem ar6 (a : AV) (g : AV → Option α) : (nz a g).bind k = nz a fun x => (g x).bind k := by cases a <;> rfl
theorem tr (e : Env) (x : Operand) (g : AV → Option α) : (ff e x g).bind k = ff e x fun a => (g a).bind k := by cases x <;> first | rfl | exact ar6 ..
theorem ank (e : Env) : ∀ (l : List Operand) (g : List AV → Option α), (zy e l g).bind k = zy e l fun a => (g a).bind k
 | [], _ => rfl
 | x :: l, g => by
  show (ff e x fun a => zy e l fun r => g (a :: r)).bind k = ff e x fun a => zy e l fun r => (g (a :: r)).bind k
  rw [tr]; exact congrArg _ (funext fun a => ank e l fun r => g (a :: r))
theorem ayt {γ : Type} (l : List γ) (i : Int) (g : γ → Option α) : (idx l i g).bind k = idx l i fun x => (g x).bind k := by
 unfold idx; rw [fl]; congr 1; split <;> rfl
theorem bg4 {γ : Type} (l : List γ) (i j : Int) (g : List γ → Option α) : (cut l i j g).bind k = cut l i j fun x => (g x).bind k := fl ..
theorem a0u {γ : Type} (l : List γ) (i : Int) (g : List γ → Option α) : (cutFrom l i g).bind k = cutFrom l i fun x => (g x).bind k := fl ..
theorem bao {γ : Type} (l : List γ) (i : Int) (g : List γ → Option α) : (aim l i g).bind k = aim l i fun x => (g x).bind k := fl ..
theorem a0v {γ : Type} (e : Env) (l : List γ) (i j : Option Operand) (g : List γ → Option α) : (ab1 e l i j g).bind k = ab1 e l i j fun x => (g x).bind k := by
 cases i <;> cases j <;> simp only [ab1, tr, arl, bg4, a0u, bao]
theorem ae7 (b : Bool) (x y : Option α) : (ag b x y).bind k = ag b (x.bind k) (y.bind k) := by cases b <;> rfl
theorem x7 (sz : Nat) (a : AV) (g : List AV → Option α) : (cellsOf sz a g).bind k = cellsOf sz a fun x => (g x).bind k := by cases a <;> first | rfl | exact fl ..
variable (τ : Tab)
theorem rq (t : Nat) (g : Nat → Option α) : (qt τ t g).bind k = qt τ t fun x => (g x).bind k := by unfold qt; split <;> rfl
theorem aat (t : Nat) (g : Nat → Option α) : (qd τ t g).bind k = qd τ t fun x => (g x).bind k := by unfold qd; split <;> first | rfl | exact rq ..
theorem tt (t : Nat) (a : AV) (g : AV → Option α) : (cast τ t a g).bind k = cast τ t a fun x => (g x).bind k := by
 unfold cast; split <;> simp only [a9r, bg3, arn, rq, ad2, ays, a9s, Option.bind_none]
theorem awo (o : Bool) (t : Nat) (a : AV) (g : AV → Option α) : (uq τ o t a g).bind k = uq τ o t a fun x => (g x).bind k := by
 cases o <;> simp only [uq, aat, ayr, tt]
theorem aj8 : ∀ (ts : List Nat) (l : List AV) (g : List AV → Option α), (wk τ ts l g).bind k = wk τ ts l fun x => (g x).bind k
 | [], [], _ => rfl
 | [], _ :: _, _ => rfl
 | _ :: _, [], _ => rfl
 | t :: ts, a :: l, g => by simp only [wk, tt, aj8 ts l]
theorem bda (o : List Bool) (t : Nat) (r : AV) (g : AV → Option α) : (aha τ o t r g).bind k = aha τ o t r fun x => (g x).bind k := by
 unfold aha; split
 ·split <;> simp only [bc6, bc7, bc8, bc9, awo, Option.bind_none]
 ·exact awo ..
theorem bap (call : Nat → List AV → Option AV) (f : Nat) (l : List AV) (t : Nat) (g : AV → Option α) : (aab τ call f l t g).bind k = aab τ call f l t fun x => (g x).bind k := by
 simp only [aab, Option.bind_assoc, bda]
theorem anl (fs : List (Nat × Nat)) (e : Env) : ∀ (ps : List (Nat × Operand)) (z : List AV) (g : List AV → Option α), (z8 τ fs e ps z g).bind k = z8 τ fs e ps z fun x => (g x).bind k
 | [], _, _ => rfl
 | (i, x) :: r, z, g => by
  unfold z8; split
  ·rfl
  ·simp only [tr, tt, rq, x7, anl fs e r]
theorem ais (t : Nat) (e : Env) : ∀ (ps : List (Nat × Operand)) (z : List (List AV)) (g : List (List AV) → Option α), (xi τ t e ps z g).bind k = xi τ t e ps z fun x => (g x).bind k
 | [], _, _ => rfl
 | (i, x) :: r, z, g => by
  unfold xi
  simp only [fl, tr, tt, rq, x7, ais t e r]
theorem alj (c : List AV) (m : List (Nat × AV)) (off : Nat) (g : AV → Option α) : (aba c m off g).bind k = aba c m off fun x => (g x).bind k := by unfold aba; split <;> first | rfl | exact ae6 ..
theorem awp : ∀ (n : Nat) (c : List AV) (m : List (Nat × AV)) (off : Nat) (g : List AV → Option α), (afq n c m off g).bind k = afq n c m off fun x => (g x).bind k
 | 0, _, _, _, _ => rfl
 | n + 1, c, m, off, g => by
  show (aba c m off fun a => afq n c m (off + 1) fun r => g (a :: r)).bind k = _
  rw [alj]
  show _ = aba c m off fun a => afq n c m (off + 1) fun r => (g (a :: r)).bind k
  exact congrArg _ (funext fun a => awp n c m (off + 1) fun r => g (a :: r))
theorem a5s (d off sz : Nat) (a : AV) (g : AV → Option α) : (sliceB d off sz a g).bind k = sliceB d off sz a fun x => (g x).bind k := by
 unfold sliceB; split <;> simp only [fl, ad2]
theorem ao2 (t d z : Nat) (c : List AV) (m : List (Nat × AV)) (off : Nat) (g : AV → Option α) : (vz τ t d z c m off g).bind k = vz τ t d z c m off fun x => (g x).bind k := by
 unfold vz; split <;> first | rfl | (simp only [ae7, awp, alj, tt]; done) | (rw [rq]; congr 1; funext sz; split <;> simp only [a5s, ae6, ad2])
theorem afw (t z : Nat) (c : List AV) (off : Nat) (g : AV → Option α) : (qu τ t z c off g).bind k = qu τ t z c off fun x => (g x).bind k := by
 unfold qu; split <;> simp only [ae7, air, fl, ae6, tt]
theorem baq (e : Env) (t s : Nat) (a : AV) (g : AV → Option α) : (loadT τ e t s g a).bind k = loadT τ e t s (fun x => (g x).bind k) a := by
 unfold loadT; split
 ·exact ao2 ..
 ·split
  ·exact ao2 ..
  ·rfl
 ·exact afw ..
 ·rfl
theorem bdb (e : Env) (t : Nat) (x : Operand) (g : AV → Option α) : (load τ e t x g).bind k = load τ e t x fun x => (g x).bind k := by
 unfold load; split
 ·exact baq ..
 ·split
  ·exact afw ..
  ·rfl
 ·rfl
theorem ao3 (t f : Nat) (g : Nat → Nat → Option α) : (fieldAt τ t f g).bind k = fieldAt τ t f fun x y => (g x y).bind k := by
 unfold fieldAt; split
 ·split <;> rfl
 ·rfl
theorem bar (a : AV) (x : Option α) : (aaa a x).bind k = aaa a (x.bind k) := by cases a <;> rfl
theorem a5t (e : Env) (s off : Nat) (a : AV) (g : AV → Option α) : (ahb e s off g a).bind k = ahb e s off (fun x => (g x).bind k) a := by cases a <;> first | rfl | exact bar ..
theorem av1 (e : Env) (t : Nat) (x : Operand) (f : Nat) (g : AV → Option α) : (fieldAddr τ e t x f g).bind k = fieldAddr τ e t x f fun x => (g x).bind k := by
 simp only [fieldAddr, ao3]; congr 1; funext off _; split
 ·exact a5t ..
 ·rfl
theorem bdc (op : BinOp) (kd : IntKind) (x y : Int) (g : AV → Option α) : (arz op kd x y g).bind k = arz op kd x y fun x => (g x).bind k := by cases op <;> first | rfl | exact fl ..
theorem bg5 (op : BinOp) (kd : IntKind) (x y : Int) (g : AV → Option α) : (shI op kd x y g).bind k = shI op kd x y fun x => (g x).bind k := by cases op <;> first | rfl | exact fl ..
theorem bdd (op : BinOp) (x y : List UInt8) (g : AV → Option α) : (ar0 op x y g).bind k = ar0 op x y fun x => (g x).bind k := by cases op <;> first | rfl | exact fl ..
theorem bde (t : Nat) (op : BinOp) (x y : Bool) (g : AV → Option α) : (ar1 τ t op x y g).bind k = ar1 τ t op x y fun x => (g x).bind k := by unfold ar1; split <;> rfl
theorem bg6 (t : Nat) (op : BinOp) (a b : AV) (g : AV → Option α) : (bin τ t op a b g).bind k = bin τ t op a b fun x => (g x).bind k := by
 unfold bin; split
 ·split
  ·exact bg5 ..
  ·rw [fl, bdc]
 ·exact bdd ..
 ·exact bde ..
 ·rfl
theorem bje (op : UnOp) (a : AV) (g : AV → Option α) : (un op a g).bind k = un op a fun x => (g x).bind k := by unfold un; split <;> rfl
theorem bdf (t : Nat) (a : AV) (g : AV → Option α) : (conv τ t a g).bind k = conv τ t a fun x => (g x).bind k := by unfold conv; split <;> rfl
theorem a5u (l : List (List AV)) (g : List UInt8 → Option α) : (tq l g).bind k = tq l fun x => (g x).bind k := by unfold tq; split <;> rfl
theorem bg7 (t : Nat) (g : Option α) : (u8K τ t g).bind k = u8K τ t (g.bind k) := by
 unfold u8K; split
 ·split <;> rfl
 ·rfl
theorem bas (s t : Nat) (a : AV) (g : AV → Option α) : (alc τ s t a g).bind k = alc τ s t a fun x => (g x).bind k := by
 unfold alc
 cases a5r a with
 | false => exact bdf ..
 | true =>
  show (ain τ s t a g).bind k = ain τ s t a fun x => (g x).bind k
  unfold ain; split
  ·simp only [bg7, ad2, a5u]
  ·rfl
theorem bdg (t : Nat) (a : AV) (g : AV → Option α) : (ar3 τ t a g).bind k = ar3 τ t a fun x => (g x).bind k := by
 unfold ar3; split <;> first | rfl | simp only [arn, rq, ad2]
theorem bdh (m : Bool) (a b : AV) (g : AV → Option α) : (ar4 m a b g).bind k = ar4 m a b fun x => (g x).bind k := by unfold ar4; split <;> rfl
theorem anm (t : Nat) (x : Operand) (a : AV) (g : AV → Option α) : (aac τ t x a g).bind k = aac τ t x a fun x => (g x).bind k := by
 unfold aac; split <;> first | rfl | exact tt ..
theorem a0w (t : Nat) (a : AV) (g : AV → Option α) : (ae3 τ t a g).bind k = ae3 τ t a fun x => (g x).bind k := by
 unfold ae3; split <;> first | rfl | exact aat ..
theorem bat (i : Nat) (a : AV) (g : AV → Option α) : (ald i a g).bind k = ald i a fun x => (g x).bind k := by
 unfold ald; split <;> first | rfl | simp only [ae6, ar6]
theorem bau (t : Nat) (g : TI → Option α) : (adz τ t g).bind k = adz τ t fun x => (g x).bind k := by unfold adz; split <;> rfl
theorem a0x (t : Nat) (g : List (Nat × Nat) → Nat → List AV → Option α) : (ab2 τ t g).bind k = ab2 τ t fun x y z => (g x y z).bind k := by unfold ab2; split <;> rfl
theorem awq (t : Nat) (g : Nat → Option α) : (afr τ t g).bind k = afr τ t fun x => (g x).bind k := by unfold afr; split <;> rfl
theorem a5v (t : Nat) (a : AV) (i : Int) (g : AV → Option α) : (ae4 τ t a i g).bind k = ae4 τ t a i fun x => (g x).bind k := by
 unfold ae4; split <;> first | rfl | simp only [arn, ayt, rq, fl, ays, tt]
theorem bdi (t : Nat) (e : Env) (a : AV) (i j : Option Operand) (g : AV → Option α) : (ar5 τ t e a i j g).bind k = ar5 τ t e a i j fun x => (g x).bind k := by
 unfold ar5; split <;> first | rfl | simp only [arn, rq, ad2, a0v]
theorem bav (e : Env) (c : Call) (g : AV → Option α) : (ale τ e c g).bind k = ale τ e c fun x => (g x).bind k := by
 unfold ale; split <;> first | rfl | simp only [tr, bdg]
theorem baw (m : Bool) (e : Env) (c : Call) (g : AV → Option α) : (afs m e c g).bind k = afs m e c fun x => (g x).bind k := by
 unfold afs; split <;> first | rfl | simp only [tr, bdh]
theorem bdj (m : List (Nat × Nat)) (sz : Nat) (c : List AV) (g : AV → Option α) : (ayo m sz c g).bind k = ayo m sz c fun x => (g x).bind k := by cases m <;> rfl
theorem a0y (e : Env) (t : Nat) (x i : Operand) (g : AV → Option α) : (ab3 τ e t x i g).bind k = ab3 τ e t x i fun a => (g a).bind k := by
 unfold ab3; split
 ·split <;> first | rfl | simp only [rq, fl, tr, arl, ayt]
 ·simp only [awq, rq, tr, ad2, arl, ayt]
theorem a9t (call : Nat → List AV → Option AV) (e : Env) (o : Oper) (g : AV → Option α) : (val τ call e o g).bind k = val τ call e o fun x => (g x).bind k := by
 unfold val; split <;> first
  | rfl
  | simp only [tr, anm, a0w, a9r, bg2, tt, bau, rq, x7, a0x, bdj, a0y, anl, awq, ais, bdb, av1, ays, ao3, afw, arl, a5v, bdi, bg6, bje, bas, bat, a9s, ank, bav, baw, aj8, bap, fl]
theorem bax (e : Env) (sz s : Nat) (a : AV) (g : List (List AV) → Env → Option α) : (alf e sz s g a).bind k = alf e sz s (fun x y => (g x y).bind k) a := by
 cases a <;> first
  | rfl
  | (simp only [alf, fl, ayr]; done)
  | (simp only [alf]; split <;> simp only [alj, ayr, Option.bind_none])
theorem bay (e : Env) (sz : Nat) (x : Operand) (g : List (List AV) → Env → Option α) : (aft e sz x g).bind k = aft e sz x fun x y => (g x y).bind k := by
 unfold aft; split <;> first | rfl | exact bax ..
theorem bdk (e : Env) (t d off bz sz : Nat) (c : List AV) (m : List (Nat × AV)) (x : Operand) (a : AV) (g : Env → Option α) : (afu τ e t d off bz sz c m x a g).bind k = afu τ e t d off bz sz c m x a fun x => (g x).bind k := by
 unfold afu; split <;> first | rfl | simp only [aat, fl, tt, x7, ae7, air]
theorem a5w (e : Env) (t d off bz sz : Nat) (c : List AV) (m : List (Nat × AV)) (x : Operand) (a : AV) (g : Env → Option α) : (ach τ e t d off bz sz c m x a g).bind k = ach τ e t d off bz sz c m x a fun x => (g x).bind k := by
 unfold ach; split <;> simp only [tt, x7, ae7, bdk]
theorem alk (e : Env) (t d off bz : Nat) (c : List AV) (m : List (Nat × AV)) (x : Operand) (g : Env → Option α) : (ox τ e t d off bz c m x g).bind k = ox τ e t d off bz c m x fun x => (g x).bind k := by
 simp only [ox, tr, rq, fl, a5w]
theorem a5x (e : Env) (t s : Nat) (x : Operand) (a : AV) (g : Env → Option α) : (storeT τ e t s x g a).bind k = storeT τ e t s x (fun x => (g x).bind k) a := by
 unfold storeT; split
 ·exact alk ..
 ·split
  ·exact alk ..
  ·rfl
 ·rfl
theorem baz (res : List Nat) (e : Env) (t d : Nat) (x : Operand) (a : AV) (g : Env → Option α) : (aio τ res e t d x a g).bind k = aio τ res e t d x a fun x => (g x).bind k := by
 unfold aio; split <;> first
  | rfl
  | exact aat ..
  | (split <;> rfl)
theorem ba0 (e : Env) (d : Option Nat) (s i : Nat) (a : AV) (g : Env → Option α) : (alg e d s i g a).bind k = alg e d s i (fun x => (g x).bind k) a := by
 unfold alg; split
 ·simp only [ae6]; congr 1; funext a; split <;> first | rfl | exact ar6 ..
 ·rfl
theorem ba1 (e : Env) (t s d : Nat) (a : AV) (g : Env → Option α) : (alh τ e t s d g a).bind k = alh τ e t s d (fun x => (g x).bind k) a := by
 unfold alh; split <;> first | rfl | simp only [ar6, anm]
theorem bdl (call : Nat → List AV → Option AV) (res : List Nat) (e : Env) (o : Oper) (g : Env → Option α) : (step τ call res e o g).bind k = step τ call res e o fun x => (g x).bind k := by
 unfold step; split <;> first
  | rfl
  | exact ba0 ..
  | exact ba1 ..
  | exact a5x ..
  | simp only [tr, baz, aat, ad2, bay, fl, a9t]
end
theorem a5y {α β : Type} (a : AV) (g : AV → Option α) (k : α → Option β) : (yi a g).bind k = yi a fun x => (g x).bind k := by cases a <;> rfl
theorem bdm {α β : Type} (e : Env) (x : Operand) (g : AV → Option α) (k : α → Option β) : (stOp e x g).bind k = stOp e x fun x => (g x).bind k := by
 unfold stOp; split <;> first | rfl | exact a5y ..
theorem ba2 (τ : Tab) {α β : Type} (t : Nat) (e : Env) (x : Operand) (b : AV) (g : AV → Option α) (k : α → Option β) : (sv τ t e x b g).bind k = sv τ t e x b fun x => (g x).bind k := by
 cases b <;> first
  | rfl
  | simp only [sv, bdm, rq, fl, tt, x7, ae7, air]
theorem ahe (τ : Tab) {α : Type} (t : Nat) (e : Env) (x : Operand) (b : AV) (k : AV → Option α) : sv τ t e x b k = (sv τ t e x b some).bind k := by
 rw [ba2]; rfl
theorem awr (τ : Tab) (call : Nat → List AV → Option AV) (e : Env) (o : Oper) {α : Type} (k : AV → Option α) : val τ call e o k = (val τ call e o some).bind k := by
 rw [a9t]; rfl
theorem ar7 (τ : Tab) (call : Nat → List AV → Option AV) (res : List Nat) (e : Env) (o : Oper) {α : Type} (k : Env → Option α) : step τ call res e o k = (step τ call res e o some).bind k := by
 rw [bdl]; rfl
end Go.Proofs.YtmdimhcjogjcgaaGreatDoor.Abs
