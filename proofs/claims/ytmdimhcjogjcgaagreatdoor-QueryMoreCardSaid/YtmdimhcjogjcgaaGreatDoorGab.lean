/- The reflective interpreter without a bound on its steps: its laws. -/
import Derived.Test.YtmdimhcjogjcgaaGreatDoorGaa
set_option linter.all false
noncomputable section
namespace Go.Proofs.YtmdimhcjogjcgaaGreatDoor.Abs
section
variable {α β : Type} (k : α → Option β)
theorem a3v (b : Bool) (x y : Option α) : (ifB b x y).bind k = ifB b (x.bind k) (y.bind k) := by cases b <;> rfl
theorem dj (b : Bool) (x : Option α) : (bh b x).bind k = bh b (x.bind k) := by cases b <;> rfl
theorem awz (a : AV) (g : Bool → Option α) : (asB a g).bind k = asB a fun x => (g x).bind k := by cases a <;> rfl
theorem a3w (kd : IntKind) (a : AV) (g : Int → Option α) : (asI kd a g).bind k = asI kd a fun x => (g x).bind k := by cases a <;> first | rfl | exact dj ..
theorem ajl (a : AV) (g : Int → Option α) : (asN a g).bind k = asN a fun x => (g x).bind k := by cases a <;> rfl
theorem ajm (a : AV) (g : List UInt8 → Option α) : (asS a g).bind k = asS a fun x => (g x).bind k := by cases a <;> rfl
theorem ye (sz : Nat) (a : AV) (g : List (List AV) → Option α) : (asL sz a g).bind k = asL sz a fun x => (g x).bind k := by cases a <;> first | rfl | exact dj ..
theorem aoz (sz : Nat) (a : AV) (g : List (List AV) → Option α) : (asO sz a g).bind k = asO sz a fun x => (g x).bind k := by cases a <;> first | rfl | exact dj ..
theorem ao0 (sz : Nat) (a : AV) (g : List AV → Option α) : (asC sz a g).bind k = asC sz a fun x => (g x).bind k := by cases a <;> first | rfl | exact dj ..
theorem aw0 (a : AV) (g : Nat → List AV → Option α) : (asF a g).bind k = asF a fun x y => (g x y).bind k := by cases a <;> rfl
theorem azu (a : AV) (g : Option α) : (af8 a g).bind k = af8 a (g.bind k) := by unfold af8; split <;> rfl
theorem azv (a : AV) (g : AV → AV → Option α) : (lg a g).bind k = lg a fun x y => (g x y).bind k := by unfold lg; split <;> rfl
theorem azw (a : AV) (g : AV → AV → AV → Option α) : (af9 a g).bind k = af9 a fun x y z => (g x y z).bind k := by unfold af9; split <;> rfl
theorem azx (a : AV) (g : AV → AV → AV → AV → Option α) : (aga a g).bind k = aga a fun x y z u => (g x y z u).bind k := by unfold aga; split <;> rfl
theorem zk (c : List AV) (off : Nat) (g : AV → Option α) : (ab c off g).bind k = ab c off fun x => (g x).bind k := by unfold ab; split <;> rfl
theorem acv : ∀ (n : Nat) (c : List AV) (off : Nat) (g : List AV → Option α), (ru n c off g).bind k = ru n c off fun x => (g x).bind k
 | 0, _, _, _ => rfl
 | n + 1, c, off, g => by
  show (ab c off fun a => ru n c (off + 1) fun r => g (a :: r)).bind k = _
  rw [zk]
  show _ = ab c off fun a => ru n c (off + 1) fun r => (g (a :: r)).bind k
  exact congrArg _ (funext fun a => acv n c (off + 1) fun r => g (a :: r))
theorem aj4 (a : AV) (g : AV → Option α) : (nz a g).bind k = nz a fun x => (g x).bind k := by cases a <;> rfl
theorem nj (e : Env) (x : Operand) (g : AV → Option α) : (de e x g).bind k = de e x fun a => (g a).bind k := by cases x <;> first | rfl | exact aj4 ..
theorem age (e : Env) : ∀ (l : List Operand) (g : List AV → Option α), (tt e l g).bind k = tt e l fun a => (g a).bind k
 | [], _ => rfl
 | x :: l, g => by
  show (de e x fun a => tt e l fun r => g (a :: r)).bind k = de e x fun a => tt e l fun r => (g (a :: r)).bind k
  rw [nj]; exact congrArg _ (funext fun a => age e l fun r => g (a :: r))
theorem ao1 {γ : Type} (l : List γ) (i : Int) (g : γ → Option α) : (idx l i g).bind k = idx l i fun x => (g x).bind k := by
 unfold idx; rw [dj]; congr 1; split <;> rfl
theorem a3x {γ : Type} (l : List γ) (i j : Int) (g : List γ → Option α) : (cut l i j g).bind k = cut l i j fun x => (g x).bind k := dj ..
theorem aqm {γ : Type} (l : List γ) (i : Int) (g : List γ → Option α) : (cutFrom l i g).bind k = cutFrom l i fun x => (g x).bind k := dj ..
theorem axg {γ : Type} (l : List γ) (i : Int) (g : List γ → Option α) : (acp l i g).bind k = acp l i fun x => (g x).bind k := dj ..
theorem aqn {γ : Type} (e : Env) (l : List γ) (i j : Option Operand) (g : List γ → Option α) : (wc e l i j g).bind k = wc e l i j fun x => (g x).bind k := by
 cases i <;> cases j <;> simp only [wc, nj, ajl, a3x, aqm, axg]
theorem zl (b : Bool) (x y : Option α) : (aa b x y).bind k = aa b (x.bind k) (y.bind k) := by cases b <;> rfl
theorem qw (sz : Nat) (a : AV) (g : List AV → Option α) : (cellsOf sz a g).bind k = cellsOf sz a fun x => (g x).bind k := by cases a <;> first | rfl | exact dj ..
variable (τ : Tab)
theorem lj (t : Nat) (g : Nat → Option α) : (ks τ t g).bind k = ks τ t fun x => (g x).bind k := by unfold ks; split <;> rfl
theorem uu (t : Nat) (g : Nat → Option α) : (ki τ t g).bind k = ki τ t fun x => (g x).bind k := by unfold ki; split <;> first | rfl | exact lj ..
theorem nk (t : Nat) (a : AV) (g : AV → Option α) : (cast τ t a g).bind k = cast τ t a fun x => (g x).bind k := by
 unfold cast; split <;> simp only [awz, a3w, ajm, lj, ye, ao0, aw0, Option.bind_none]
theorem anl (o : Bool) (t : Nat) (a : AV) (g : AV → Option α) : (ou τ o t a g).bind k = ou τ o t a fun x => (g x).bind k := by
 cases o <;> simp only [ou, uu, aoz, nk]
theorem ad0 : ∀ (ts : List Nat) (l : List AV) (g : List AV → Option α), (pr τ ts l g).bind k = pr τ ts l fun x => (g x).bind k
 | [], [], _ => rfl
 | [], _ :: _, _ => rfl
 | _ :: _, [], _ => rfl
 | t :: ts, a :: l, g => by simp only [pr, nk, ad0 ts l]
theorem azy (o : List Bool) (t : Nat) (r : AV) (g : AV → Option α) : (abh τ o t r g).bind k = abh τ o t r fun x => (g x).bind k := by
 unfold abh; split
 ·split <;> simp only [azu, azv, azw, azx, anl, Option.bind_none]
 ·exact anl ..
theorem axh (call : Nat → List AV → Option AV) (f : Nat) (l : List AV) (t : Nat) (g : AV → Option α) : (tw τ call f l t g).bind k = tw τ call f l t fun x => (g x).bind k := by
 simp only [tw, Option.bind_assoc, azy]
theorem agf (fs : List (Nat × Nat)) (e : Env) : ∀ (ps : List (Nat × Operand)) (z : List AV) (g : List AV → Option α), (tu τ fs e ps z g).bind k = tu τ fs e ps z fun x => (g x).bind k
 | [], _, _ => rfl
 | (i, x) :: r, z, g => by
  unfold tu; split
  ·rfl
  ·simp only [nj, nk, lj, qw, agf fs e r]
theorem acw (t : Nat) (e : Env) : ∀ (ps : List (Nat × Operand)) (z : List (List AV)) (g : List (List AV) → Option α), (qh τ t e ps z g).bind k = qh τ t e ps z fun x => (g x).bind k
 | [], _, _ => rfl
 | (i, x) :: r, z, g => by
  unfold qh
  simp only [dj, nj, nk, lj, qw, acw t e r]
theorem aex (c : List AV) (m : List (Nat × AV)) (off : Nat) (g : AV → Option α) : (vd c m off g).bind k = vd c m off fun x => (g x).bind k := by unfold vd; split <;> first | rfl | exact zk ..
theorem anm : ∀ (n : Nat) (c : List AV) (m : List (Nat × AV)) (off : Nat) (g : List AV → Option α), (zx n c m off g).bind k = zx n c m off fun x => (g x).bind k
 | 0, _, _, _, _ => rfl
 | n + 1, c, m, off, g => by
  show (vd c m off fun a => zx n c m (off + 1) fun r => g (a :: r)).bind k = _
  rw [aex]
  show _ = vd c m off fun a => zx n c m (off + 1) fun r => (g (a :: r)).bind k
  exact congrArg _ (funext fun a => anm n c m (off + 1) fun r => g (a :: r))
theorem atr (d off sz : Nat) (a : AV) (g : AV → Option α) : (sliceB d off sz a g).bind k = sliceB d off sz a fun x => (g x).bind k := by
 unfold sliceB; split <;> simp only [dj, ye]
theorem ahv (t d z : Nat) (c : List AV) (m : List (Nat × AV)) (off : Nat) (g : AV → Option α) : (pf τ t d z c m off g).bind k = pf τ t d z c m off fun x => (g x).bind k := by
 unfold pf; split <;> first | rfl | (simp only [zl, anm, aex, nk]; done) | (rw [lj]; congr 1; funext sz; split <;> simp only [atr, zk, ye])
theorem aab (t z : Nat) (c : List AV) (off : Nat) (g : AV → Option α) : (kt τ t z c off g).bind k = kt τ t z c off fun x => (g x).bind k := by
 unfold kt; split <;> simp only [zl, acv, dj, zk, nk]
theorem axi (e : Env) (t s : Nat) (a : AV) (g : AV → Option α) : (loadT τ e t s g a).bind k = loadT τ e t s (fun x => (g x).bind k) a := by
 unfold loadT; split
 ·exact ahv ..
 ·split
  ·exact ahv ..
  ·rfl
 ·exact aab ..
 ·rfl
theorem azz (e : Env) (t : Nat) (x : Operand) (g : AV → Option α) : (load τ e t x g).bind k = load τ e t x fun x => (g x).bind k := by
 unfold load; split
 ·exact axi ..
 ·split
  ·exact aab ..
  ·rfl
 ·rfl
theorem ahw (t f : Nat) (g : Nat → Nat → Option α) : (fieldAt τ t f g).bind k = fieldAt τ t f fun x y => (g x y).bind k := by
 unfold fieldAt; split
 ·split <;> rfl
 ·rfl
theorem axj (a : AV) (x : Option α) : (tv a x).bind k = tv a (x.bind k) := by cases a <;> rfl
theorem ats (e : Env) (s off : Nat) (a : AV) (g : AV → Option α) : (abi e s off g a).bind k = abi e s off (fun x => (g x).bind k) a := by cases a <;> first | rfl | exact axj ..
theorem am0 (e : Env) (t : Nat) (x : Operand) (f : Nat) (g : AV → Option α) : (fieldAddr τ e t x f g).bind k = fieldAddr τ e t x f fun x => (g x).bind k := by
 simp only [fieldAddr, ahw]; congr 1; funext off _; split
 ·exact ats ..
 ·rfl
theorem az0 (op : BinOp) (kd : IntKind) (x y : Int) (g : AV → Option α) : (ajx op kd x y g).bind k = ajx op kd x y fun x => (g x).bind k := by cases op <;> first | rfl | exact dj ..
theorem a3y (op : BinOp) (kd : IntKind) (x y : Int) (g : AV → Option α) : (shI op kd x y g).bind k = shI op kd x y fun x => (g x).bind k := by cases op <;> first | rfl | exact dj ..
theorem az1 (op : BinOp) (x y : List UInt8) (g : AV → Option α) : (ajy op x y g).bind k = ajy op x y fun x => (g x).bind k := by cases op <;> first | rfl | exact dj ..
theorem az2 (t : Nat) (op : BinOp) (x y : Bool) (g : AV → Option α) : (ajz τ t op x y g).bind k = ajz τ t op x y fun x => (g x).bind k := by unfold ajz; split <;> rfl
theorem a3z (t : Nat) (op : BinOp) (a b : AV) (g : AV → Option α) : (bin τ t op a b g).bind k = bin τ t op a b fun x => (g x).bind k := by
 unfold bin; split
 ·split
  ·exact a3y ..
  ·rw [dj, az0]
 ·exact az1 ..
 ·exact az2 ..
 ·rfl
theorem a6o (op : UnOp) (a : AV) (g : AV → Option α) : (un op a g).bind k = un op a fun x => (g x).bind k := by unfold un; split <;> rfl
theorem az3 (t : Nat) (a : AV) (g : AV → Option α) : (conv τ t a g).bind k = conv τ t a fun x => (g x).bind k := by unfold conv; split <;> rfl
theorem att (l : List (List AV)) (g : List UInt8 → Option α) : (abj l g).bind k = abj l fun x => (g x).bind k := by unfold abj; split <;> rfl
theorem a38 (t : Nat) (g : Option α) : (u8K τ t g).bind k = u8K τ t (g.bind k) := by
 unfold u8K; split
 ·split <;> rfl
 ·rfl
theorem axk (s t : Nat) (a : AV) (g : AV → Option α) : (aeq τ s t a g).bind k = aeq τ s t a fun x => (g x).bind k := by
 unfold aeq
 cases atq a with
 | false => exact az3 ..
 | true =>
  show (acq τ s t a g).bind k = acq τ s t a fun x => (g x).bind k
  unfold acq; split
  ·simp only [a38, ye, att]
  ·rfl
theorem az4 (t : Nat) (a : AV) (g : AV → Option α) : (aj1 τ t a g).bind k = aj1 τ t a fun x => (g x).bind k := by
 unfold aj1; split <;> first | rfl | simp only [ajm, lj, ye]
theorem az5 (m : Bool) (a b : AV) (g : AV → Option α) : (aj2 m a b g).bind k = aj2 m a b fun x => (g x).bind k := by unfold aj2; split <;> rfl
theorem agh (t : Nat) (x : Operand) (a : AV) (g : AV → Option α) : (tx τ t x a g).bind k = tx τ t x a fun x => (g x).bind k := by
 unfold tx; split <;> first | rfl | exact nk ..
theorem aqo (t : Nat) (a : AV) (g : AV → Option α) : (zh τ t a g).bind k = zh τ t a fun x => (g x).bind k := by
 unfold zh; split <;> first | rfl | exact uu ..
theorem axl (i : Nat) (a : AV) (g : AV → Option α) : (aer i a g).bind k = aer i a fun x => (g x).bind k := by
 unfold aer; split <;> first | rfl | simp only [zk, aj4]
theorem axm (t : Nat) (g : TI → Option α) : (yb τ t g).bind k = yb τ t fun x => (g x).bind k := by unfold yb; split <;> rfl
theorem aqp (t : Nat) (g : List (Nat × Nat) → Nat → List AV → Option α) : (we τ t g).bind k = we τ t fun x y z => (g x y z).bind k := by unfold we; split <;> rfl
theorem ano (t : Nat) (g : Nat → Option α) : (zy τ t g).bind k = zy τ t fun x => (g x).bind k := by unfold zy; split <;> rfl
theorem atu (t : Nat) (a : AV) (i : Int) (g : AV → Option α) : (zi τ t a i g).bind k = zi τ t a i fun x => (g x).bind k := by
 unfold zi; split <;> first | rfl | simp only [ajm, ao1, lj, dj, ao0, nk]
theorem az6 (t : Nat) (e : Env) (a : AV) (i j : Option Operand) (g : AV → Option α) : (aj3 τ t e a i j g).bind k = aj3 τ t e a i j fun x => (g x).bind k := by
 unfold aj3; split <;> first | rfl | simp only [ajm, lj, ye, aqn]
theorem axn (e : Env) (c : Call) (g : AV → Option α) : (aes τ e c g).bind k = aes τ e c fun x => (g x).bind k := by
 unfold aes; split <;> first | rfl | simp only [nj, az4]
theorem axo (m : Bool) (e : Env) (c : Call) (g : AV → Option α) : (z6 m e c g).bind k = z6 m e c fun x => (g x).bind k := by
 unfold z6; split <;> first | rfl | simp only [nj, az5]
theorem az7 (m : List (Nat × Nat)) (sz : Nat) (c : List AV) (g : AV → Option α) : (aow m sz c g).bind k = aow m sz c fun x => (g x).bind k := by cases m <;> rfl
theorem aqq (e : Env) (t : Nat) (x i : Operand) (g : AV → Option α) : (wg τ e t x i g).bind k = wg τ e t x i fun a => (g a).bind k := by
 unfold wg; split
 ·split <;> first | rfl | simp only [lj, dj, nj, ajl, ao1]
 ·simp only [ano, lj, nj, ye, ajl, ao1]
theorem aw1 (call : Nat → List AV → Option AV) (e : Env) (o : Oper) (g : AV → Option α) : (val τ call e o g).bind k = val τ call e o fun x => (g x).bind k := by
 unfold val; split <;> first
  | rfl
  | simp only [nj, agh, aqo, awz, a3v, nk, axm, lj, qw, aqp, az7, aqq, agf, ano, acw, azz, am0, ao0, ahw, aab, ajl, atu, az6, a3z, a6o, axk, axl, aw0, age, axn, axo, ad0, axh, dj]
theorem axp (e : Env) (sz s : Nat) (a : AV) (g : List (List AV) → Env → Option α) : (aet e sz s g a).bind k = aet e sz s (fun x y => (g x y).bind k) a := by
 cases a <;> first
  | rfl
  | (simp only [aet, dj, aoz]; done)
  | (simp only [aet]; split <;> simp only [aex, aoz, Option.bind_none])
theorem axq (e : Env) (sz : Nat) (x : Operand) (g : List (List AV) → Env → Option α) : (z8 e sz x g).bind k = z8 e sz x fun x y => (g x y).bind k := by
 unfold z8; split <;> first | rfl | exact axp ..
theorem az8 (e : Env) (t d off bz sz : Nat) (c : List AV) (m : List (Nat × AV)) (x : Operand) (a : AV) (g : Env → Option α) : (aaa τ e t d off bz sz c m x a g).bind k = aaa τ e t d off bz sz c m x a fun x => (g x).bind k := by
 unfold aaa; split <;> first | rfl | simp only [uu, dj, nk, qw, zl, acv]
theorem atv (e : Env) (t d off bz sz : Nat) (c : List AV) (m : List (Nat × AV)) (x : Operand) (a : AV) (g : Env → Option α) : (xa τ e t d off bz sz c m x a g).bind k = xa τ e t d off bz sz c m x a fun x => (g x).bind k := by
 unfold xa; split <;> simp only [nk, qw, zl, az8]
theorem aey (e : Env) (t d off bz : Nat) (c : List AV) (m : List (Nat × AV)) (x : Operand) (g : Env → Option α) : (jn τ e t d off bz c m x g).bind k = jn τ e t d off bz c m x fun x => (g x).bind k := by
 simp only [jn, nj, lj, dj, atv]
theorem atw (e : Env) (t s : Nat) (x : Operand) (a : AV) (g : Env → Option α) : (storeT τ e t s x g a).bind k = storeT τ e t s x (fun x => (g x).bind k) a := by
 unfold storeT; split
 ·exact aey ..
 ·split
  ·exact aey ..
  ·rfl
 ·rfl
theorem axr (res : List Nat) (e : Env) (t d : Nat) (x : Operand) (a : AV) (g : Env → Option α) : (acr τ res e t d x a g).bind k = acr τ res e t d x a fun x => (g x).bind k := by
 unfold acr; split <;> first
  | rfl
  | exact uu ..
  | (split <;> rfl)
theorem axs (e : Env) (d : Option Nat) (s i : Nat) (a : AV) (g : Env → Option α) : (aeu e d s i g a).bind k = aeu e d s i (fun x => (g x).bind k) a := by
 unfold aeu; split
 ·simp only [zk]; congr 1; funext a; split <;> first | rfl | exact aj4 ..
 ·rfl
theorem axt (e : Env) (t s d : Nat) (a : AV) (g : Env → Option α) : (aev τ e t s d g a).bind k = aev τ e t s d (fun x => (g x).bind k) a := by
 unfold aev; split <;> first | rfl | simp only [aj4, agh]
theorem az9 (call : Nat → List AV → Option AV) (res : List Nat) (e : Env) (o : Oper) (g : Env → Option α) : (step τ call res e o g).bind k = step τ call res e o fun x => (g x).bind k := by
 unfold step; split <;> first
  | rfl
  | exact axs ..
  | exact axt ..
  | exact atw ..
  | simp only [nj, axr, uu, ye, axq, dj, aw1]
end
theorem atx {α β : Type} (a : AV) (g : AV → Option α) (k : α → Option β) : (ry a g).bind k = ry a fun x => (g x).bind k := by cases a <;> rfl
theorem a0a {α β : Type} (e : Env) (x : Operand) (g : AV → Option α) (k : α → Option β) : (stOp e x g).bind k = stOp e x fun x => (g x).bind k := by
 unfold stOp; split <;> first | rfl | exact atx ..
theorem axu (τ : Tab) {α β : Type} (t : Nat) (e : Env) (x : Operand) (b : AV) (g : AV → Option α) (k : α → Option β) : (ml τ t e x b g).bind k = ml τ t e x b fun x => (g x).bind k := by
 cases b <;> first
  | rfl
  | simp only [ml, a0a, lj, dj, nk, qw, zl, acv]
theorem abm (τ : Tab) {α : Type} (t : Nat) (e : Env) (x : Operand) (b : AV) (k : AV → Option α) : ml τ t e x b k = (ml τ t e x b some).bind k := by
 rw [axu]; rfl
theorem anp (τ : Tab) (call : Nat → List AV → Option AV) (e : Env) (o : Oper) {α : Type} (k : AV → Option α) : val τ call e o k = (val τ call e o some).bind k := by
 rw [aw1]; rfl
theorem aj5 (τ : Tab) (call : Nat → List AV → Option AV) (res : List Nat) (e : Env) (o : Oper) {α : Type} (k : Env → Option α) : step τ call res e o k = (step τ call res e o some).bind k := by
 rw [az9]; rfl
end Go.Proofs.YtmdimhcjogjcgaaGreatDoor.Abs
