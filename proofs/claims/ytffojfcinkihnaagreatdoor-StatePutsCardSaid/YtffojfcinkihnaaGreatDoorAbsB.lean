/- The reflective interpreter without a bound on its steps: its laws. -/
import Derived.Test.YtffojfcinkihnaaGreatDoorAbsA
set_option linter.unusedVariables false
set_option linter.unusedSimpArgs false
set_option linter.unusedSectionVars false
set_option linter.deprecated false
set_option linter.unnecessarySimpa false
namespace Go.Proofs.YtffojfcinkihnaaGreatDoor.Abs
set_option linter.unusedVariables false

section
variable {α β : Type} (k : α → Option β)
theorem ifB_b (b : Bool) (x y : Option α) : (ifB b x y).bind k = ifB b (x.bind k) (y.bind k) := by cases b <;> rfl
theorem guardK_b (b : Bool) (x : Option α) : (guardK b x).bind k = guardK b (x.bind k) := by cases b <;> rfl
theorem asB_b (a : AV) (g : Bool → Option α) : (asB a g).bind k = asB a fun x => (g x).bind k := by cases a <;> rfl
theorem asI_b (kd : IntKind) (a : AV) (g : Int → Option α) : (asI kd a g).bind k = asI kd a fun x => (g x).bind k := by cases a <;> first | rfl | exact guardK_b ..
theorem asN_b (a : AV) (g : Int → Option α) : (asN a g).bind k = asN a fun x => (g x).bind k := by cases a <;> rfl
theorem asS_b (a : AV) (g : List UInt8 → Option α) : (asS a g).bind k = asS a fun x => (g x).bind k := by cases a <;> rfl
theorem asL_b (sz : Nat) (a : AV) (g : List (List AV) → Option α) : (asL sz a g).bind k = asL sz a fun x => (g x).bind k := by cases a <;> first | rfl | exact guardK_b ..
theorem asO_b (sz : Nat) (a : AV) (g : List (List AV) → Option α) : (asO sz a g).bind k = asO sz a fun x => (g x).bind k := by cases a <;> first | rfl | exact guardK_b ..
theorem asC_b (sz : Nat) (a : AV) (g : List AV → Option α) : (asC sz a g).bind k = asC sz a fun x => (g x).bind k := by cases a <;> first | rfl | exact guardK_b ..
theorem asF_b (a : AV) (g : Nat → List AV → Option α) : (asF a g).bind k = asF a fun x y => (g x y).bind k := by cases a <;> rfl
theorem asT0_b (a : AV) (g : Option α) : (asT0 a g).bind k = asT0 a (g.bind k) := by unfold asT0; split <;> rfl
theorem asT2_b (a : AV) (g : AV → AV → Option α) : (asT2 a g).bind k = asT2 a fun x y => (g x y).bind k := by unfold asT2; split <;> rfl
theorem asT3_b (a : AV) (g : AV → AV → AV → Option α) : (asT3 a g).bind k = asT3 a fun x y z => (g x y z).bind k := by unfold asT3; split <;> rfl
theorem asT4_b (a : AV) (g : AV → AV → AV → AV → Option α) : (asT4 a g).bind k = asT4 a fun x y z u => (g x y z u).bind k := by unfold asT4; split <;> rfl
theorem getC_b (c : List AV) (off : Nat) (g : AV → Option α) : (getC c off g).bind k = getC c off fun x => (g x).bind k := by unfold getC; split <;> rfl
theorem getCs_b : ∀ (n : Nat) (c : List AV) (off : Nat) (g : List AV → Option α), (getCs n c off g).bind k = getCs n c off fun x => (g x).bind k
  | 0, _, _, _ => rfl
  | n + 1, c, off, g => by
    show (getC c off fun a => getCs n c (off + 1) fun r => g (a :: r)).bind k = _
    rw [getC_b]
    show _ = getC c off fun a => getCs n c (off + 1) fun r => (g (a :: r)).bind k
    exact congrArg _ (funext fun a => getCs_b n c (off + 1) fun r => g (a :: r))
theorem nz_b (a : AV) (g : AV → Option α) : (nz a g).bind k = nz a fun x => (g x).bind k := by cases a <;> rfl
theorem opnd_b (e : Env) (x : Operand) (g : AV → Option α) : (opnd e x g).bind k = opnd e x fun a => (g a).bind k := by cases x <;> first | rfl | exact nz_b ..
theorem opnds_b (e : Env) : ∀ (l : List Operand) (g : List AV → Option α), (opnds e l g).bind k = opnds e l fun a => (g a).bind k
  | [], _ => rfl
  | x :: l, g => by
    show (opnd e x fun a => opnds e l fun r => g (a :: r)).bind k = opnd e x fun a => opnds e l fun r => (g (a :: r)).bind k
    rw [opnd_b]; exact congrArg _ (funext fun a => opnds_b e l fun r => g (a :: r))
theorem idx_b {γ : Type} (l : List γ) (i : Int) (g : γ → Option α) : (idx l i g).bind k = idx l i fun x => (g x).bind k := by
  unfold idx; rw [guardK_b]; congr 1; split <;> rfl
theorem cut_b {γ : Type} (l : List γ) (i j : Int) (g : List γ → Option α) : (cut l i j g).bind k = cut l i j fun x => (g x).bind k := guardK_b ..
theorem cutFrom_b {γ : Type} (l : List γ) (i : Int) (g : List γ → Option α) : (cutFrom l i g).bind k = cutFrom l i fun x => (g x).bind k := guardK_b ..
theorem cutTo_b {γ : Type} (l : List γ) (i : Int) (g : List γ → Option α) : (cutTo l i g).bind k = cutTo l i fun x => (g x).bind k := guardK_b ..
theorem sliceOf_b {γ : Type} (e : Env) (l : List γ) (i j : Option Operand) (g : List γ → Option α) : (sliceOf e l i j g).bind k = sliceOf e l i j fun x => (g x).bind k := by
  cases i <;> cases j <;> simp only [sliceOf, opnd_b, asN_b, cut_b, cutFrom_b, cutTo_b]
theorem pick2_b (b : Bool) (x y : Option α) : (pick2 b x y).bind k = pick2 b (x.bind k) (y.bind k) := by cases b <;> rfl
theorem cellsOf_b (sz : Nat) (a : AV) (g : List AV → Option α) : (cellsOf sz a g).bind k = cellsOf sz a fun x => (g x).bind k := by cases a <;> first | rfl | exact guardK_b ..
variable (τ : Tab)
theorem szOf_b (t : Nat) (g : Nat → Option α) : (szOf τ t g).bind k = szOf τ t fun x => (g x).bind k := by unfold szOf; split <;> rfl
theorem sliceSz_b (t : Nat) (g : Nat → Option α) : (sliceSz τ t g).bind k = sliceSz τ t fun x => (g x).bind k := by unfold sliceSz; split <;> first | rfl | exact szOf_b ..
theorem cast_b (t : Nat) (a : AV) (g : AV → Option α) : (cast τ t a g).bind k = cast τ t a fun x => (g x).bind k := by
  unfold cast; split <;> simp only [asB_b, asI_b, asS_b, szOf_b, asL_b, asC_b, asF_b, Option.bind_none]
theorem castR_b (o : Bool) (t : Nat) (a : AV) (g : AV → Option α) : (castR τ o t a g).bind k = castR τ o t a fun x => (g x).bind k := by
  cases o <;> simp only [castR, sliceSz_b, asO_b, cast_b]
theorem castsA_b : ∀ (ts : List Nat) (l : List AV) (g : List AV → Option α), (castsA τ ts l g).bind k = castsA τ ts l fun x => (g x).bind k
  | [], [], _ => rfl
  | [], _ :: _, _ => rfl
  | _ :: _, [], _ => rfl
  | t :: ts, a :: l, g => by simp only [castsA, cast_b, castsA_b ts l]
theorem retK_b (o : List Bool) (t : Nat) (r : AV) (g : AV → Option α) : (retK τ o t r g).bind k = retK τ o t r fun x => (g x).bind k := by
  unfold retK; split
  · split <;> simp only [asT0_b, asT2_b, asT3_b, asT4_b, castR_b, Option.bind_none]
  · exact castR_b ..
theorem callK_b (call : Nat → List AV → Option AV) (f : Nat) (l : List AV) (t : Nat) (g : AV → Option α) : (callK τ call f l t g).bind k = callK τ call f l t fun x => (g x).bind k := by
  simp only [callK, Option.bind_assoc, retK_b]
theorem fillF_b (fs : List (Nat × Nat)) (e : Env) : ∀ (ps : List (Nat × Operand)) (z : List AV) (g : List AV → Option α), (fillF τ fs e ps z g).bind k = fillF τ fs e ps z fun x => (g x).bind k
  | [], _, _ => rfl
  | (i, x) :: r, z, g => by
    unfold fillF; split
    · rfl
    · simp only [opnd_b, cast_b, szOf_b, cellsOf_b, fillF_b fs e r]
theorem fillL_b (t : Nat) (e : Env) : ∀ (ps : List (Nat × Operand)) (z : List (List AV)) (g : List (List AV) → Option α), (fillL τ t e ps z g).bind k = fillL τ t e ps z fun x => (g x).bind k
  | [], _, _ => rfl
  | (i, x) :: r, z, g => by
    unfold fillL
    simp only [guardK_b, opnd_b, cast_b, szOf_b, cellsOf_b, fillL_b t e r]
theorem getB_b (c : List AV) (m : List (Nat × AV)) (off : Nat) (g : AV → Option α) : (getB c m off g).bind k = getB c m off fun x => (g x).bind k := by unfold getB; split <;> first | rfl | exact getC_b ..
theorem getBs_b : ∀ (n : Nat) (c : List AV) (m : List (Nat × AV)) (off : Nat) (g : List AV → Option α), (getBs n c m off g).bind k = getBs n c m off fun x => (g x).bind k
  | 0, _, _, _, _ => rfl
  | n + 1, c, m, off, g => by
    show (getB c m off fun a => getBs n c m (off + 1) fun r => g (a :: r)).bind k = _
    rw [getB_b]
    show _ = getB c m off fun a => getBs n c m (off + 1) fun r => (g (a :: r)).bind k
    exact congrArg _ (funext fun a => getBs_b n c m (off + 1) fun r => g (a :: r))
theorem sliceB_b (d off sz : Nat) (a : AV) (g : AV → Option α) : (sliceB d off sz a g).bind k = sliceB d off sz a fun x => (g x).bind k := by
  unfold sliceB; split <;> simp only [guardK_b, asL_b]
theorem loadBox_b (t d z : Nat) (c : List AV) (m : List (Nat × AV)) (off : Nat) (g : AV → Option α) : (loadBox τ t d z c m off g).bind k = loadBox τ t d z c m off fun x => (g x).bind k := by
  unfold loadBox; split <;> first | rfl | (simp only [pick2_b, getBs_b, getB_b, cast_b]; done) | (rw [szOf_b]; congr 1; funext sz; split <;> simp only [sliceB_b, getC_b, asL_b])
theorem loadElem_b (t z : Nat) (c : List AV) (off : Nat) (g : AV → Option α) : (loadElem τ t z c off g).bind k = loadElem τ t z c off fun x => (g x).bind k := by
  unfold loadElem; split <;> simp only [pick2_b, getCs_b, guardK_b, getC_b, cast_b]
theorem loadT_b (e : Env) (t s : Nat) (a : AV) (g : AV → Option α) : (loadT τ e t s g a).bind k = loadT τ e t s (fun x => (g x).bind k) a := by
  unfold loadT; split
  · exact loadBox_b ..
  · split
    · exact loadBox_b ..
    · rfl
  · exact loadElem_b ..
  · rfl
theorem load_b (e : Env) (t : Nat) (x : Operand) (g : AV → Option α) : (load τ e t x g).bind k = load τ e t x fun x => (g x).bind k := by
  unfold load; split
  · exact loadT_b ..
  · split
    · exact loadElem_b ..
    · rfl
  · rfl
theorem fieldAt_b (t f : Nat) (g : Nat → Nat → Option α) : (fieldAt τ t f g).bind k = fieldAt τ t f fun x y => (g x y).bind k := by
  unfold fieldAt; split
  · split <;> rfl
  · rfl
theorem isBox_b (a : AV) (x : Option α) : (isBox a x).bind k = isBox a (x.bind k) := by cases a <;> rfl
theorem fieldT_b (e : Env) (s off : Nat) (a : AV) (g : AV → Option α) : (fieldT e s off g a).bind k = fieldT e s off (fun x => (g x).bind k) a := by cases a <;> first | rfl | exact isBox_b ..
theorem fieldAddr_b (e : Env) (t : Nat) (x : Operand) (f : Nat) (g : AV → Option α) : (fieldAddr τ e t x f g).bind k = fieldAddr τ e t x f fun x => (g x).bind k := by
  simp only [fieldAddr, fieldAt_b]; congr 1; funext off _; split
  · exact fieldT_b ..
  · rfl
theorem binI_b (op : BinOp) (kd : IntKind) (x y : Int) (g : AV → Option α) : (binI op kd x y g).bind k = binI op kd x y fun x => (g x).bind k := by cases op <;> first | rfl | exact guardK_b ..
theorem shI_b (op : BinOp) (kd : IntKind) (x y : Int) (g : AV → Option α) : (shI op kd x y g).bind k = shI op kd x y fun x => (g x).bind k := by cases op <;> first | rfl | exact guardK_b ..
theorem binS_b (op : BinOp) (x y : List UInt8) (g : AV → Option α) : (binS op x y g).bind k = binS op x y fun x => (g x).bind k := by cases op <;> first | rfl | exact guardK_b ..
theorem binB_b (t : Nat) (op : BinOp) (x y : Bool) (g : AV → Option α) : (binB τ t op x y g).bind k = binB τ t op x y fun x => (g x).bind k := by unfold binB; split <;> rfl
theorem bin_b (t : Nat) (op : BinOp) (a b : AV) (g : AV → Option α) : (bin τ t op a b g).bind k = bin τ t op a b fun x => (g x).bind k := by
  unfold bin; split
  · split
    · exact shI_b ..
    · rw [guardK_b, binI_b]
  · exact binS_b ..
  · exact binB_b ..
  · rfl
theorem un_b (op : UnOp) (a : AV) (g : AV → Option α) : (un op a g).bind k = un op a fun x => (g x).bind k := by unfold un; split <;> rfl
theorem conv_b (t : Nat) (a : AV) (g : AV → Option α) : (conv τ t a g).bind k = conv τ t a fun x => (g x).bind k := by unfold conv; split <;> rfl
theorem bytesK_b (l : List (List AV)) (g : List UInt8 → Option α) : (bytesK l g).bind k = bytesK l fun x => (g x).bind k := by unfold bytesK; split <;> rfl
theorem u8K_b (t : Nat) (g : Option α) : (u8K τ t g).bind k = u8K τ t (g.bind k) := by
  unfold u8K; split
  · split <;> rfl
  · rfl
theorem convX_b (s t : Nat) (a : AV) (g : AV → Option α) : (convX τ s t a g).bind k = convX τ s t a fun x => (g x).bind k := by
  unfold convX
  cases isSl a with
  | false => exact conv_b ..
  | true =>
    show (convB τ s t a g).bind k = convB τ s t a fun x => (g x).bind k
    unfold convB; split
    · simp only [u8K_b, asL_b, bytesK_b]
    · rfl
theorem lenK_b (t : Nat) (a : AV) (g : AV → Option α) : (lenK τ t a g).bind k = lenK τ t a fun x => (g x).bind k := by
  unfold lenK; split <;> first | rfl | simp only [asS_b, szOf_b, asL_b]
theorem minK_b (m : Bool) (a b : AV) (g : AV → Option α) : (minK m a b g).bind k = minK m a b fun x => (g x).bind k := by unfold minK; split <;> rfl
theorem moveK_b (t : Nat) (x : Operand) (a : AV) (g : AV → Option α) : (moveK τ t x a g).bind k = moveK τ t x a fun x => (g x).bind k := by
  unfold moveK; split <;> first | rfl | exact cast_b ..
theorem assignK_b (t : Nat) (a : AV) (g : AV → Option α) : (assignK τ t a g).bind k = assignK τ t a fun x => (g x).bind k := by
  unfold assignK; split <;> first | rfl | exact sliceSz_b ..
theorem compK_b (i : Nat) (a : AV) (g : AV → Option α) : (compK i a g).bind k = compK i a fun x => (g x).bind k := by
  unfold compK; split <;> first | rfl | simp only [getC_b, nz_b]
theorem infoK_b (t : Nat) (g : TI → Option α) : (infoK τ t g).bind k = infoK τ t fun x => (g x).bind k := by unfold infoK; split <;> rfl
theorem structK_b (t : Nat) (g : List (Nat × Nat) → Nat → List AV → Option α) : (structK τ t g).bind k = structK τ t fun x y z => (g x y z).bind k := by unfold structK; split <;> rfl
theorem elemK_b (t : Nat) (g : Nat → Option α) : (elemK τ t g).bind k = elemK τ t fun x => (g x).bind k := by unfold elemK; split <;> rfl
theorem indexK_b (t : Nat) (a : AV) (i : Int) (g : AV → Option α) : (indexK τ t a i g).bind k = indexK τ t a i fun x => (g x).bind k := by
  unfold indexK; split <;> first | rfl | simp only [asS_b, idx_b, szOf_b, guardK_b, asC_b, cast_b]
theorem cutK_b (t : Nat) (e : Env) (a : AV) (i j : Option Operand) (g : AV → Option α) : (cutK τ t e a i j g).bind k = cutK τ t e a i j fun x => (g x).bind k := by
  unfold cutK; split <;> first | rfl | simp only [asS_b, szOf_b, asL_b, sliceOf_b]
theorem lenOp_b (e : Env) (c : Call) (g : AV → Option α) : (lenOp τ e c g).bind k = lenOp τ e c fun x => (g x).bind k := by
  unfold lenOp; split <;> first | rfl | simp only [opnd_b, lenK_b]
theorem minOp_b (m : Bool) (e : Env) (c : Call) (g : AV → Option α) : (minOp m e c g).bind k = minOp m e c fun x => (g x).bind k := by
  unfold minOp; split <;> first | rfl | simp only [opnd_b, minK_b]
theorem val_b (call : Nat → List AV → Option AV) (e : Env) (o : Oper) (g : AV → Option α) : (val τ call e o g).bind k = val τ call e o fun x => (g x).bind k := by
  unfold val; split <;> first
    | rfl
    | simp only [opnd_b, moveK_b, assignK_b, asB_b, ifB_b, cast_b, infoK_b, szOf_b, cellsOf_b, structK_b, fillF_b, elemK_b, fillL_b, load_b, fieldAddr_b, asC_b, fieldAt_b, loadElem_b, asL_b, asN_b, idx_b, indexK_b, cutK_b, bin_b, un_b, convX_b, compK_b, asF_b, opnds_b, lenOp_b, minOp_b, castsA_b, callK_b, guardK_b]
theorem takeT_b (e : Env) (sz s : Nat) (a : AV) (g : List (List AV) → Env → Option α) : (takeT e sz s g a).bind k = takeT e sz s (fun x y => (g x y).bind k) a := by
  cases a <;> first
    | rfl
    | (simp only [takeT, guardK_b, asO_b]; done)
    | (simp only [takeT]; split <;> simp only [getB_b, asO_b, Option.bind_none])
theorem takeH_b (e : Env) (sz : Nat) (x : Operand) (g : List (List AV) → Env → Option α) : (takeH e sz x g).bind k = takeH e sz x fun x y => (g x y).bind k := by
  unfold takeH; split <;> first | rfl | exact takeT_b ..
theorem putK_b (e : Env) (t d off bz sz : Nat) (c : List AV) (m : List (Nat × AV)) (x : Operand) (a : AV) (g : Env → Option α) : (putK τ e t d off bz sz c m x a g).bind k = putK τ e t d off bz sz c m x a fun x => (g x).bind k := by
  unfold putK; split <;> first | rfl | simp only [sliceSz_b, guardK_b, cast_b, cellsOf_b, pick2_b, getCs_b]
theorem storeBox_b (e : Env) (t d off bz : Nat) (c : List AV) (m : List (Nat × AV)) (x : Operand) (g : Env → Option α) : (storeBox τ e t d off bz c m x g).bind k = storeBox τ e t d off bz c m x fun x => (g x).bind k := by
  simp only [storeBox, opnd_b, szOf_b, guardK_b, putK_b]
theorem storeT_b (e : Env) (t s : Nat) (x : Operand) (a : AV) (g : Env → Option α) : (storeT τ e t s x g a).bind k = storeT τ e t s x (fun x => (g x).bind k) a := by
  unfold storeT; split
  · exact storeBox_b ..
  · split
    · exact storeBox_b ..
    · rfl
  · rfl
theorem giveK_b (res : List Nat) (e : Env) (t d : Nat) (x : Operand) (a : AV) (g : Env → Option α) : (giveK τ res e t d x a g).bind k = giveK τ res e t d x a fun x => (g x).bind k := by
  unfold giveK; split <;> first
    | rfl
    | exact sliceSz_b ..
    | (split <;> rfl)
theorem partT_b (e : Env) (d : Option Nat) (s i : Nat) (a : AV) (g : Env → Option α) : (partT e d s i g a).bind k = partT e d s i (fun x => (g x).bind k) a := by
  unfold partT; split
  · simp only [getC_b]; congr 1; funext a; split <;> first | rfl | exact nz_b ..
  · rfl
theorem moveS_b (e : Env) (t s d : Nat) (a : AV) (g : Env → Option α) : (moveS τ e t s d g a).bind k = moveS τ e t s d (fun x => (g x).bind k) a := by
  unfold moveS; split <;> first | rfl | simp only [nz_b, moveK_b]
theorem step_b (call : Nat → List AV → Option AV) (res : List Nat) (e : Env) (o : Oper) (g : Env → Option α) : (step τ call res e o g).bind k = step τ call res e o fun x => (g x).bind k := by
  unfold step; split <;> first
    | rfl
    | exact partT_b ..
    | exact moveS_b ..
    | exact storeT_b ..
    | simp only [opnd_b, giveK_b, sliceSz_b, asL_b, takeH_b, guardK_b, val_b]
end

theorem val_nat (τ : Tab) (call : Nat → List AV → Option AV) (e : Env) (o : Oper) {α : Type} (k : AV → Option α) : val τ call e o k = (val τ call e o some).bind k := by
  rw [val_b]; rfl
theorem step_nat (τ : Tab) (call : Nat → List AV → Option AV) (res : List Nat) (e : Env) (o : Oper) {α : Type} (k : Env → Option α) : step τ call res e o k = (step τ call res e o some).bind k := by
  rw [step_b]; rfl
end Go.Proofs.YtffojfcinkihnaaGreatDoor.Abs
