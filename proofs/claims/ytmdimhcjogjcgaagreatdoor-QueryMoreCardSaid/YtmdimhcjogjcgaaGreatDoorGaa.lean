/- The reflective interpreter: plain values, and what a function's code comes to on them. -/
import Derived.Control
set_option linter.all false
noncomputable section
namespace Go.Proofs.YtmdimhcjogjcgaaGreatDoor.Abs
inductive AV where
 | undef
 | nil
 | bool (b : Bool)
 | int (k : IntKind) (n : Int)
 | str (s : List UInt8)
 | sl (sz : Nat) (l : List (List AV))
 | own (sz : Nat) (l : List (List AV))
 | agg (sz : Nat) (l : List AV)
 | boxv (sz : Nat) (l : List AV) (m : List (Nat × AV))
 | eptr (sz : Nat) (l : List AV) (o : Nat)
 | fptr (d off : Nat)
 | vw (d : Nat) (sz : Nat) (l : List (List AV))
 | vwc (d off : Nat) (sz : Nat) (l : List (List AV))
 | tup (l : List AV)
 | fn (f : Nat) (caps : List AV)
 | lit (sz : Nat) (l : List AV) (m : List (Nat × Nat))
abbrev Env := Nat → AV
def aa {α : Type} (b : Bool) (x y : α) : α := match b with | true => x | false => y
def set (e : Env) (d : Nat) (v : AV) : Env := fun i => aa (Nat.beq i d) v (e i)
def y7 (e : Env) (d : Option Nat) (v : AV) : Env := match d with | some d => set e d v | none => e
def cl : AV → AV
 | .fptr _ _ => .undef
 | .vw _ sz l => .sl sz l
 | .vwc _ _ sz l => .sl sz l
 | a => a
def clean (e : Env) : Env := fun i => cl (e i)
def klv (d : Nat) : AV → AV
 | .fptr q off => aa (Nat.beq q d) .undef (.fptr q off)
 | .vw q sz l => aa (Nat.beq q d) (.sl sz l) (.vw q sz l)
 | .vwc q off sz l => aa (Nat.beq q d) (.sl sz l) (.vwc q off sz l)
 | a => a
def kill (d : Nat) (e : Env) : Env := fun i => klv d (e i)
def klc (d : Nat) : AV → AV
 | .vwc q off sz l => aa (Nat.beq q d) (.sl sz l) (.vwc q off sz l)
 | a => a
def ot (d : Nat) (e : Env) : Env := fun i => klc d (e i)
def look : List (Nat × AV) → Nat → AV
 | [], _ => .undef
 | (j, v) :: r, i => aa (Nat.beq i j) v (look r i)
def frz : AV → AV
 | .own sz l => .sl sz l
 | .vw _ sz l => .sl sz l
 | .vwc _ _ sz l => .sl sz l
 | a => a
def patch : List AV → List (Nat × AV) → List AV
 | c, [] => c
 | c, (o, a) :: r => (patch c r).set o (frz a)
def ovr : List (Nat × AV) → Nat → Option AV
 | [], _ => none
 | (o, a) :: r, i => aa (Nat.beq o i) (some a) (ovr r i)
def ox : List (Nat × AV) → Nat → List (Nat × AV)
 | [], _ => []
 | (o, a) :: r, i => aa (Nat.beq o i) (ox r i) ((o, a) :: ox r i)
def zw : Nat → List AV → List (Nat × AV) → List (Nat × AV)
 | _, [], m => m
 | o, a :: l, m => zw (o + 1) l ((o, a) :: ox m o)
def oy : Nat → List AV → List (Nat × AV)
 | _, [] => []
 | o, .own z l :: r => (o, .own z l) :: oy (o + 1) r
 | o, _ :: r => oy (o + 1) r
def rr : Nat → List (Nat × AV) → List (Nat × AV)
 | _, [] => []
 | S, (o, .own z l) :: r => aa (Nat.beq (Nat.land (Nat.shiftRight S o) 1) 1) (rr S r) ((o, .own z l) :: rr (S ||| 2 ^ o) r)
 | S, (o, _) :: r => rr (S ||| 2 ^ o) r
def ajh (m : List (Nat × AV)) : List (Nat × AV) := rr 0 m
def uo : List (Nat × AV) → List (Nat × AV)
 | [] => []
 | (_, .own _ _) :: r => uo r
 | x :: r => x :: uo r
def cn (a : AV) : AV := match cl a with
 | .boxv z c m => .boxv z (patch c (uo m)) (ajh m)
 | a => a
def forget (L : List Nat) (e : Env) : Env := look (L.map fun i => (i, cn (e i)))
def ikn : IntKind → Nat
 | .i8 => 0 | .i16 => 1 | .i32 => 2 | .i64 => 3 | .u8 => 4 | .u16 => 5 | .u32 => 6 | .u64 => 7
def ajw (a b : IntKind) : Bool := Nat.beq (ikn a) (ikn b)
section
variable {α : Type}
def ifB (b : Bool) (x y : Option α) : Option α := match b with | true => x | false => y
def bh (b : Bool) (k : Option α) : Option α := match b with | true => k | false => none
def asB (a : AV) (k : Bool → Option α) : Option α := match a with | .bool b => k b | _ => none
def asI (kd : IntKind) (a : AV) (k : Int → Option α) : Option α := match a with | .int k' n => bh (ajw k' kd) (k n) | _ => none
def asN (a : AV) (k : Int → Option α) : Option α := match a with | .int _ n => k n | _ => none
def asS (a : AV) (k : List UInt8 → Option α) : Option α := match a with | .str s => k s | _ => none
def asL (sz : Nat) (a : AV) (k : List (List AV) → Option α) : Option α := match a with
 | .nil => k []
 | .sl s l => bh (Nat.beq s sz) (k l)
 | .own s l => bh (Nat.beq s sz) (k l)
 | .vw _ s l => bh (Nat.beq s sz) (k l)
 | .vwc _ _ s l => bh (Nat.beq s sz) (k l)
 | _ => none
def asO (sz : Nat) (a : AV) (k : List (List AV) → Option α) : Option α := match a with
 | .own s l => bh (Nat.beq s sz) (k l)
 | _ => none
def asC (sz : Nat) (a : AV) (k : List AV → Option α) : Option α := match a with | .agg s c => bh (Nat.beq s sz) (k c) | _ => none
def af8 (a : AV) (k : Option α) : Option α := match a with | .tup [] => k | _ => none
def lg (a : AV) (k : AV → AV → Option α) : Option α := match a with | .tup [x, y] => k x y | _ => none
def af9 (a : AV) (k : AV → AV → AV → Option α) : Option α := match a with | .tup [x, y, z] => k x y z | _ => none
def aga (a : AV) (k : AV → AV → AV → AV → Option α) : Option α := match a with | .tup [x, y, z, u] => k x y z u | _ => none
def asF (a : AV) (k : Nat → List AV → Option α) : Option α := match a with | .fn f c => k f c | _ => none
def ab (c : List AV) (off : Nat) (k : AV → Option α) : Option α := match c[off]? with | some a => k a | none => none
def ru : Nat → List AV → Nat → (List AV → Option α) → Option α
 | 0, _, _, k => k []
 | n + 1, c, off, k => ab c off fun a => ru n c (off + 1) fun r => k (a :: r)
end
inductive TK where
 | bool | int (k : IntKind) | str | slice (e : Nat) | struct (fs : List (Nat × Nat)) | func | tuple (ts : List Nat) | array (n e : Nat)
structure TI where
 k : TK
 sz : Nat
 bytes : Nat
 zero : List AV
structure Tab where
 T : Nat → Option TI
 RO : Nat → List Bool
 G : Nat → Option (List AV)
 U : Nat → Option (List Nat)
def lim : Nat := 1099511627776
section
variable (τ : Tab) {α : Type}
def ks (t : Nat) (k : Nat → Option α) : Option α := match τ.T t with | some i => k i.sz | none => none
def ki (t : Nat) (k : Nat → Option α) : Option α := match τ.T t with
 | some ⟨.slice e, _, _, _⟩ => ks τ e k
 | _ => none
def cast (t : Nat) (a : AV) (k : AV → Option α) : Option α := match τ.T t with
 | some ⟨.bool, _, _, _⟩ => asB a fun b => k (.bool b)
 | some ⟨.int kd, _, _, _⟩ => asI kd a fun n => k (.int kd n)
 | some ⟨.str, _, _, _⟩ => asS a fun s => k (.str s)
 | some ⟨.slice e, _, _, _⟩ => ks τ e fun sz => asL sz a fun l => k (.sl sz l)
 | some ⟨.struct _, sz, _, _⟩ => asC sz a fun c => k (.agg sz c)
 | some ⟨.array _ _, sz, _, _⟩ => asC sz a fun c => k (.agg sz c)
 | some ⟨.func, _, _, _⟩ => asF a fun f c => k (.fn f c)
 | _ => none
def ou (o : Bool) (t : Nat) (a : AV) (k : AV → Option α) : Option α := match o with
 | true => ki τ t fun sz => asO sz a fun l => k (.own sz l)
 | false => cast τ t a k
def pr : List Nat → List AV → (List AV → Option α) → Option α
 | [], [], k => k []
 | t :: ts, a :: l, k => cast τ t a fun a' => pr ts l fun l' => k (a' :: l')
 | _, _, _ => none
def abh (o : List Bool) (t : Nat) (r : AV) (k : AV → Option α) : Option α := match τ.U t with
 | some ts => (match ts with
  | [] => af8 r (k (.tup []))
  | [t0, t1] => lg r fun a0 a1 => ou τ (o.getD 0 false) t0 a0 fun b0 => ou τ (o.getD 1 false) t1 a1 fun b1 => k (.tup [b0, b1])
  | [t0, t1, t2] => af9 r fun a0 a1 a2 => ou τ (o.getD 0 false) t0 a0 fun b0 => ou τ (o.getD 1 false) t1 a1 fun b1 => ou τ (o.getD 2 false) t2 a2 fun b2 => k (.tup [b0, b1, b2])
  | [t0, t1, t2, t3] => aga r fun a0 a1 a2 a3 => ou τ (o.getD 0 false) t0 a0 fun b0 => ou τ (o.getD 1 false) t1 a1 fun b1 => ou τ (o.getD 2 false) t2 a2 fun b2 => ou τ (o.getD 3 false) t3 a3 fun b3 => k (.tup [b0, b1, b2, b3])
  | _ => none)
 | none => ou τ (o.getD 0 false) t r k
def cv : Value → AV
 | .bool b => .bool b
 | .int k n => .int k n
 | .string s => .str s.data.toList
 | .slice none 0 0 => .nil
 | .func (.func f) _ _ => .undef
 | _ => .undef
def nz (a : AV) (k : AV → Option α) : Option α := match a with | .undef => none | a => k a
def kj : AV → AV
 | .lit sz l _ => .agg sz l
 | a => a
def de (e : Env) (x : Operand) (k : AV → Option α) : Option α := match x with
 | .tmp t => nz (kj (e t)) k
 | .const v => nz (cv v) k
 | .global _ => none
 | .func f => k (.fn f [])
def tt (e : Env) : List Operand → (List AV → Option α) → Option α
 | [], k => k []
 | x :: xs, k => de e x fun a => tt e xs fun l => k (a :: l)
def cellsOf (sz : Nat) (a : AV) (k : List AV → Option α) : Option α := match a with
 | .agg s c => bh (Nat.beq s sz) (k c)
 | .bool b => k [.bool b] | .int kd n => k [.int kd n] | .str s => k [.str s]
 | .sl s l => k [.sl s l] | .fn f c => k [.fn f c]
 | _ => none
def ni (z : List AV) (off : Nat) (c : List AV) : List AV := z.take off ++ (c ++ z.drop (off + c.length))
def tu (fs : List (Nat × Nat)) (e : Env) : List (Nat × Operand) → List AV → (List AV → Option α) → Option α
 | [], z, k => k z
 | (i, x) :: r, z, k => match fs[i]? with
  | none => none
  | some (off, t) => de e x fun a => cast τ t a fun a' => ks τ t fun sz => cellsOf sz a' fun c => tu fs e r (ni z off c) k
def qh (t : Nat) (e : Env) : List (Nat × Operand) → List (List AV) → (List (List AV) → Option α) → Option α
 | [], z, k => k z
 | (i, x) :: r, z, k => bh (Nat.blt i z.length) (de e x fun a => cast τ t a fun a' => ks τ t fun sz => cellsOf sz a' fun c => qh t e r (z.set i c) k)
def vd (c : List AV) (m : List (Nat × AV)) (off : Nat) (k : AV → Option α) : Option α := match ovr m off with
 | some a => k a
 | none => ab c off k
def zx : Nat → List AV → List (Nat × AV) → Nat → (List AV → Option α) → Option α
 | 0, _, _, _, k => k []
 | n + 1, c, m, off, k => vd c m off fun a => zx n c m (off + 1) fun r => k (a :: r)
def sliceB (d off sz : Nat) (a : AV) (k : AV → Option α) : Option α := match a with
 | .own s l => bh (Nat.beq s sz) (k (.vwc d off sz l))
 | a => asL sz a fun l => k (.sl sz l)
def pf (t d : Nat) (z : Nat) (c : List AV) (m : List (Nat × AV)) (off : Nat) (k : AV → Option α) : Option α := match τ.T t with
 | some ⟨.struct _, sz, _, _⟩ => aa (Nat.beq off 0 && Nat.beq z sz) (k (.agg sz (patch c m))) (zx sz c m off fun c' => k (.agg sz (c'.map frz)))
 | some ⟨.slice e, _, _, _⟩ => ks τ e fun sz => (match ovr m off with
  | some a => sliceB d off sz a k
  | none => ab c off fun a => asL sz a fun l => k (.sl sz l))
 | some ⟨.array _ _, _, _, _⟩ => none
 | _ => vd c m off fun a => cast τ t a k
def kt (t : Nat) (z : Nat) (c : List AV) (off : Nat) (k : AV → Option α) : Option α := match τ.T t with
 | some ⟨.struct _, sz, _, _⟩ => aa (Nat.beq off 0 && Nat.beq z sz) (k (.agg sz c)) (ru sz c off fun c' => k (.agg sz c'))
 | some ⟨.array _ _, sz, _, _⟩ => bh (Nat.beq off 0 && Nat.beq z sz) (k (.agg sz c))
 | _ => ab c off fun a => cast τ t a k
def loadT (e : Env) (t s : Nat) (k : AV → Option α) : AV → Option α
 | .boxv z c m => pf τ t s z c m 0 k
 | .fptr d off => (match e d with | .boxv z c m => pf τ t d z c m off k | _ => none)
 | .eptr z c off => kt τ t z c off k
 | _ => none
def load (e : Env) (t : Nat) (x : Operand) (k : AV → Option α) : Option α := match x with
 | .tmp s => loadT τ e t s k (e s)
 | .global g => (match τ.G g with | some c => kt τ t c.length c 0 k | none => none)
 | _ => none
def fieldAt (t f : Nat) (k : Nat → Nat → Option α) : Option α := match τ.T t with
 | some ⟨.struct fs, _, _, _⟩ => (match fs[f]? with | some (off, ft) => k off ft | none => none)
 | _ => none
def tv (a : AV) (k : Option α) : Option α := match a with | .boxv _ _ _ => k | _ => none
def abi (e : Env) (s off : Nat) (k : AV → Option α) : AV → Option α
 | .boxv _ _ _ => k (.fptr s off)
 | .fptr d o => tv (e d) (k (.fptr d (o + off)))
 | .eptr z c o => k (.eptr z c (o + off))
 | _ => none
def fieldAddr (e : Env) (t : Nat) (x : Operand) (f : Nat) (k : AV → Option α) : Option α := fieldAt τ t f fun off _ => match x with
 | .tmp s => abi e s off k (e s)
 | _ => none
def idx {β : Type} (l : List β) (i : Int) (k : β → Option α) : Option α := bh (decide (0 ≤ i)) (match l[i.toNat]? with | some c => k c | none => none)
def cut {β : Type} (l : List β) (lo hi : Int) (k : List β → Option α) : Option α :=
 bh (decide (0 ≤ lo) && decide (lo ≤ hi) && decide (hi ≤ l.length)) (k ((l.take hi.toNat).drop lo.toNat))
def cutFrom {β : Type} (l : List β) (lo : Int) (k : List β → Option α) : Option α :=
 bh (decide (0 ≤ lo) && decide (lo ≤ l.length)) (k (l.drop lo.toNat))
def acp {β : Type} (l : List β) (hi : Int) (k : List β → Option α) : Option α :=
 bh (decide (0 ≤ hi) && decide (hi ≤ l.length)) (k (l.take hi.toNat))
def wc {β : Type} (e : Env) (l : List β) (lo hi : Option Operand) (k : List β → Option α) : Option α := match lo, hi with
 | none, none => k l
 | some a, none => de e a fun a => asN a fun a => cutFrom l a k
 | none, some b => de e b fun b => asN b fun b => acp l b k
 | some a, some b => de e a fun a => asN a fun a => de e b fun b => asN b fun b => cut l a b k
def ai : List UInt8 → List UInt8 → Bool
 | _, [] => false
 | [], _ :: _ => true
 | a :: x, b :: y => decide (a < b) || (a == b && ai x y)
def aji (op : BinOp) (kd : IntKind) (x y : Int) : Int :=
 let a := BitVec.ofInt kd.bits x
 let b := BitVec.ofInt kd.bits y
 kd.wrap (match op with | .and => (a &&& b).toNat | .or => (a ||| b).toNat | .xor => (a ^^^ b).toNat | _ => (a &&& ~~~b).toNat : Nat)
def ajx (op : BinOp) (kd : IntKind) (x y : Int) (k : AV → Option α) : Option α := match op with
 | .add => k (.int kd (kd.wrap (x + y)))
 | .sub => k (.int kd (kd.wrap (x - y)))
 | .mul => k (.int kd (kd.wrap (x * y)))
 | .quo => bh (!decide (y = 0)) (k (.int kd (kd.wrap (x.tdiv y))))
 | .rem => bh (!decide (y = 0)) (k (.int kd (x.tmod y)))
 | .eql => k (.bool (decide (x = y)))
 | .neq => k (.bool (!decide (x = y)))
 | .lss => k (.bool (decide (x < y)))
 | .leq => k (.bool (decide (x ≤ y)))
 | .gtr => k (.bool (decide (y < x)))
 | .geq => k (.bool (decide (y ≤ x)))
 | .and => k (.int kd (aji .and kd x y))
 | .or => k (.int kd (aji .or kd x y))
 | .xor => k (.int kd (aji .xor kd x y))
 | .andNot => k (.int kd (aji .andNot kd x y))
 | _ => none
def shI (op : BinOp) (kd : IntKind) (x y : Int) (k : AV → Option α) : Option α := match op with
 | .shl => bh (decide (0 ≤ y)) (k (.int kd (kd.wrap (x * 2 ^ (min y.toNat kd.bits)))))
 | .shr => bh (decide (0 ≤ y)) (k (.int kd (x.fdiv (2 ^ (min y.toNat kd.bits)))))
 | _ => none
def a6l (op : BinOp) : Bool := match op with | .shl => true | .shr => true | _ => false
def ajy (op : BinOp) (x y : List UInt8) (k : AV → Option α) : Option α := match op with
 | .add => bh (Nat.ble (x.length + y.length) lim) (k (.str (x ++ y)))
 | .eql => k (.bool (decide (x = y)))
 | .neq => k (.bool (!decide (x = y)))
 | .lss => k (.bool (ai x y))
 | .leq => k (.bool (ai x y || decide (x = y)))
 | .gtr => k (.bool (!(ai x y || decide (x = y))))
 | .geq => k (.bool (!ai x y))
 | _ => none
def ajz (t : Nat) (op : BinOp) (x y : Bool) (k : AV → Option α) : Option α := match τ.T t, op with
 | some ⟨.bool, _, _, _⟩, .eql => k (.bool (x == y))
 | some ⟨.bool, _, _, _⟩, .neq => k (.bool (!(x == y)))
 | _, _ => none
def bin (t : Nat) (op : BinOp) (a b : AV) (k : AV → Option α) : Option α := match a, b with
 | .int k1 x, .int k2 y => (match a6l op with | true => shI op k1 x y k | false => bh (ajw k1 k2) (ajx op k1 x y k))
 | .str x, .str y => ajy op x y k
 | .bool x, .bool y => ajz τ t op x y k
 | _, _ => none
def un (op : UnOp) (a : AV) (k : AV → Option α) : Option α := match op, a with
 | .not, .bool b => k (.bool (!b))
 | .neg, .int kd n => k (.int kd (kd.wrap (0 - n)))
 | _, _ => none
def aj0 : TK → Bool
 | .tuple _ => false
 | _ => true
def conv (dst : Nat) (a : AV) (k : AV → Option α) : Option α := match τ.T dst, a with
 | some ⟨.int kd, _, _, _⟩, .int _ n => k (.int kd (kd.wrap n))
 | some ⟨.str, _, _, _⟩, .str s => k (.str s)
 | _, _ => none
def atq (a : AV) : Bool := match a with
 | .sl _ _ => true | .own _ _ => true | .vw _ _ _ => true | .vwc _ _ _ _ => true | .nil => true | _ => false
def bytesOf : List (List AV) → Option (List UInt8)
 | [] => some []
 | [.int .u8 n] :: r => (match bytesOf r with | some l => some (UInt8.ofNat n.toNat :: l) | none => none)
 | _ => none
def abj (l : List (List AV)) (k : List UInt8 → Option α) : Option α := match bytesOf l with | some s => k s | none => none
def u8K (src : Nat) (k : Option α) : Option α := match τ.T src with
 | some ⟨.slice e, _, _, _⟩ => (match τ.T e with | some ⟨.int .u8, _, _, _⟩ => k | _ => none)
 | _ => none
def acq (src dst : Nat) (a : AV) (k : AV → Option α) : Option α := match τ.T dst with
 | some ⟨.str, _, _, _⟩ => u8K τ src (asL 1 a fun l => abj l fun s => k (.str s))
 | _ => none
def aeq (src dst : Nat) (a : AV) (k : AV → Option α) : Option α := aa (atq a) (acq τ src dst a k) (conv τ dst a k)
def tw (call : Nat → List AV → Option AV) (f : Nat) (args : List AV) (t : Nat) (k : AV → Option α) : Option α :=
 (call f args).bind fun r => abh τ (τ.RO f) t r k
def aj1 (t : Nat) (a : AV) (k : AV → Option α) : Option α := match τ.T t with
 | some ⟨.str, _, _, _⟩ => asS a fun s => k (.int .i64 s.length)
 | some ⟨.slice e, _, _, _⟩ => ks τ e fun sz => asL sz a fun l => k (.int .i64 l.length)
 | some ⟨.array n _, _, _, _⟩ => k (.int .i64 n)
 | _ => none
def aj2 (mx : Bool) (a b : AV) (k : AV → Option α) : Option α := match a, b with
 | .int k1 x, .int _ y => k (.int k1 (aa mx (max x y) (min x y)))
 | _, _ => none
def a3u : AV → Bool
 | .undef => false
 | .agg _ _ => false
 | .lit _ _ _ => false
 | .boxv _ _ _ => false
 | .fptr _ _ => false
 | .tup _ => false
 | _ => true
def tx (t : Nat) (x : Operand) (a : AV) (k : AV → Option α) : Option α := match x, a with
 | .tmp s, .own sz l => k (.vw s sz l)
 | _, .own _ _ => none
 | _, .boxv _ _ _ => none
 | _, .tup _ => none
 | _, .nil => cast τ t .nil k
 | _, a => k a
def zh (t : Nat) (a : AV) (k : AV → Option α) : Option α := match a with
 | .own _ _ => none
 | .boxv _ _ _ => none
 | .fptr _ _ => none
 | .tup _ => none
 | .nil => ki τ t fun sz => k (.own sz [])
 | a => k (cl a)
def aer (i : Nat) (a : AV) (k : AV → Option α) : Option α := match a with
 | .tup l => ab l i fun a => nz (frz a) k
 | _ => none
def yb (t : Nat) (k : TI → Option α) : Option α := match τ.T t with | some i => k i | none => none
def we (t : Nat) (k : List (Nat × Nat) → Nat → List AV → Option α) : Option α := match τ.T t with
 | some ⟨.struct fs, sz, _, z⟩ => k fs sz z
 | _ => none
def zy (t : Nat) (k : Nat → Option α) : Option α := match τ.T t with
 | some ⟨.slice e, _, _, _⟩ => k e
 | _ => none
def zi (t : Nat) (a : AV) (i : Int) (k : AV → Option α) : Option α := match τ.T t with
 | some ⟨.str, _, _, _⟩ => asS a fun s => idx s i fun c => k (.int .u8 c.toNat)
 | some ⟨.array n t', sz, _, _⟩ => ks τ t' fun z => bh (Nat.beq z 1 && Nat.beq sz n) (asC sz a fun c => idx c i fun c => cast τ t' c k)
 | _ => none
def aj3 (t : Nat) (e : Env) (a : AV) (lo hi : Option Operand) (k : AV → Option α) : Option α := match τ.T t with
 | some ⟨.str, _, _, _⟩ => asS a fun s => wc e s lo hi fun s => k (.str s)
 | some ⟨.slice t', _, _, _⟩ => ks τ t' fun sz => asL sz a fun l => wc e l lo hi fun l => k (.sl sz l)
 | _ => none
def aes (e : Env) (c : Call) (k : AV → Option α) : Option α := match c.args.toList, c.argTypes.toList with
 | [x], [t] => de e x fun a => aj1 τ t a k
 | _, _ => none
def z6 (mx : Bool) (e : Env) (c : Call) (k : AV → Option α) : Option α := match c.args.toList with
 | [x, y] => de e x fun a => de e y fun b => aj2 mx a b k
 | _ => none
def aql (fs : List (Nat × Nat)) (i j : Nat) : Bool := match fs[i]? with
 | some (off, t) => (match τ.T t with | some ti => Nat.ble off j && Nat.blt j (off + ti.sz) | none => true)
 | none => true
def isSet (fs : List (Nat × Nat)) : List (Nat × Operand) → Nat → Bool
 | [], _ => false
 | (i, _) :: r, j => aql τ fs i j || isSet fs r j
def y8 (fs : List (Nat × Nat)) (ps : List (Nat × Operand)) : Nat → List AV → List (Nat × Nat)
 | _, [] => []
 | j, .own z _ :: r => aa (isSet τ fs ps j) (y8 fs ps (j + 1) r) ((j, z) :: y8 fs ps (j + 1) r)
 | j, _ :: r => y8 fs ps (j + 1) r
def aow (m : List (Nat × Nat)) (sz : Nat) (c : List AV) (k : AV → Option α) : Option α := match m with
 | [] => k (.agg sz c)
 | m => k (.lit sz c m)
def wg (e : Env) (t : Nat) (x i : Operand) (k : AV → Option α) : Option α := match x with
 | .global g => (match τ.T t, τ.G g with
  | some ⟨.array n t', _, _, _⟩, some c => ks τ t' fun z => bh (Nat.beq z 1 && Nat.beq c.length n) (de e i fun i => asN i fun i => idx c i fun a => k (.eptr 1 [a] 0))
  | _, _ => none)
 | x => zy τ t fun t' => ks τ t' fun sz => de e x fun a => asL sz a fun l => de e i fun i => asN i fun i => idx l i fun c => k (.eptr sz c 0)
def val (call : Nat → List AV → Option AV) (e : Env) (o : Oper) (k : AV → Option α) : Option α := match o.op with
 | .move x => de e x fun a => tx τ o.type x a k
 | .assign x => de e x fun a => zh τ o.type a k
 | .pick c a b => de e c fun c => asB c fun c => ifB c (de e a fun v => cast τ o.type v k) (de e b fun v => cast τ o.type v k)
 | .alloc t => yb τ t fun i => k (.boxv i.sz (i.zero.map frz) (oy 0 i.zero))
 | .box t x => de e x fun a => cast τ t a fun a => ks τ t fun sz => cellsOf sz a fun c => k (.boxv sz c [])
 | .build t ps => we τ t fun fs sz z => tu τ fs e ps.toList (z.map frz) fun c => aow (y8 τ fs ps.toList 0 z) sz c k
 | .buildSlice t n ps => zy τ t fun t' => yb τ t' fun i => bh (Nat.ble (n * i.sz) 16777216) (qh τ t' e ps.toList (List.replicate n (i.zero.map frz)) fun l => k (.own i.sz l))
 | .load t x => load τ e t x k
 | .fieldAddr t x f => fieldAddr τ e t x f k
 | .field t x f => de e x fun a => ks τ t fun sz => asC sz a fun c => fieldAt τ t f fun off ft => kt τ ft sz c off k
 | .indexAddr t x i => wg τ e t x i k
 | .index t x i => de e x fun a => de e i fun i => asN i fun i => zi τ t a i k
 | .slice t x lo hi none => de e x fun a => aj3 τ t e a lo hi k
 | .binOp op t x y _ => de e x fun a => de e y fun b => bin τ t op a b k
 | .unOp op _ x => de e x fun a => un op a k
 | .convert src dst x => de e x fun a => yb τ src fun i => bh (aj0 i.k) (aeq τ src dst a k)
 | .extract x i => de e x fun a => aer i a k
 | .nilCheck x => de e x fun a => asF a fun f c => k (.fn f c)
 | .makeFunc (.func f) ⟨[]⟩ caps => tt e caps.toList fun cs => bh (cs.all a3u) (k (.fn f (cs.map frz)))
 | .call ⟨.builtin .len, args, ts⟩ => aes τ e ⟨.builtin .len, args, ts⟩ k
 | .call ⟨.builtin .min, args, ts⟩ => z6 false e ⟨.builtin .min, args, ts⟩ k
 | .call ⟨.builtin .max, args, ts⟩ => z6 true e ⟨.builtin .max, args, ts⟩ k
 | .call ⟨.value f, args, ts⟩ => de e f fun f => asF f fun f caps => tt e args.toList fun l => pr τ ts.toList l fun l => tw τ call f (l ++ caps) o.type k
 | _ => none
def holds : AV → Bool
 | .own _ _ => true
 | .boxv _ _ _ => true
 | _ => false
def j5 (e : Env) (d : Option Nat) (v : AV) : Env := match d with
 | none => e
 | some d => aa (holds v) (set (kill d e) d v) (set e d v)
def aet (e : Env) (sz s : Nat) (k : List (List AV) → Env → Option α) : AV → Option α
 | .own z l => bh (Nat.beq z sz) (k l (set e s (.sl z l)))
 | .vw q _ _ => asO sz (e q) fun l => k l (set (set e q (.sl sz l)) s (.sl sz l))
 | .vwc q off _ _ => (match e q with
  | .boxv bz c m => vd c m off fun a => asO sz a fun l => k l (set (ot q (set e q (.boxv bz c ((off, .sl sz l) :: ox m off)))) s (.sl sz l))
  | _ => none)
 | .nil => k [] e
 | _ => none
def z8 (e : Env) (sz : Nat) (x : Operand) (k : List (List AV) → Env → Option α) : Option α := match x with
 | .tmp s => aet e sz s k (e s)
 | .const (.slice none 0 0) => k [] e
 | _ => none
def aaa (e : Env) (t d off bz sz : Nat) (c : List AV) (m : List (Nat × AV)) (x : Operand) (a : AV) (k : Env → Option α) : Option α := match x, a with
 | .tmp s, .own z l => ki τ t fun z' => bh (Nat.beq z' z) (k (set (ot d (set e s (.sl z l))) d (.boxv bz c ((off, .own z l) :: ox m off))))
 | _, .nil => ki τ t fun z => k (set (ot d e) d (.boxv bz c ((off, .own z []) :: ox m off)))
 | _, a => cast τ t a fun a => cellsOf sz a fun c' => aa (Nat.beq off 0 && Nat.beq sz bz) (k (set (ot d e) d (.boxv bz c' [])))
   (ru sz c' 0 fun l => k (set (ot d e) d (.boxv bz c (zw off l m))))
def adz : List (Nat × Nat) → List (Nat × AV)
 | [] => []
 | (j, z) :: r => (j, .own z []) :: adz r
def aox (e : Env) (x : Operand) : Option (List (Nat × Nat)) := match x with
 | .tmp s => (match e s with | .lit _ _ m => some m | _ => none)
 | _ => none
def xa (e : Env) (t d off bz sz : Nat) (c : List AV) (m : List (Nat × AV)) (x : Operand) (a : AV) (k : Env → Option α) : Option α := match aox e x with
 | some mm => aa (Nat.beq off 0 && Nat.beq sz bz) (cast τ t a fun a => cellsOf sz a fun c' => k (set (ot d e) d (.boxv bz c' (adz mm)))) (aaa τ e t d off bz sz c m x a k)
 | none => aaa τ e t d off bz sz c m x a k
def jn (e : Env) (t d off bz : Nat) (c : List AV) (m : List (Nat × AV)) (x : Operand) (k : Env → Option α) : Option α := de e x fun a => ks τ t fun sz =>
 bh (Nat.ble (off + sz) bz) (xa τ e t d off bz sz c m x a k)
def storeT (e : Env) (t s : Nat) (x : Operand) (k : Env → Option α) : AV → Option α
 | .boxv z c m => jn τ e t s 0 z c m x k
 | .fptr d off => (match e d with | .boxv z c m => jn τ e t d off z c m x k | _ => none)
 | _ => none
def acr (res : List Nat) (e : Env) (t d : Nat) (x : Operand) (a : AV) (k : Env → Option α) : Option α := match x, a with
 | .tmp s, .own z l => k (set (kill d (set e s (.sl z l))) d (.own z l))
 | .tmp s, .vw q z l => (match res.contains d, e q with
  | true, .own z' l' => k (set (kill d (set (set e q (.sl z' l')) s (.sl z' l'))) d (.own z' l'))
  | _, _ => k (set e d (.sl z l)))
 | _, .nil => ki τ t fun z => k (set (kill d e) d (.own z []))
 | _, .own _ _ => none
 | _, .boxv _ _ _ => none
 | _, .fptr _ _ => none
 | _, .tup _ => none
 | _, a => k (set e d (cl a))
def aeu (e : Env) (d : Option Nat) (s i : Nat) (k : Env → Option α) : AV → Option α
 | .tup l => ab l i fun a => (match a with
  | .own z a => k (j5 (set e s (.tup (l.set i (.sl z a)))) d (.own z a))
  | a => nz a fun a => k (y7 e d a))
 | _ => none
def aev (e : Env) (t s d : Nat) (k : Env → Option α) : AV → Option α
 | .tup l => k (set (set e s (.tup (l.map frz))) d (.tup l))
 | a => nz (kj a) fun a => tx τ t (.tmp s) a fun v => k (j5 e (some d) v)
def step (call : Nat → List AV → Option AV) (res : List Nat) (e : Env) (o : Oper) (k : Env → Option α) : Option α := match o.op, o.dst with
 | .assign x, some d => de e x fun a => acr τ res e o.type d x a k
 | .move (.tmp s), some d => aev τ e o.type s d k (e s)
 | .extract (.tmp s) i, d => aeu e d s i k (e s)
 | .store t (.tmp s) x, none => storeT τ e t s x k (e s)
 | .call ⟨.builtin .append, ⟨[x, y]⟩, ⟨[t0, t1]⟩⟩, d => bh (Nat.beq t0 t1) (ki τ t0 fun sz => de e y fun b => asL sz b fun ys => z8 e sz x fun l e' =>
    bh (Nat.ble (l.length + ys.length) lim) (k (j5 e' d (.own sz (l ++ ys)))))
 | .assign _, none => none
 | _, d => val τ call e o fun v => k (j5 e d v)
def tz (ops : List Oper) (j : Nat) : Option Nat := match ops[j]? with | some o => o.dst | none => none
def stT (o : Oper) : Option (Nat × Nat × Operand) := match o.op, o.dst with
 | .store t (.tmp s) x, none => some (t, s, x)
 | _, _ => none
def dq (o : Oper) : Option Nat := match stT o with
 | some (_, s, _) => some s
 | none => o.dst
def xb (ops : List Oper) (j : Nat) : Option Nat := match ops[j]? with | some o => dq o | none => none
def ry (a : AV) (k : AV → Option α) : Option α := match a with
 | .agg s c => k (.agg s c)
 | .bool b => k (.bool b)
 | .int i n => k (.int i n)
 | .str s => k (.str s)
 | _ => none
def stOp (e : Env) (x : Operand) (k : AV → Option α) : Option α := match x with
 | .tmp u => ry (e u) k
 | .const v => ry (cv v) k
 | _ => none
def ml (t : Nat) (e : Env) (x : Operand) (b : AV) (k : AV → Option α) : Option α := match b with
 | .boxv z c m => stOp e x fun a => ks τ t fun sz => bh (Nat.ble (0 + sz) z) (cast τ t a fun a => cellsOf sz a fun c' => aa (Nat.beq 0 0 && Nat.beq sz z) (k (.boxv z c' []))
   (ru sz c' 0 fun l => k (.boxv z c (zw 0 l m))))
 | _ => none
def aew (d : Nat) (o : Oper) : Bool := match o.op with | .pick (.tmp s) _ _ => Nat.beq s d | _ => false
def zj (e : Env) : List (Oper × Nat) → Env
 | [] => e
 | o :: r => zj (y7 e (dq o.1) .undef) r
def other (b : Bool) (o : Oper) : Operand := match o.op with | .pick _ x y => aa b x y | _ => .const .nilFunc
def uq (g h : Option (Nat × Bool)) : Bool := match g, h with
 | none, none => true
 | some (i, a), some (j, b) => Nat.beq i j && aa a b (!b)
 | _, _ => false
def gate (b c : Bool) (x y : Option α) : Option α := aa b (ifB c x y) (ifB c y x)
def aoy (a : AV) : Option Bool := asB a some
def bit (i : Nat) : Nat := 2 ^ i
def jk (d : Option Nat) : Nat := match d with | some d => bit d | none => 0
def ao (m i : Nat) : Bool := Nat.beq (Nat.land (Nat.shiftRight m i) 1) 1
def gf (bad : Nat) (e : Env) : Env := fun i => aa (ao bad i) .undef (e i)
def agb (a : AV) : AV := match a with
 | .boxv z c m => .boxv z c m
 | _ => .undef
def mn (bad : Nat) (e : Env) : Env := fun i => aa (ao bad i) (agb (e i)) (e i)
def klB (m : Nat) : AV → AV
 | .fptr q off => aa (ao m q) .undef (.fptr q off)
 | .vw q sz l => aa (ao m q) (.sl sz l) (.vw q sz l)
 | .vwc q off sz l => aa (ao m q) (.sl sz l) (.vwc q off sz l)
 | a => a
def qi (m : Nat) (e : Env) : Env := fun i => klB m (e i)
def acs (a : AV) (k : Option α) : Option α := match a with | .own _ _ => k | _ => none
def agc (e : Env) (a : AV) (k : Option α) : Option α := match a with
 | .fptr q _ => tv (e q) k
 | .vw q _ _ => acs (e q) k
 | .vwc q _ _ _ => tv (e q) k
 | _ => k
def upto (d : Nat) : List (Oper × Nat) → List (Oper × Nat) → Option (List (Oper × Nat) × (Oper × Nat) × List (Oper × Nat))
 | _, [] => none
 | acc, o :: r => match aew d o.1 with | true => some (acc.reverse, o, r) | false => upto d (o :: acc) r
def yc (all : List Oper) (o : Oper) (bad : Nat) : Bool := match o.guard with
 | none => true
 | some (j, _) => (match tz all j with | some d => !ao bad d | none => false)
def ajj (all : List Oper) (g : Nat × Bool) : Nat → List (Oper × Nat) → Bool
 | _, [] => true
 | S, (o, bad) :: r => yc all o bad && (uq o.guard (some g) || (match o.guard with
   | some (j, _) => (match tz all j with | some d => ao S d | none => false)
   | none => false)) && (stT o).isNone && ajj all g (S ||| jk (dq o)) r
def j2 (call : Nat → List AV → Option AV) (all : List Oper) (eb : Env) : Nat → Option (Nat × Bool) → List (Oper × Nat) → Env → {α : Type} → (Env → Option α) → Option α
 | 0, _, _, _, _, _ => none
 | _ + 1, _, [], e, _, k => k e
 | n + 1, cur, (o, bad) :: r, e, _, k => match uq o.guard cur with
  | true => (match stT o with
   | some (t, s, x) => bh o.guard.isNone (ml τ t (gf bad e) x (eb s) fun v => j2 call all eb n cur r (y7 e (some s) v) k)
   | none => bh (yc all o bad) (val τ call (gf bad e) o fun v => agc (gf bad e) v (j2 call all eb n cur r (y7 e o.dst v) k)))
  | false => (match o.guard with
   | none => none
   | some (j, b) => (match tz all j with
    | none => none
    | some d => (match upto d [(o, bad)] r with
     | none => none
     | some (grp, (p, pb), rest) => (match uq p.guard cur, dq p with
      | true, some pd => bh (ajj all (j, b) 0 grp && yc all p pb && !ao pb d) (asB (e d) fun c => (gate b c
        (j2 call all eb n (some (j, b)) grp e fun e' => de (gf pb e') (other b p) aoy)
        (de (gf pb e) (other (!b) p) aoy)).bind fun v =>
         j2 call all eb n cur rest (set (zj e grp) pd (.bool v)) k)
      | _, _ => none))))
def gj : List (Oper × Nat) → Nat
 | [] => 0
 | o :: r => jk (dq o.1) ||| gj r
def nod : Nat → List (Oper × Nat) → Bool
 | _, [] => true
 | W, o :: r => Nat.beq (jk (dq o.1) &&& W) 0 && nod (W ||| jk (dq o.1)) r
def fa : List Oper → List (Oper × Nat)
 | [] => []
 | o :: r => (o, 0) :: fa r
def yd (W : Nat) : Nat → List (Oper × Nat) → List (Oper × Nat)
 | _, [] => []
 | S, (o, _) :: r => (o, W ^^^ (W &&& S)) :: yd W (S ||| jk (dq o)) r
def fl : List (Oper × Nat) → List Oper
 | [] => []
 | o :: r => o.1 :: fl r
def kl (call : Nat → List AV → Option AV) (res : List Nat) (all : List Oper) : Nat → List Oper → Env → {α : Type} → (Env → Option α) → Option α
 | 0, _, _, _, _ => none
 | _ + 1, [], e, _, k => k e
 | n + 1, o :: r, e, _, k => match o.guard with
  | none => step τ call res e o fun e' => kl call res all n r e' k
  | some (j, _) => (match tz all j with
   | none => none
   | some d => (match upto d [(o, 0)] (fa r) with
    | none => none
    | some (grp, p, rest) => bh (nod 0 (grp ++ [p]))
      (j2 τ call all (mn (gj (grp ++ [p])) (qi (gj (grp ++ [p])) e)) (n + 1) none (yd (gj (grp ++ [p])) 0 (grp ++ [p])) (gf (gj (grp ++ [p])) (qi (gj (grp ++ [p])) e)) fun e' =>
       kl call res all n (fl rest) e' k)))
inductive Ex where
 | normal
 | exit (id : Nat)
 | ret
end
abbrev fe := Ex → Env → Option AV
def ve (r : Env → Option AV) (K : fe) : fe := fun x e => match x with
 | .normal => r e
 | .exit j => K (.exit j) e
 | .ret => K .ret e
def a6m {α β : Type} (a : α) (_ : β) : α := a
def xc (id : Nat) (K : fe) : fe := a6m (fun x e => match x with
 | .exit j => aa (Nat.beq j id) (K .normal e) (K (.exit j) e)
 | .normal => K .normal e
 | .ret => K .ret e) (ve (fun _ => none) K)
def iter : Nat → (Env → Env) → (Env → fe → Option AV) → fe → Env → Option AV
 | 0, _, _, _, _ => none
 | n + 1, fg, B, K, e => B e (ve (fun e' => iter n fg B K (fg e')) K)
def nw (all : List Oper) (n : Nat) (acc : List (Nat × Nat)) : List Edge → Nat × Nat
 | [] => (0, 0)
 | e :: r => match Region.binds .any e, nw all n acc r with
  | true, (b, s) => (match acc[n - 1 - e.on]? with
   | some (b', s') => (b ||| bit e.on ||| b', s ||| jk (xb all e.on) ||| s')
   | none => (b, s))
  | false, x => x
def waits (all : List Oper) : Nat → List (Nat × Nat) → List Oper → List (Nat × Nat)
 | _, acc, [] => acc.reverse
 | n, acc, o :: r => waits all (n + 1) (nw all n acc o.after.toList :: acc) r
def acu (n : Nat) (l : List Edge) : Bool := l.all fun e => !Region.binds .any e || Nat.blt e.on n
def mo : Nat → List Oper → Bool
 | _, [] => true
 | n, o :: r => acu n o.after.toList && mo (n + 1) r
def agd (o : Oper) : Bool := match o.op with | .pick _ _ _ => true | _ => false
def vq : Nat → List (Nat × Nat) → List Oper → Nat
 | n + 1, (b, _) :: r, o :: os => aa (Nat.beq b (2 ^ n - 1) && (o.guard.isNone && !agd o)) (vq n r os) (n + 1)
 | n, _, _ => n
def xd (W : Nat) : Nat → List (Nat × Nat) → List Oper → List (Oper × Nat)
 | m + 1, (_, s) :: ws, o :: os => (o, W ^^^ (W &&& s)) :: xd W m ws os
 | _, _, _ => []
def abk (all : List Oper) : Option (List (Oper × Nat) × List Oper × Nat) :=
 let ws := waits all 0 [] all
 let m := vq all.length ws.reverse all.reverse
 let W := gj (fa (all.take m))
 aa (mo 0 all && nod 0 (fa (all.take m))) (some (xd W m ws all, all.drop m, W)) none
def ajk (a : AV) : AV := match a with
 | .boxv z c m => .eptr z (patch c m) 0
 | a => a
def nx (e : Env) : List Operand → Env
 | [] => e
 | .tmp s :: r => nx (set e s (ajk (e s))) r
 | _ :: r => nx e r
def lh (e : Env) : List Oper → Env
 | [] => e
 | o :: r => (match o.op with
  | .makeFunc _ _ caps => lh (nx e caps.toList) r
  | _ => lh e r)
def xe : Code → Option Nat
 | .region id _ _ => some id
 | .seq a _ => xe a
 | .block _ c => xe c
 | .loop c => xe c
 | _ => none
def rz (ann : Nat → Option (List Nat)) (c : Code) (e : Env) : Env := match xe c with
 | some r => (match ann r with | some L => forget L e | none => e)
 | none => e
def fgJ (ann : Nat → Option (List Nat)) (c : Code) (e : Env) : Env := match xe c with
 | some r => (match ann (r + 1000000) with | some L => forget L e | none => e)
 | none => e
def sa (τ : Tab) (call : Nat → List AV → Option AV) (res : List Nat) (ops : List Oper) (draw : Bool) (e : Env) {α : Type} (k : Env → Option α) : Option α := match draw with
 | false => kl τ call res ops (ops.length + 1) ops (lh (clean e) ops) k
 | true => (match abk ops with
  | some (h, t, W) => j2 τ call ops (mn W (qi W (lh (clean e) ops))) (ops.length + 1) none h (gf W (qi W (lh (clean e) ops))) fun e' => kl τ call res ops (ops.length + 1) t e' k
  | none => none)
section
variable (τ : Tab) (ann : Nat → Option (List Nat)) (call : Nat → List AV → Option AV) (res : List Nat)
 (lp : (Env → Env) → (Env → fe → Option AV) → fe → Env → Option AV)
def run : Code → Env → fe → Option AV
 | .skip, e, K => K .normal e
 | .region id ops draw, e, K => sa τ call res ops.toList draw e fun e' => K .normal e'
 | .seq a b, e, K => run a e (ve (fun e' => run b (fgJ ann b e') K) K)
 | .cond c a b, e, K => de e c fun c => asB c fun c => ifB c (run a e K) (run b e K)
 | .block id c, e, K => run c e (xc id K)
 | .loop c, e, K => lp (rz ann c) (run c) K (rz ann c e)
 | .exit id, e, K => K (.exit id) e
 | .ret, e, K => K .ret e
 | _, _, _ => none
def sub : Code → List Nat → Code
 | c, [] => c
 | .seq a b, i :: p => (match i with | 0 => sub a p | _ => sub b p)
 | .cond _ a b, i :: p => (match i with | 0 => sub a p | _ => sub b p)
 | .block _ c, _ :: p => sub c p
 | .loop c, _ :: p => sub c p
 | c, _ => c
end
def a6n (e : Env) : ResultVar → (AV → Option AV) → Option AV
 | .tmp t, k => nz (e t) fun a => (match a with
  | .vw _ sz l => k (.sl sz l)
  | .vwc _ _ sz l => k (.sl sz l)
  | .fptr _ _ => none
  | .boxv _ _ _ => none
  | .tup _ => none
  | .lit _ _ _ => none
  | a => k a)
 | .cell _ _, _ => none
def abl (τ : Tab) (e : Env) : ResultVar → (AV → Option AV) → Option AV
 | .cell s t, k => (match e s with
  | .boxv z c m => (match τ.T t with
   | some ⟨.struct _, sz, _, _⟩ => bh (Nat.beq z sz) (k (.agg sz (patch c m)))
   | some ⟨.array _ _, _, _, _⟩ => none
   | some i => bh (aj0 i.k) (vd c m 0 fun a => nz a fun a => k a)
   | none => none)
  | _ => none)
 | r, k => a6n e r k
def ur (τ : Tab) (e : Env) : List ResultVar → (List AV → Option AV) → Option AV
 | [], k => k []
 | r :: rs, k => abl τ e r fun a => ur τ e rs fun l => k (a :: l)
def oneOf : List AV → Option AV
 | [a] => some a
 | l => some (.tup l)
def sx (τ : Tab) (rs : List ResultVar) : fe := fun x e => match x with
 | .exit _ => none
 | .normal => ur τ e rs oneOf
 | .ret => ur τ e rs oneOf
def gl : List ResultVar → List Nat
 | [] => []
 | .tmp t :: r => t :: gl r
 | .cell _ _ :: r => gl r
def pv : Nat → List AV → List (Nat × AV)
 | _, [] => []
 | n, a :: l => (n, a) :: pv (n + 1) l
structure FD where
 code : Code
 rs : List ResultVar
 nt : Nat
structure Sys where
 τ : Tab
 ann : Nat → Nat → Option (List Nat)
 O : Nat → Option (List AV → Option AV)
 F : Nat → Option FD
def wh (S : Sys) (call : Nat → List AV → Option AV) (lp : (Env → Env) → (Env → fe → Option AV) → fe → Env → Option AV) (f : Nat) (d : FD) (l : List AV) : Option AV :=
 run S.τ (S.ann f) call (gl d.rs) lp d.code (look (pv 0 l)) (sx S.τ d.rs)
def iw (S : Sys) : Nat → Nat → List AV → Option AV
 | 0, _, _ => none
 | n + 1, f, l => match S.O f with
  | some g => g l
  | none => (match S.F f with
   | some d => wh S (iw S n) (iter n) f d l
   | none => none)
end Go.Proofs.YtmdimhcjogjcgaaGreatDoor.Abs
