/- The reflective interpreter: plain values, and what a function's code comes to on them. -/
import Derived.Control
set_option linter.all false
noncomputable section
namespace Go.Proofs.YtmdimhcjogjcgaaGreatDoor.Abs
inductive AV where
 | undef
 | nil
 | bool (b : Bool)
 | int (k : IntKind) (n : Int)
 | str (s : List UInt8)
 | sl (sz : Nat) (l : List (List AV))
 | own (sz : Nat) (l : List (List AV))
 | agg (sz : Nat) (l : List AV)
 | boxv (sz : Nat) (l : List AV) (m : List (Nat × AV))
 | eptr (sz : Nat) (l : List AV) (o : Nat)
 | fptr (d off : Nat)
 | vw (d : Nat) (sz : Nat) (l : List (List AV))
 | vwc (d off : Nat) (sz : Nat) (l : List (List AV))
 | tup (l : List AV)
 | fn (f : Nat) (caps : List AV)
 | lit (sz : Nat) (l : List AV) (m : List (Nat × Nat))
abbrev Env := Nat → AV
def ag {α : Type} (b : Bool) (x y : α) : α := match b with | true => x | false => y
def set (e : Env) (d : Nat) (v : AV) : Env := fun i => ag (Nat.beq i d) v (e i)
def aev (e : Env) (d : Option Nat) (v : AV) : Env := match d with | some d => set e d v | none => e
def cl : AV → AV
 | .fptr _ _ => .undef
 | .vw _ sz l => .sl sz l
 | .vwc _ _ sz l => .sl sz l
 | a => a
def clean (e : Env) : Env := fun i => cl (e i)
def klv (d : Nat) : AV → AV
 | .fptr q off => ag (Nat.beq q d) .undef (.fptr q off)
 | .vw q sz l => ag (Nat.beq q d) (.sl sz l) (.vw q sz l)
 | .vwc q off sz l => ag (Nat.beq q d) (.sl sz l) (.vwc q off sz l)
 | a => a
def kill (d : Nat) (e : Env) : Env := fun i => klv d (e i)
def klc (d : Nat) : AV → AV
 | .vwc q off sz l => ag (Nat.beq q d) (.sl sz l) (.vwc q off sz l)
 | a => a
def uo (d : Nat) (e : Env) : Env := fun i => klc d (e i)
def look : List (Nat × AV) → Nat → AV
 | [], _ => .undef
 | (j, v) :: r, i => ag (Nat.beq i j) v (look r i)
def frz : AV → AV
 | .own sz l => .sl sz l
 | .vw _ sz l => .sl sz l
 | .vwc _ _ sz l => .sl sz l
 | a => a
def patch : List AV → List (Nat × AV) → List AV
 | c, [] => c
 | c, (o, a) :: r => (patch c r).set o (frz a)
def ovr : List (Nat × AV) → Nat → Option AV
 | [], _ => none
 | (o, a) :: r, i => ag (Nat.beq o i) (some a) (ovr r i)
def ux : List (Nat × AV) → Nat → List (Nat × AV)
 | [], _ => []
 | (o, a) :: r, i => ag (Nat.beq o i) (ux r i) ((o, a) :: ux r i)
def afp : Nat → List AV → List (Nat × AV) → List (Nat × AV)
 | _, [], m => m
 | o, a :: l, m => afp (o + 1) l ((o, a) :: ux m o)
def uy : Nat → List AV → List (Nat × AV)
 | _, [] => []
 | o, .own z l :: r => (o, .own z l) :: uy (o + 1) r
 | o, _ :: r => uy (o + 1) r
def yg : Nat → List (Nat × AV) → List (Nat × AV)
 | _, [] => []
 | S, (o, .own z l) :: r => ag (Nat.beq (Nat.land (Nat.shiftRight S o) 1) 1) (yg S r) ((o, .own z l) :: yg (S ||| 2 ^ o) r)
 | S, (o, _) :: r => yg (S ||| 2 ^ o) r
def ari (m : List (Nat × AV)) : List (Nat × AV) := yg 0 m
def aar : List (Nat × AV) → List (Nat × AV)
 | [] => []
 | (_, .own _ _) :: r => aar r
 | x :: r => x :: aar r
def cn (a : AV) : AV := match cl a with
 | .boxv z c m => .boxv z (patch c (aar m)) (ari m)
 | a => a
def forget (L : List Nat) (e : Env) : Env := look (L.map fun i => (i, cn (e i)))
def ikn : IntKind → Nat
 | .i8 => 0 | .i16 => 1 | .i32 => 2 | .i64 => 3 | .u8 => 4 | .u16 => 5 | .u32 => 6 | .u64 => 7
def ary (a b : IntKind) : Bool := Nat.beq (ikn a) (ikn b)
section
variable {α : Type}
def ifB (b : Bool) (x y : Option α) : Option α := match b with | true => x | false => y
def aq (b : Bool) (k : Option α) : Option α := match b with | true => k | false => none
def asB (a : AV) (k : Bool → Option α) : Option α := match a with | .bool b => k b | _ => none
def asI (kd : IntKind) (a : AV) (k : Int → Option α) : Option α := match a with | .int k' n => aq (ary k' kd) (k n) | _ => none
def asN (a : AV) (k : Int → Option α) : Option α := match a with | .int _ n => k n | _ => none
def asS (a : AV) (k : List UInt8 → Option α) : Option α := match a with | .str s => k s | _ => none
def asL (sz : Nat) (a : AV) (k : List (List AV) → Option α) : Option α := match a with
 | .nil => k []
 | .sl s l => aq (Nat.beq s sz) (k l)
 | .own s l => aq (Nat.beq s sz) (k l)
 | .vw _ s l => aq (Nat.beq s sz) (k l)
 | .vwc _ _ s l => aq (Nat.beq s sz) (k l)
 | _ => none
def asO (sz : Nat) (a : AV) (k : List (List AV) → Option α) : Option α := match a with
 | .own s l => aq (Nat.beq s sz) (k l)
 | _ => none
def asC (sz : Nat) (a : AV) (k : List AV → Option α) : Option α := match a with | .agg s c => aq (Nat.beq s sz) (k c) | _ => none
def anf (a : AV) (k : Option α) : Option α := match a with | .tup [] => k | _ => none
def ja (a : AV) (k : AV → AV → Option α) : Option α := match a with | .tup [x, y] => k x y | _ => none
def aj6 (a : AV) (k : AV → AV → AV → Option α) : Option α := match a with | .tup [x, y, z] => k x y z | _ => none
def ang (a : AV) (k : AV → AV → AV → AV → Option α) : Option α := match a with | .tup [x, y, z, u] => k x y z u | _ => none
def asF (a : AV) (k : Nat → List AV → Option α) : Option α := match a with | .fn f c => k f c | _ => none
def aa (c : List AV) (off : Nat) (k : AV → Option α) : Option α := match c[off]? with | some a => k a | none => none
def yh : Nat → List AV → Nat → (List AV → Option α) → Option α
 | 0, _, _, k => k []
 | n + 1, c, off, k => aa c off fun a => yh n c (off + 1) fun r => k (a :: r)
end
inductive TK where
 | bool | int (k : IntKind) | str | slice (e : Nat) | struct (fs : List (Nat × Nat)) | func | tuple (ts : List Nat) | array (n e : Nat)
structure TI where
 k : TK
 sz : Nat
 bytes : Nat
 zero : List AV
structure Tab where
 T : Nat → Option TI
 RO : Nat → List Bool
 G : Nat → Option (List AV)
 U : Nat → Option (List Nat)
def lim : Nat := 1099511627776
section
variable (τ : Tab) {α : Type}
def qt (t : Nat) (k : Nat → Option α) : Option α := match τ.T t with | some i => k i.sz | none => none
def qd (t : Nat) (k : Nat → Option α) : Option α := match τ.T t with
 | some ⟨.slice e, _, _, _⟩ => qt τ e k
 | _ => none
def cast (t : Nat) (a : AV) (k : AV → Option α) : Option α := match τ.T t with
 | some ⟨.bool, _, _, _⟩ => asB a fun b => k (.bool b)
 | some ⟨.int kd, _, _, _⟩ => asI kd a fun n => k (.int kd n)
 | some ⟨.str, _, _, _⟩ => asS a fun s => k (.str s)
 | some ⟨.slice e, _, _, _⟩ => qt τ e fun sz => asL sz a fun l => k (.sl sz l)
 | some ⟨.struct _, sz, _, _⟩ => asC sz a fun c => k (.agg sz c)
 | some ⟨.array _ _, sz, _, _⟩ => asC sz a fun c => k (.agg sz c)
 | some ⟨.func, _, _, _⟩ => asF a fun f c => k (.fn f c)
 | _ => none
def uq (o : Bool) (t : Nat) (a : AV) (k : AV → Option α) : Option α := match o with
 | true => qd τ t fun sz => asO sz a fun l => k (.own sz l)
 | false => cast τ t a k
def wk : List Nat → List AV → (List AV → Option α) → Option α
 | [], [], k => k []
 | t :: ts, a :: l, k => cast τ t a fun a' => wk ts l fun l' => k (a' :: l')
 | _, _, _ => none
def aha (o : List Bool) (t : Nat) (r : AV) (k : AV → Option α) : Option α := match τ.U t with
 | some ts => (match ts with
  | [] => anf r (k (.tup []))
  | [t0, t1] => ja r fun a0 a1 => uq τ (o.getD 0 false) t0 a0 fun b0 => uq τ (o.getD 1 false) t1 a1 fun b1 => k (.tup [b0, b1])
  | [t0, t1, t2] => aj6 r fun a0 a1 a2 => uq τ (o.getD 0 false) t0 a0 fun b0 => uq τ (o.getD 1 false) t1 a1 fun b1 => uq τ (o.getD 2 false) t2 a2 fun b2 => k (.tup [b0, b1, b2])
  | [t0, t1, t2, t3] => ang r fun a0 a1 a2 a3 => uq τ (o.getD 0 false) t0 a0 fun b0 => uq τ (o.getD 1 false) t1 a1 fun b1 => uq τ (o.getD 2 false) t2 a2 fun b2 => uq τ (o.getD 3 false) t3 a3 fun b3 => k (.tup [b0, b1, b2, b3])
  | _ => none)
 | none => uq τ (o.getD 0 false) t r k
def cv : Value → AV
 | .bool b => .bool b
 | .int k n => .int k n
 | .string s => .str s.data.toList
 | .slice none 0 0 => .nil
 | .func (.func f) _ _ => .undef
 | _ => .undef
def nz (a : AV) (k : AV → Option α) : Option α := match a with | .undef => none | a => k a
def qf : AV → AV
 | .lit sz l _ => .agg sz l
 | a => a
def ff (e : Env) (x : Operand) (k : AV → Option α) : Option α := match x with
 | .tmp t => nz (qf (e t)) k
 | .const v => nz (cv v) k
 | .global _ => none
 | .func f => k (.fn f [])
def zy (e : Env) : List Operand → (List AV → Option α) → Option α
 | [], k => k []
 | x :: xs, k => ff e x fun a => zy e xs fun l => k (a :: l)
def cellsOf (sz : Nat) (a : AV) (k : List AV → Option α) : Option α := match a with
 | .agg s c => aq (Nat.beq s sz) (k c)
 | .bool b => k [.bool b] | .int kd n => k [.int kd n] | .str s => k [.str s]
 | .sl s l => k [.sl s l] | .fn f c => k [.fn f c]
 | _ => none
def js (z : List AV) (off : Nat) (c : List AV) : List AV := z.take off ++ (c ++ z.drop (off + c.length))
def z8 (fs : List (Nat × Nat)) (e : Env) : List (Nat × Operand) → List AV → (List AV → Option α) → Option α
 | [], z, k => k z
 | (i, x) :: r, z, k => match fs[i]? with
  | none => none
  | some (off, t) => ff e x fun a => cast τ t a fun a' => qt τ t fun sz => cellsOf sz a' fun c => z8 fs e r (js z off c) k
def xi (t : Nat) (e : Env) : List (Nat × Operand) → List (List AV) → (List (List AV) → Option α) → Option α
 | [], z, k => k z
 | (i, x) :: r, z, k => aq (Nat.blt i z.length) (ff e x fun a => cast τ t a fun a' => qt τ t fun sz => cellsOf sz a' fun c => xi t e r (z.set i c) k)
def aba (c : List AV) (m : List (Nat × AV)) (off : Nat) (k : AV → Option α) : Option α := match ovr m off with
 | some a => k a
 | none => aa c off k
def afq : Nat → List AV → List (Nat × AV) → Nat → (List AV → Option α) → Option α
 | 0, _, _, _, k => k []
 | n + 1, c, m, off, k => aba c m off fun a => afq n c m (off + 1) fun r => k (a :: r)
def sliceB (d off sz : Nat) (a : AV) (k : AV → Option α) : Option α := match a with
 | .own s l => aq (Nat.beq s sz) (k (.vwc d off sz l))
 | a => asL sz a fun l => k (.sl sz l)
def vz (t d : Nat) (z : Nat) (c : List AV) (m : List (Nat × AV)) (off : Nat) (k : AV → Option α) : Option α := match τ.T t with
 | some ⟨.struct _, sz, _, _⟩ => ag (Nat.beq off 0 && Nat.beq z sz) (k (.agg sz (patch c m))) (afq sz c m off fun c' => k (.agg sz (c'.map frz)))
 | some ⟨.slice e, _, _, _⟩ => qt τ e fun sz => (match ovr m off with
  | some a => sliceB d off sz a k
  | none => aa c off fun a => asL sz a fun l => k (.sl sz l))
 | some ⟨.array _ _, _, _, _⟩ => none
 | _ => aba c m off fun a => cast τ t a k
def qu (t : Nat) (z : Nat) (c : List AV) (off : Nat) (k : AV → Option α) : Option α := match τ.T t with
 | some ⟨.struct _, sz, _, _⟩ => ag (Nat.beq off 0 && Nat.beq z sz) (k (.agg sz c)) (yh sz c off fun c' => k (.agg sz c'))
 | some ⟨.array _ _, sz, _, _⟩ => aq (Nat.beq off 0 && Nat.beq z sz) (k (.agg sz c))
 | _ => aa c off fun a => cast τ t a k
def loadT (e : Env) (t s : Nat) (k : AV → Option α) : AV → Option α
 | .boxv z c m => vz τ t s z c m 0 k
 | .fptr d off => (match e d with | .boxv z c m => vz τ t d z c m off k | _ => none)
 | .eptr z c off => qu τ t z c off k
 | _ => none
def load (e : Env) (t : Nat) (x : Operand) (k : AV → Option α) : Option α := match x with
 | .tmp s => loadT τ e t s k (e s)
 | .global g => (match τ.G g with | some c => qu τ t c.length c 0 k | none => none)
 | _ => none
def fieldAt (t f : Nat) (k : Nat → Nat → Option α) : Option α := match τ.T t with
 | some ⟨.struct fs, _, _, _⟩ => (match fs[f]? with | some (off, ft) => k off ft | none => none)
 | _ => none
def aaa (a : AV) (k : Option α) : Option α := match a with | .boxv _ _ _ => k | _ => none
def ahb (e : Env) (s off : Nat) (k : AV → Option α) : AV → Option α
 | .boxv _ _ _ => k (.fptr s off)
 | .fptr d o => aaa (e d) (k (.fptr d (o + off)))
 | .eptr z c o => k (.eptr z c (o + off))
 | _ => none
def fieldAddr (e : Env) (t : Nat) (x : Operand) (f : Nat) (k : AV → Option α) : Option α := fieldAt τ t f fun off _ => match x with
 | .tmp s => ahb e s off k (e s)
 | _ => none
def idx {β : Type} (l : List β) (i : Int) (k : β → Option α) : Option α := aq (decide (0 ≤ i)) (match l[i.toNat]? with | some c => k c | none => none)
def cut {β : Type} (l : List β) (lo hi : Int) (k : List β → Option α) : Option α :=
 aq (decide (0 ≤ lo) && decide (lo ≤ hi) && decide (hi ≤ l.length)) (k ((l.take hi.toNat).drop lo.toNat))
def cutFrom {β : Type} (l : List β) (lo : Int) (k : List β → Option α) : Option α :=
 aq (decide (0 ≤ lo) && decide (lo ≤ l.length)) (k (l.drop lo.toNat))
def aim {β : Type} (l : List β) (hi : Int) (k : List β → Option α) : Option α :=
 aq (decide (0 ≤ hi) && decide (hi ≤ l.length)) (k (l.take hi.toNat))
def ab1 {β : Type} (e : Env) (l : List β) (lo hi : Option Operand) (k : List β → Option α) : Option α := match lo, hi with
 | none, none => k l
 | some a, none => ff e a fun a => asN a fun a => cutFrom l a k
 | none, some b => ff e b fun b => asN b fun b => aim l b k
 | some a, some b => ff e a fun a => asN a fun a => ff e b fun b => asN b fun b => cut l a b k
def aw : List UInt8 → List UInt8 → Bool
 | _, [] => false
 | [], _ :: _ => true
 | a :: x, b :: y => decide (a < b) || (a == b && aw x y)
def abp (op : BinOp) (kd : IntKind) (x y : Int) : Int :=
 let a := BitVec.ofInt kd.bits x
 let b := BitVec.ofInt kd.bits y
 kd.wrap (match op with | .and => (a &&& b).toNat | .or => (a ||| b).toNat | .xor => (a ^^^ b).toNat | _ => (a &&& ~~~b).toNat : Nat)
def arz (op : BinOp) (kd : IntKind) (x y : Int) (k : AV → Option α) : Option α := match op with
 | .add => k (.int kd (kd.wrap (x + y)))
 | .sub => k (.int kd (kd.wrap (x - y)))
 | .mul => k (.int kd (kd.wrap (x * y)))
 | .quo => aq (!decide (y = 0)) (k (.int kd (kd.wrap (x.tdiv y))))
 | .rem => aq (!decide (y = 0)) (k (.int kd (x.tmod y)))
 | .eql => k (.bool (decide (x = y)))
 | .neq => k (.bool (!decide (x = y)))
 | .lss => k (.bool (decide (x < y)))
 | .leq => k (.bool (decide (x ≤ y)))
 | .gtr => k (.bool (decide (y < x)))
 | .geq => k (.bool (decide (y ≤ x)))
 | .and => k (.int kd (abp .and kd x y))
 | .or => k (.int kd (abp .or kd x y))
 | .xor => k (.int kd (abp .xor kd x y))
 | .andNot => k (.int kd (abp .andNot kd x y))
 | _ => none
def shI (op : BinOp) (kd : IntKind) (x y : Int) (k : AV → Option α) : Option α := match op with
 | .shl => aq (decide (0 ≤ y)) (k (.int kd (kd.wrap (x * 2 ^ (min y.toNat kd.bits)))))
 | .shr => aq (decide (0 ≤ y)) (k (.int kd (x.fdiv (2 ^ (min y.toNat kd.bits)))))
 | _ => none
def bjb (op : BinOp) : Bool := match op with | .shl => true | .shr => true | _ => false
def ar0 (op : BinOp) (x y : List UInt8) (k : AV → Option α) : Option α := match op with
 | .add => aq (Nat.ble (x.length + y.length) lim) (k (.str (x ++ y)))
 | .eql => k (.bool (decide (x = y)))
 | .neq => k (.bool (!decide (x = y)))
 | .lss => k (.bool (aw x y))
 | .leq => k (.bool (aw x y || decide (x = y)))
 | .gtr => k (.bool (!(aw x y || decide (x = y))))
 | .geq => k (.bool (!aw x y))
 | _ => none
def ar1 (t : Nat) (op : BinOp) (x y : Bool) (k : AV → Option α) : Option α := match τ.T t, op with
 | some ⟨.bool, _, _, _⟩, .eql => k (.bool (x == y))
 | some ⟨.bool, _, _, _⟩, .neq => k (.bool (!(x == y)))
 | _, _ => none
def bin (t : Nat) (op : BinOp) (a b : AV) (k : AV → Option α) : Option α := match a, b with
 | .int k1 x, .int k2 y => (match bjb op with | true => shI op k1 x y k | false => aq (ary k1 k2) (arz op k1 x y k))
 | .str x, .str y => ar0 op x y k
 | .bool x, .bool y => ar1 τ t op x y k
 | _, _ => none
def un (op : UnOp) (a : AV) (k : AV → Option α) : Option α := match op, a with
 | .not, .bool b => k (.bool (!b))
 | .neg, .int kd n => k (.int kd (kd.wrap (0 - n)))
 | _, _ => none
def ar2 : TK → Bool
 | .tuple _ => false
 | _ => true
def conv (dst : Nat) (a : AV) (k : AV → Option α) : Option α := match τ.T dst, a with
 | some ⟨.int kd, _, _, _⟩, .int _ n => k (.int kd (kd.wrap n))
 | some ⟨.str, _, _, _⟩, .str s => k (.str s)
 | _, _ => none
def a5r (a : AV) : Bool := match a with
 | .sl _ _ => true | .own _ _ => true | .vw _ _ _ => true | .vwc _ _ _ _ => true | .nil => true | _ => false
def bytesOf : List (List AV) → Option (List UInt8)
 | [] => some []
 | [.int .u8 n] :: r => (match bytesOf r with | some l => some (UInt8.ofNat n.toNat :: l) | none => none)
 | _ => none
def tq (l : List (List AV)) (k : List UInt8 → Option α) : Option α := match bytesOf l with | some s => k s | none => none
def u8K (src : Nat) (k : Option α) : Option α := match τ.T src with
 | some ⟨.slice e, _, _, _⟩ => (match τ.T e with | some ⟨.int .u8, _, _, _⟩ => k | _ => none)
 | _ => none
def ain (src dst : Nat) (a : AV) (k : AV → Option α) : Option α := match τ.T dst with
 | some ⟨.str, _, _, _⟩ => u8K τ src (asL 1 a fun l => tq l fun s => k (.str s))
 | _ => none
def alc (src dst : Nat) (a : AV) (k : AV → Option α) : Option α := ag (a5r a) (ain τ src dst a k) (conv τ dst a k)
def aab (call : Nat → List AV → Option AV) (f : Nat) (args : List AV) (t : Nat) (k : AV → Option α) : Option α :=
 (call f args).bind fun r => aha τ (τ.RO f) t r k
def ar3 (t : Nat) (a : AV) (k : AV → Option α) : Option α := match τ.T t with
 | some ⟨.str, _, _, _⟩ => asS a fun s => k (.int .i64 s.length)
 | some ⟨.slice e, _, _, _⟩ => qt τ e fun sz => asL sz a fun l => k (.int .i64 l.length)
 | some ⟨.array n _, _, _, _⟩ => k (.int .i64 n)
 | _ => none
def ar4 (mx : Bool) (a b : AV) (k : AV → Option α) : Option α := match a, b with
 | .int k1 x, .int _ y => k (.int k1 (ag mx (max x y) (min x y)))
 | _, _ => none
def bg1 : AV → Bool
 | .undef => false
 | .agg _ _ => false
 | .lit _ _ _ => false
 | .boxv _ _ _ => false
 | .fptr _ _ => false
 | .tup _ => false
 | _ => true
def aac (t : Nat) (x : Operand) (a : AV) (k : AV → Option α) : Option α := match x, a with
 | .tmp s, .own sz l => k (.vw s sz l)
 | _, .own _ _ => none
 | _, .boxv _ _ _ => none
 | _, .tup _ => none
 | _, .nil => cast τ t .nil k
 | _, a => k a
def ae3 (t : Nat) (a : AV) (k : AV → Option α) : Option α := match a with
 | .own _ _ => none
 | .boxv _ _ _ => none
 | .fptr _ _ => none
 | .tup _ => none
 | .nil => qd τ t fun sz => k (.own sz [])
 | a => k (cl a)
def ald (i : Nat) (a : AV) (k : AV → Option α) : Option α := match a with
 | .tup l => aa l i fun a => nz (frz a) k
 | _ => none
def adz (t : Nat) (k : TI → Option α) : Option α := match τ.T t with | some i => k i | none => none
def ab2 (t : Nat) (k : List (Nat × Nat) → Nat → List AV → Option α) : Option α := match τ.T t with
 | some ⟨.struct fs, sz, _, z⟩ => k fs sz z
 | _ => none
def afr (t : Nat) (k : Nat → Option α) : Option α := match τ.T t with
 | some ⟨.slice e, _, _, _⟩ => k e
 | _ => none
def ae4 (t : Nat) (a : AV) (i : Int) (k : AV → Option α) : Option α := match τ.T t with
 | some ⟨.str, _, _, _⟩ => asS a fun s => idx s i fun c => k (.int .u8 c.toNat)
 | some ⟨.array n t', sz, _, _⟩ => qt τ t' fun z => aq (Nat.beq z 1 && Nat.beq sz n) (asC sz a fun c => idx c i fun c => cast τ t' c k)
 | _ => none
def ar5 (t : Nat) (e : Env) (a : AV) (lo hi : Option Operand) (k : AV → Option α) : Option α := match τ.T t with
 | some ⟨.str, _, _, _⟩ => asS a fun s => ab1 e s lo hi fun s => k (.str s)
 | some ⟨.slice t', _, _, _⟩ => qt τ t' fun sz => asL sz a fun l => ab1 e l lo hi fun l => k (.sl sz l)
 | _ => none
def ale (e : Env) (c : Call) (k : AV → Option α) : Option α := match c.args.toList, c.argTypes.toList with
 | [x], [t] => ff e x fun a => ar3 τ t a k
 | _, _ => none
def afs (mx : Bool) (e : Env) (c : Call) (k : AV → Option α) : Option α := match c.args.toList with
 | [x, y] => ff e x fun a => ff e y fun b => ar4 mx a b k
 | _ => none
def a0t (fs : List (Nat × Nat)) (i j : Nat) : Bool := match fs[i]? with
 | some (off, t) => (match τ.T t with | some ti => Nat.ble off j && Nat.blt j (off + ti.sz) | none => true)
 | none => true
def isSet (fs : List (Nat × Nat)) : List (Nat × Operand) → Nat → Bool
 | [], _ => false
 | (i, _) :: r, j => a0t τ fs i j || isSet fs r j
def aew (fs : List (Nat × Nat)) (ps : List (Nat × Operand)) : Nat → List AV → List (Nat × Nat)
 | _, [] => []
 | j, .own z _ :: r => ag (isSet τ fs ps j) (aew fs ps (j + 1) r) ((j, z) :: aew fs ps (j + 1) r)
 | j, _ :: r => aew fs ps (j + 1) r
def ayo (m : List (Nat × Nat)) (sz : Nat) (c : List AV) (k : AV → Option α) : Option α := match m with
 | [] => k (.agg sz c)
 | m => k (.lit sz c m)
def ab3 (e : Env) (t : Nat) (x i : Operand) (k : AV → Option α) : Option α := match x with
 | .global g => (match τ.T t, τ.G g with
  | some ⟨.array n t', _, _, _⟩, some c => qt τ t' fun z => aq (Nat.beq z 1 && Nat.beq c.length n) (ff e i fun i => asN i fun i => idx c i fun a => k (.eptr 1 [a] 0))
  | _, _ => none)
 | x => afr τ t fun t' => qt τ t' fun sz => ff e x fun a => asL sz a fun l => ff e i fun i => asN i fun i => idx l i fun c => k (.eptr sz c 0)
def val (call : Nat → List AV → Option AV) (e : Env) (o : Oper) (k : AV → Option α) : Option α := match o.op with
 | .move x => ff e x fun a => aac τ o.type x a k
 | .assign x => ff e x fun a => ae3 τ o.type a k
 | .pick c a b => ff e c fun c => asB c fun c => ifB c (ff e a fun v => cast τ o.type v k) (ff e b fun v => cast τ o.type v k)
 | .alloc t => adz τ t fun i => k (.boxv i.sz (i.zero.map frz) (uy 0 i.zero))
 | .box t x => ff e x fun a => cast τ t a fun a => qt τ t fun sz => cellsOf sz a fun c => k (.boxv sz c [])
 | .build t ps => ab2 τ t fun fs sz z => z8 τ fs e ps.toList (z.map frz) fun c => ayo (aew τ fs ps.toList 0 z) sz c k
 | .buildSlice t n ps => afr τ t fun t' => adz τ t' fun i => aq (Nat.ble (n * i.sz) 16777216) (xi τ t' e ps.toList (List.replicate n (i.zero.map frz)) fun l => k (.own i.sz l))
 | .load t x => load τ e t x k
 | .fieldAddr t x f => fieldAddr τ e t x f k
 | .field t x f => ff e x fun a => qt τ t fun sz => asC sz a fun c => fieldAt τ t f fun off ft => qu τ ft sz c off k
 | .indexAddr t x i => ab3 τ e t x i k
 | .index t x i => ff e x fun a => ff e i fun i => asN i fun i => ae4 τ t a i k
 | .slice t x lo hi none => ff e x fun a => ar5 τ t e a lo hi k
 | .binOp op t x y _ => ff e x fun a => ff e y fun b => bin τ t op a b k
 | .unOp op _ x => ff e x fun a => un op a k
 | .convert src dst x => ff e x fun a => adz τ src fun i => aq (ar2 i.k) (alc τ src dst a k)
 | .extract x i => ff e x fun a => ald i a k
 | .nilCheck x => ff e x fun a => asF a fun f c => k (.fn f c)
 | .makeFunc (.func f) ⟨[]⟩ caps => zy e caps.toList fun cs => aq (cs.all bg1) (k (.fn f (cs.map frz)))
 | .call ⟨.builtin .len, args, ts⟩ => ale τ e ⟨.builtin .len, args, ts⟩ k
 | .call ⟨.builtin .min, args, ts⟩ => afs false e ⟨.builtin .min, args, ts⟩ k
 | .call ⟨.builtin .max, args, ts⟩ => afs true e ⟨.builtin .max, args, ts⟩ k
 | .call ⟨.value f, args, ts⟩ => ff e f fun f => asF f fun f caps => zy e args.toList fun l => wk τ ts.toList l fun l => aab τ call f (l ++ caps) o.type k
 | _ => none
def holds : AV → Bool
 | .own _ _ => true
 | .boxv _ _ _ => true
 | _ => false
def pk (e : Env) (d : Option Nat) (v : AV) : Env := match d with
 | none => e
 | some d => ag (holds v) (set (kill d e) d v) (set e d v)
def alf (e : Env) (sz s : Nat) (k : List (List AV) → Env → Option α) : AV → Option α
 | .own z l => aq (Nat.beq z sz) (k l (set e s (.sl z l)))
 | .vw q _ _ => asO sz (e q) fun l => k l (set (set e q (.sl sz l)) s (.sl sz l))
 | .vwc q off _ _ => (match e q with
  | .boxv bz c m => aba c m off fun a => asO sz a fun l => k l (set (uo q (set e q (.boxv bz c ((off, .sl sz l) :: ux m off)))) s (.sl sz l))
  | _ => none)
 | .nil => k [] e
 | _ => none
def aft (e : Env) (sz : Nat) (x : Operand) (k : List (List AV) → Env → Option α) : Option α := match x with
 | .tmp s => alf e sz s k (e s)
 | .const (.slice none 0 0) => k [] e
 | _ => none
def afu (e : Env) (t d off bz sz : Nat) (c : List AV) (m : List (Nat × AV)) (x : Operand) (a : AV) (k : Env → Option α) : Option α := match x, a with
 | .tmp s, .own z l => qd τ t fun z' => aq (Nat.beq z' z) (k (set (uo d (set e s (.sl z l))) d (.boxv bz c ((off, .own z l) :: ux m off))))
 | _, .nil => qd τ t fun z => k (set (uo d e) d (.boxv bz c ((off, .own z []) :: ux m off)))
 | _, a => cast τ t a fun a => cellsOf sz a fun c' => ag (Nat.beq off 0 && Nat.beq sz bz) (k (set (uo d e) d (.boxv bz c' [])))
   (yh sz c' 0 fun l => k (set (uo d e) d (.boxv bz c (afp off l m))))
def aj7 : List (Nat × Nat) → List (Nat × AV)
 | [] => []
 | (j, z) :: r => (j, .own z []) :: aj7 r
def ayp (e : Env) (x : Operand) : Option (List (Nat × Nat)) := match x with
 | .tmp s => (match e s with | .lit _ _ m => some m | _ => none)
 | _ => none
def ach (e : Env) (t d off bz sz : Nat) (c : List AV) (m : List (Nat × AV)) (x : Operand) (a : AV) (k : Env → Option α) : Option α := match ayp e x with
 | some mm => ag (Nat.beq off 0 && Nat.beq sz bz) (cast τ t a fun a => cellsOf sz a fun c' => k (set (uo d e) d (.boxv bz c' (aj7 mm)))) (afu τ e t d off bz sz c m x a k)
 | none => afu τ e t d off bz sz c m x a k
def ox (e : Env) (t d off bz : Nat) (c : List AV) (m : List (Nat × AV)) (x : Operand) (k : Env → Option α) : Option α := ff e x fun a => qt τ t fun sz =>
 aq (Nat.ble (off + sz) bz) (ach τ e t d off bz sz c m x a k)
def storeT (e : Env) (t s : Nat) (x : Operand) (k : Env → Option α) : AV → Option α
 | .boxv z c m => ox τ e t s 0 z c m x k
 | .fptr d off => (match e d with | .boxv z c m => ox τ e t d off z c m x k | _ => none)
 | _ => none
def aio (res : List Nat) (e : Env) (t d : Nat) (x : Operand) (a : AV) (k : Env → Option α) : Option α := match x, a with
 | .tmp s, .own z l => k (set (kill d (set e s (.sl z l))) d (.own z l))
 | .tmp s, .vw q z l => (match res.contains d, e q with
  | true, .own z' l' => k (set (kill d (set (set e q (.sl z' l')) s (.sl z' l'))) d (.own z' l'))
  | _, _ => k (set e d (.sl z l)))
 | _, .nil => qd τ t fun z => k (set (kill d e) d (.own z []))
 | _, .own _ _ => none
 | _, .boxv _ _ _ => none
 | _, .fptr _ _ => none
 | _, .tup _ => none
 | _, a => k (set e d (cl a))
def alg (e : Env) (d : Option Nat) (s i : Nat) (k : Env → Option α) : AV → Option α
 | .tup l => aa l i fun a => (match a with
  | .own z a => k (pk (set e s (.tup (l.set i (.sl z a)))) d (.own z a))
  | a => nz a fun a => k (aev e d a))
 | _ => none
def alh (e : Env) (t s d : Nat) (k : Env → Option α) : AV → Option α
 | .tup l => k (set (set e s (.tup (l.map frz))) d (.tup l))
 | a => nz (qf a) fun a => aac τ t (.tmp s) a fun v => k (pk e (some d) v)
def step (call : Nat → List AV → Option AV) (res : List Nat) (e : Env) (o : Oper) (k : Env → Option α) : Option α := match o.op, o.dst with
 | .assign x, some d => ff e x fun a => aio τ res e o.type d x a k
 | .move (.tmp s), some d => alh τ e o.type s d k (e s)
 | .extract (.tmp s) i, d => alg e d s i k (e s)
 | .store t (.tmp s) x, none => storeT τ e t s x k (e s)
 | .call ⟨.builtin .append, ⟨[x, y]⟩, ⟨[t0, t1]⟩⟩, d => aq (Nat.beq t0 t1) (qd τ t0 fun sz => ff e y fun b => asL sz b fun ys => aft e sz x fun l e' =>
    aq (Nat.ble (l.length + ys.length) lim) (k (pk e' d (.own sz (l ++ ys)))))
 | .assign _, none => none
 | _, d => val τ call e o fun v => k (pk e d v)
def aad (ops : List Oper) (j : Nat) : Option Nat := match ops[j]? with | some o => o.dst | none => none
def stT (o : Oper) : Option (Nat × Nat × Operand) := match o.op, o.dst with
 | .store t (.tmp s) x, none => some (t, s, x)
 | _, _ => none
def dq (o : Oper) : Option Nat := match stT o with
 | some (_, s, _) => some s
 | none => o.dst
def aci (ops : List Oper) (j : Nat) : Option Nat := match ops[j]? with | some o => dq o | none => none
def yi (a : AV) (k : AV → Option α) : Option α := match a with
 | .agg s c => k (.agg s c)
 | .bool b => k (.bool b)
 | .int i n => k (.int i n)
 | .str s => k (.str s)
 | _ => none
def stOp (e : Env) (x : Operand) (k : AV → Option α) : Option α := match x with
 | .tmp u => yi (e u) k
 | .const v => yi (cv v) k
 | _ => none
def sv (t : Nat) (e : Env) (x : Operand) (b : AV) (k : AV → Option α) : Option α := match b with
 | .boxv z c m => stOp e x fun a => qt τ t fun sz => aq (Nat.ble (0 + sz) z) (cast τ t a fun a => cellsOf sz a fun c' => ag (Nat.beq 0 0 && Nat.beq sz z) (k (.boxv z c' []))
   (yh sz c' 0 fun l => k (.boxv z c (afp 0 l m))))
 | _ => none
def ali (d : Nat) (o : Oper) : Bool := match o.op with | .pick (.tmp s) _ _ => Nat.beq s d | _ => false
def ae5 (e : Env) : List (Oper × Nat) → Env
 | [] => e
 | o :: r => ae5 (aev e (dq o.1) .undef) r
def other (b : Bool) (o : Oper) : Operand := match o.op with | .pick _ x y => ag b x y | _ => .const .nilFunc
def aas (g h : Option (Nat × Bool)) : Bool := match g, h with
 | none, none => true
 | some (i, a), some (j, b) => Nat.beq i j && ag a b (!b)
 | _, _ => false
def gate (b c : Bool) (x y : Option α) : Option α := ag b (ifB c x y) (ifB c y x)
def ayq (a : AV) : Option Bool := asB a some
def bit (i : Nat) : Nat := 2 ^ i
def ou (d : Option Nat) : Nat := match d with | some d => bit d | none => 0
def bu (m i : Nat) : Bool := Nat.beq (Nat.land (Nat.shiftRight m i) 1) 1
def ke (bad : Nat) (e : Env) : Env := fun i => ag (bu bad i) .undef (e i)
def anh (a : AV) : AV := match a with
 | .boxv z c m => .boxv z c m
 | _ => .undef
def sw (bad : Nat) (e : Env) : Env := fun i => ag (bu bad i) (anh (e i)) (e i)
def klB (m : Nat) : AV → AV
 | .fptr q off => ag (bu m q) .undef (.fptr q off)
 | .vw q sz l => ag (bu m q) (.sl sz l) (.vw q sz l)
 | .vwc q off sz l => ag (bu m q) (.sl sz l) (.vwc q off sz l)
 | a => a
def xj (m : Nat) (e : Env) : Env := fun i => klB m (e i)
def aip (a : AV) (k : Option α) : Option α := match a with | .own _ _ => k | _ => none
def ani (e : Env) (a : AV) (k : Option α) : Option α := match a with
 | .fptr q _ => aaa (e q) k
 | .vw q _ _ => aip (e q) k
 | .vwc q _ _ _ => aaa (e q) k
 | _ => k
def upto (d : Nat) : List (Oper × Nat) → List (Oper × Nat) → Option (List (Oper × Nat) × (Oper × Nat) × List (Oper × Nat))
 | _, [] => none
 | acc, o :: r => match ali d o.1 with | true => some (acc.reverse, o, r) | false => upto d (o :: acc) r
def ad0 (all : List Oper) (o : Oper) (bad : Nat) : Bool := match o.guard with
 | none => true
 | some (j, _) => (match aad all j with | some d => !bu bad d | none => false)
def arj (all : List Oper) (g : Nat × Bool) : Nat → List (Oper × Nat) → Bool
 | _, [] => true
 | S, (o, bad) :: r => ad0 all o bad && (aas o.guard (some g) || (match o.guard with
   | some (j, _) => (match aad all j with | some d => bu S d | none => false)
   | none => false)) && (stT o).isNone && arj all g (S ||| ou (dq o)) r
def pf (call : Nat → List AV → Option AV) (all : List Oper) (eb : Env) : Nat → Option (Nat × Bool) → List (Oper × Nat) → Env → {α : Type} → (Env → Option α) → Option α
 | 0, _, _, _, _, _ => none
 | _ + 1, _, [], e, _, k => k e
 | n + 1, cur, (o, bad) :: r, e, _, k => match aas o.guard cur with
  | true => (match stT o with
   | some (t, s, x) => aq o.guard.isNone (sv τ t (ke bad e) x (eb s) fun v => pf call all eb n cur r (aev e (some s) v) k)
   | none => aq (ad0 all o bad) (val τ call (ke bad e) o fun v => ani (ke bad e) v (pf call all eb n cur r (aev e o.dst v) k)))
  | false => (match o.guard with
   | none => none
   | some (j, b) => (match aad all j with
    | none => none
    | some d => (match upto d [(o, bad)] r with
     | none => none
     | some (grp, (p, pb), rest) => (match aas p.guard cur, dq p with
      | true, some pd => aq (arj all (j, b) 0 grp && ad0 all p pb && !bu pb d) (asB (e d) fun c => (gate b c
        (pf call all eb n (some (j, b)) grp e fun e' => ff (ke pb e') (other b p) ayq)
        (ff (ke pb e) (other (!b) p) ayq)).bind fun v =>
         pf call all eb n cur rest (set (ae5 e grp) pd (.bool v)) k)
      | _, _ => none))))
def kr : List (Oper × Nat) → Nat
 | [] => 0
 | o :: r => ou (dq o.1) ||| kr r
def nod : Nat → List (Oper × Nat) → Bool
 | _, [] => true
 | W, o :: r => Nat.beq (ou (dq o.1) &&& W) 0 && nod (W ||| ou (dq o.1)) r
def jb : List Oper → List (Oper × Nat)
 | [] => []
 | o :: r => (o, 0) :: jb r
def ad1 (W : Nat) : Nat → List (Oper × Nat) → List (Oper × Nat)
 | _, [] => []
 | S, (o, _) :: r => (o, W ^^^ (W &&& S)) :: ad1 W (S ||| ou (dq o)) r
def jn : List (Oper × Nat) → List Oper
 | [] => []
 | o :: r => o.1 :: jn r
def qg (call : Nat → List AV → Option AV) (res : List Nat) (all : List Oper) : Nat → List Oper → Env → {α : Type} → (Env → Option α) → Option α
 | 0, _, _, _, _ => none
 | _ + 1, [], e, _, k => k e
 | n + 1, o :: r, e, _, k => match o.guard with
  | none => step τ call res e o fun e' => qg call res all n r e' k
  | some (j, _) => (match aad all j with
   | none => none
   | some d => (match upto d [(o, 0)] (jb r) with
    | none => none
    | some (grp, p, rest) => aq (nod 0 (grp ++ [p]))
      (pf τ call all (sw (kr (grp ++ [p])) (xj (kr (grp ++ [p])) e)) (n + 1) none (ad1 (kr (grp ++ [p])) 0 (grp ++ [p])) (ke (kr (grp ++ [p])) (xj (kr (grp ++ [p])) e)) fun e' =>
       qg call res all n (jn rest) e' k)))
inductive Ex where
 | normal
 | exit (id : Nat)
 | ret
end
abbrev ji := Ex → Env → Option AV
def abb (r : Env → Option AV) (K : ji) : ji := fun x e => match x with
 | .normal => r e
 | .exit j => K (.exit j) e
 | .ret => K .ret e
def bjc {α β : Type} (a : α) (_ : β) : α := a
def acj (id : Nat) (K : ji) : ji := bjc (fun x e => match x with
 | .exit j => ag (Nat.beq j id) (K .normal e) (K (.exit j) e)
 | .normal => K .normal e
 | .ret => K .ret e) (abb (fun _ => none) K)
def iter : Nat → (Env → Env) → (Env → ji → Option AV) → ji → Env → Option AV
 | 0, _, _, _, _ => none
 | n + 1, fg, B, K, e => B e (abb (fun e' => iter n fg B K (fg e')) K)
def ud (all : List Oper) (n : Nat) (acc : List (Nat × Nat)) : List Edge → Nat × Nat
 | [] => (0, 0)
 | e :: r => match Region.binds .any e, ud all n acc r with
  | true, (b, s) => (match acc[n - 1 - e.on]? with
   | some (b', s') => (b ||| bit e.on ||| b', s ||| ou (aci all e.on) ||| s')
   | none => (b, s))
  | false, x => x
def waits (all : List Oper) : Nat → List (Nat × Nat) → List Oper → List (Nat × Nat)
 | _, acc, [] => acc.reverse
 | n, acc, o :: r => waits all (n + 1) (ud all n acc o.after.toList :: acc) r
def aiq (n : Nat) (l : List Edge) : Bool := l.all fun e => !Region.binds .any e || Nat.blt e.on n
def sx : Nat → List Oper → Bool
 | _, [] => true
 | n, o :: r => aiq n o.after.toList && sx (n + 1) r
def anj (o : Oper) : Bool := match o.op with | .pick _ _ _ => true | _ => false
def abq : Nat → List (Nat × Nat) → List Oper → Nat
 | n + 1, (b, _) :: r, o :: os => ag (Nat.beq b (2 ^ n - 1) && (o.guard.isNone && !anj o)) (abq n r os) (n + 1)
 | n, _, _ => n
def ack (W : Nat) : Nat → List (Nat × Nat) → List Oper → List (Oper × Nat)
 | m + 1, (_, s) :: ws, o :: os => (o, W ^^^ (W &&& s)) :: ack W m ws os
 | _, _, _ => []
def ahc (all : List Oper) : Option (List (Oper × Nat) × List Oper × Nat) :=
 let ws := waits all 0 [] all
 let m := abq all.length ws.reverse all.reverse
 let W := kr (jb (all.take m))
 ag (sx 0 all && nod 0 (jb (all.take m))) (some (ack W m ws all, all.drop m, W)) none
def ark (a : AV) : AV := match a with
 | .boxv z c m => .eptr z (patch c m) 0
 | a => a
def ue (e : Env) : List Operand → Env
 | [] => e
 | .tmp s :: r => ue (set e s (ark (e s))) r
 | _ :: r => ue e r
def rp (e : Env) : List Oper → Env
 | [] => e
 | o :: r => (match o.op with
  | .makeFunc _ _ caps => rp (ue e caps.toList) r
  | _ => rp e r)
def acm : Code → Option Nat
 | .region id _ _ => some id
 | .seq a _ => acm a
 | .block _ c => acm c
 | .loop c => acm c
 | _ => none
def yj (ann : Nat → Option (List Nat)) (c : Code) (e : Env) : Env := match acm c with
 | some r => (match ann r with | some L => forget L e | none => e)
 | none => e
def fgJ (ann : Nat → Option (List Nat)) (c : Code) (e : Env) : Env := match acm c with
 | some r => (match ann (r + 1000000) with | some L => forget L e | none => e)
 | none => e
def yk (τ : Tab) (call : Nat → List AV → Option AV) (res : List Nat) (ops : List Oper) (draw : Bool) (e : Env) {α : Type} (k : Env → Option α) : Option α := match draw with
 | false => qg τ call res ops (ops.length + 1) ops (rp (clean e) ops) k
 | true => (match ahc ops with
  | some (h, t, W) => pf τ call ops (sw W (xj W (rp (clean e) ops))) (ops.length + 1) none h (ke W (xj W (rp (clean e) ops))) fun e' => qg τ call res ops (ops.length + 1) t e' k
  | none => none)
section
variable (τ : Tab) (ann : Nat → Option (List Nat)) (call : Nat → List AV → Option AV) (res : List Nat)
 (lp : (Env → Env) → (Env → ji → Option AV) → ji → Env → Option AV)
def run : Code → Env → ji → Option AV
 | .skip, e, K => K .normal e
 | .region id ops draw, e, K => yk τ call res ops.toList draw e fun e' => K .normal e'
 | .seq a b, e, K => run a e (abb (fun e' => run b (fgJ ann b e') K) K)
 | .cond c a b, e, K => ff e c fun c => asB c fun c => ifB c (run a e K) (run b e K)
 | .block id c, e, K => run c e (acj id K)
 | .loop c, e, K => lp (yj ann c) (run c) K (yj ann c e)
 | .exit id, e, K => K (.exit id) e
 | .ret, e, K => K .ret e
 | _, _, _ => none
def sub : Code → List Nat → Code
 | c, [] => c
 | .seq a b, i :: p => (match i with | 0 => sub a p | _ => sub b p)
 | .cond _ a b, i :: p => (match i with | 0 => sub a p | _ => sub b p)
 | .block _ c, _ :: p => sub c p
 | .loop c, _ :: p => sub c p
 | c, _ => c
end
def bjd (e : Env) : ResultVar → (AV → Option AV) → Option AV
 | .tmp t, k => nz (e t) fun a => (match a with
  | .vw _ sz l => k (.sl sz l)
  | .vwc _ _ sz l => k (.sl sz l)
  | .fptr _ _ => none
  | .boxv _ _ _ => none
  | .tup _ => none
  | .lit _ _ _ => none
  | a => k a)
 | .cell _ _, _ => none
def ahd (τ : Tab) (e : Env) : ResultVar → (AV → Option AV) → Option AV
 | .cell s t, k => (match e s with
  | .boxv z c m => (match τ.T t with
   | some ⟨.struct _, sz, _, _⟩ => aq (Nat.beq z sz) (k (.agg sz (patch c m)))
   | some ⟨.array _ _, _, _, _⟩ => none
   | some i => aq (ar2 i.k) (aba c m 0 fun a => nz a fun a => k a)
   | none => none)
  | _ => none)
 | r, k => bjd e r k
def acn (τ : Tab) (e : Env) : List ResultVar → (List AV → Option AV) → Option AV
 | [], k => k []
 | r :: rs, k => ahd τ e r fun a => acn τ e rs fun l => k (a :: l)
def oneOf : List AV → Option AV
 | [a] => some a
 | l => some (.tup l)
def afv (τ : Tab) (rs : List ResultVar) : ji := fun x e => match x with
 | .exit _ => none
 | .normal => acn τ e rs oneOf
 | .ret => acn τ e rs oneOf
def nf : List ResultVar → List Nat
 | [] => []
 | .tmp t :: r => t :: nf r
 | .cell _ _ :: r => nf r
def wm : Nat → List AV → List (Nat × AV)
 | _, [] => []
 | n, a :: l => (n, a) :: wm (n + 1) l
structure FD where
 code : Code
 rs : List ResultVar
 nt : Nat
structure Sys where
 τ : Tab
 ann : Nat → Nat → Option (List Nat)
 O : Nat → Option (List AV → Option AV)
 F : Nat → Option FD
def ab4 (S : Sys) (call : Nat → List AV → Option AV) (lp : (Env → Env) → (Env → ji → Option AV) → ji → Env → Option AV) (f : Nat) (d : FD) (l : List AV) : Option AV :=
 run S.τ (S.ann f) call (nf d.rs) lp d.code (look (wm 0 l)) (afv S.τ d.rs)
def ng (S : Sys) : Nat → Nat → List AV → Option AV
 | 0, _, _ => none
 | n + 1, f, l => match S.O f with
  | some g => g l
  | none => (match S.F f with
   | some d => ab4 S (ng S n) (iter n) f d l
   | none => none)
end Go.Proofs.YtmdimhcjogjcgaaGreatDoor.Abs
