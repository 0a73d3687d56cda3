/- The reflective interpreter: plain values, and what a function's code comes to on them. -/
import Derived.Control
set_option linter.unusedVariables false
set_option linter.unusedSimpArgs false
set_option linter.unusedSectionVars false
set_option linter.deprecated false
set_option linter.unnecessarySimpa false
namespace Go.Proofs.YtffojfcinkihnaaGreatDoor.Abs
set_option linter.unusedVariables false

/-- Plain values: what a slot or a cell holds. -/
inductive AV where
  | undef
  | nil
  | bool (b : Bool)
  | int (k : IntKind) (n : Int)
  | str (s : List UInt8)
  | sl (sz : Nat) (l : List (List AV))
  | own (sz : Nat) (l : List (List AV))
  | agg (sz : Nat) (l : List AV)
  | boxv (sz : Nat) (l : List AV) (m : List (Nat × AV))
  | eptr (sz : Nat) (l : List AV) (o : Nat)
  | fptr (d off : Nat)
  | vw (d : Nat) (sz : Nat) (l : List (List AV))
  | vwc (d off : Nat) (sz : Nat) (l : List (List AV))
  | tup (l : List AV)
  | fn (f : Nat) (caps : List AV)

abbrev Env := Nat → AV

def pick2 {α : Type} (b : Bool) (x y : α) : α := match b with | true => x | false => y
def set (e : Env) (d : Nat) (v : AV) : Env := fun i => pick2 (Nat.beq i d) v (e i)
def setO (e : Env) (d : Option Nat) (v : AV) : Env := match d with | some d => set e d v | none => e

/-- What stays of a value when a region ends: its region-local addresses and views go. -/
def cl : AV → AV
  | .fptr _ _ => .undef
  | .vw _ sz l => .sl sz l
  | .vwc _ _ sz l => .sl sz l
  | a => a
def clean (e : Env) : Env := fun i => cl (e i)
/-- Slot d gets a new holder: what looked at the old one goes. -/
def klv (d : Nat) : AV → AV
  | .fptr q off => pick2 (Nat.beq q d) .undef (.fptr q off)
  | .vw q sz l => pick2 (Nat.beq q d) (.sl sz l) (.vw q sz l)
  | .vwc q off sz l => pick2 (Nat.beq q d) (.sl sz l) (.vwc q off sz l)
  | a => a
def kill (d : Nat) (e : Env) : Env := fun i => klv d (e i)
/-- A cell of box d is written: the views of its cells go. -/
def klc (d : Nat) : AV → AV
  | .vwc q off sz l => pick2 (Nat.beq q d) (.sl sz l) (.vwc q off sz l)
  | a => a
def killc (d : Nat) (e : Env) : Env := fun i => klc d (e i)

/-- The env that holds just these slots. -/
def look : List (Nat × AV) → Nat → AV
  | [], _ => .undef
  | (j, v) :: r, i => pick2 (Nat.beq i j) v (look r i)
/-- What is stored of a value: a row of plain cells. -/
def frz : AV → AV
  | .own sz l => .sl sz l
  | .vw _ sz l => .sl sz l
  | .vwc _ _ sz l => .sl sz l
  | a => a
/-- The cells of a box: what was there, and what was written since. -/
def patch : List AV → List (Nat × AV) → List AV
  | c, [] => c
  | c, (o, a) :: r => (patch c r).set o (frz a)
def ovr : List (Nat × AV) → Nat → Option AV
  | [], _ => none
  | (o, a) :: r, i => pick2 (Nat.beq o i) (some a) (ovr r i)
def delO : List (Nat × AV) → Nat → List (Nat × AV)
  | [], _ => []
  | (o, a) :: r, i => pick2 (Nat.beq o i) (delO r i) ((o, a) :: delO r i)
def putM : Nat → List AV → List (Nat × AV) → List (Nat × AV)
  | _, [], m => m
  | o, a :: l, m => putM (o + 1) l ((o, a) :: delO m o)
def ownsOf : Nat → List AV → List (Nat × AV)
  | _, [] => []
  | o, .own z l :: r => (o, .own z l) :: ownsOf (o + 1) r
  | o, _ :: r => ownsOf (o + 1) r
def ownsG : Nat → List (Nat × AV) → List (Nat × AV)
  | _, [] => []
  | S, (o, .own z l) :: r => pick2 (Nat.beq (Nat.land (Nat.shiftRight S o) 1) 1) (ownsG S r) ((o, .own z l) :: ownsG (S ||| 2 ^ o) r)
  | S, (o, _) :: r => ownsG (S ||| 2 ^ o) r
def ownsM (m : List (Nat × AV)) : List (Nat × AV) := ownsG 0 m
def plainM : List (Nat × AV) → List (Nat × AV)
  | [] => []
  | (_, .own _ _) :: r => plainM r
  | x :: r => x :: plainM r
def cn (a : AV) : AV := match cl a with
  | .boxv z c m => .boxv z (patch c (plainM m)) (ownsM m)
  | a => a
def forget (L : List Nat) (e : Env) : Env := look (L.map fun i => (i, cn (e i)))

def ikn : IntKind → Nat
  | .i8 => 0 | .i16 => 1 | .i32 => 2 | .i64 => 3 | .u8 => 4 | .u16 => 5 | .u32 => 6 | .u64 => 7
def ikeq (a b : IntKind) : Bool := Nat.beq (ikn a) (ikn b)

section
variable {α : Type}
def ifB (b : Bool) (x y : Option α) : Option α := match b with | true => x | false => y
def guardK (b : Bool) (k : Option α) : Option α := match b with | true => k | false => none
def asB (a : AV) (k : Bool → Option α) : Option α := match a with | .bool b => k b | _ => none
def asI (kd : IntKind) (a : AV) (k : Int → Option α) : Option α := match a with | .int k' n => guardK (ikeq k' kd) (k n) | _ => none
def asN (a : AV) (k : Int → Option α) : Option α := match a with | .int _ n => k n | _ => none
def asS (a : AV) (k : List UInt8 → Option α) : Option α := match a with | .str s => k s | _ => none
def asL (sz : Nat) (a : AV) (k : List (List AV) → Option α) : Option α := match a with
  | .nil => k []
  | .sl s l => guardK (Nat.beq s sz) (k l)
  | .own s l => guardK (Nat.beq s sz) (k l)
  | .vw _ s l => guardK (Nat.beq s sz) (k l)
  | .vwc _ _ s l => guardK (Nat.beq s sz) (k l)
  | _ => none
def asO (sz : Nat) (a : AV) (k : List (List AV) → Option α) : Option α := match a with
  | .own s l => guardK (Nat.beq s sz) (k l)
  | _ => none
def asC (sz : Nat) (a : AV) (k : List AV → Option α) : Option α := match a with | .agg s c => guardK (Nat.beq s sz) (k c) | _ => none
def asT0 (a : AV) (k : Option α) : Option α := match a with | .tup [] => k | _ => none
def asT2 (a : AV) (k : AV → AV → Option α) : Option α := match a with | .tup [x, y] => k x y | _ => none
def asT3 (a : AV) (k : AV → AV → AV → Option α) : Option α := match a with | .tup [x, y, z] => k x y z | _ => none
def asT4 (a : AV) (k : AV → AV → AV → AV → Option α) : Option α := match a with | .tup [x, y, z, u] => k x y z u | _ => none
def asF (a : AV) (k : Nat → List AV → Option α) : Option α := match a with | .fn f c => k f c | _ => none
def getC (c : List AV) (off : Nat) (k : AV → Option α) : Option α := match c[off]? with | some a => k a | none => none
def getCs : Nat → List AV → Nat → (List AV → Option α) → Option α
  | 0, _, _, k => k []
  | n + 1, c, off, k => getC c off fun a => getCs n c (off + 1) fun r => k (a :: r)
end

/-- What is known of a type. -/
inductive TK where
  | bool | int (k : IntKind) | str | slice (e : Nat) | struct (fs : List (Nat × Nat)) | func | tuple (ts : List Nat) | array (n e : Nat)
structure TI where
  k : TK
  sz : Nat
  bytes : Nat
  zero : List AV

/-- What is known of the program: its types; of which results of a function the caller is the holder; its package-level variables. -/
structure Tab where
  T : Nat → Option TI
  RO : Nat → List Bool
  G : Nat → Option (List AV)
  U : Nat → Option (List Nat)

def lim : Nat := 1099511627776

section
variable (τ : Tab) {α : Type}
def szOf (t : Nat) (k : Nat → Option α) : Option α := match τ.T t with | some i => k i.sz | none => none
def sliceSz (t : Nat) (k : Nat → Option α) : Option α := match τ.T t with
  | some ⟨.slice e, _, _, _⟩ => szOf τ e k
  | _ => none
/-- A value of type t in its plain form. -/
def cast (t : Nat) (a : AV) (k : AV → Option α) : Option α := match τ.T t with
  | some ⟨.bool, _, _, _⟩ => asB a fun b => k (.bool b)
  | some ⟨.int kd, _, _, _⟩ => asI kd a fun n => k (.int kd n)
  | some ⟨.str, _, _, _⟩ => asS a fun s => k (.str s)
  | some ⟨.slice e, _, _, _⟩ => szOf τ e fun sz => asL sz a fun l => k (.sl sz l)
  | some ⟨.struct _, sz, _, _⟩ => asC sz a fun c => k (.agg sz c)
  | some ⟨.array _ _, sz, _, _⟩ => asC sz a fun c => k (.agg sz c)
  | some ⟨.func, _, _, _⟩ => asF a fun f c => k (.fn f c)
  | _ => none
/-- A result of type t, with the word on who holds it. -/
def castR (o : Bool) (t : Nat) (a : AV) (k : AV → Option α) : Option α := match o with
  | true => sliceSz τ t fun sz => asO sz a fun l => k (.own sz l)
  | false => cast τ t a k
def castsA : List Nat → List AV → (List AV → Option α) → Option α
  | [], [], k => k []
  | t :: ts, a :: l, k => cast τ t a fun a' => castsA ts l fun l' => k (a' :: l')
  | _, _, _ => none
def retK (o : List Bool) (t : Nat) (r : AV) (k : AV → Option α) : Option α := match τ.U t with
  | some ts => (match ts with
    | [] => asT0 r (k (.tup []))
    | [t0, t1] => asT2 r fun a0 a1 => castR τ (o.getD 0 false) t0 a0 fun b0 => castR τ (o.getD 1 false) t1 a1 fun b1 => k (.tup [b0, b1])
    | [t0, t1, t2] => asT3 r fun a0 a1 a2 => castR τ (o.getD 0 false) t0 a0 fun b0 => castR τ (o.getD 1 false) t1 a1 fun b1 => castR τ (o.getD 2 false) t2 a2 fun b2 => k (.tup [b0, b1, b2])
    | [t0, t1, t2, t3] => asT4 r fun a0 a1 a2 a3 => castR τ (o.getD 0 false) t0 a0 fun b0 => castR τ (o.getD 1 false) t1 a1 fun b1 => castR τ (o.getD 2 false) t2 a2 fun b2 => castR τ (o.getD 3 false) t3 a3 fun b3 => k (.tup [b0, b1, b2, b3])
    | _ => none)
  | none => castR τ (o.getD 0 false) t r k

/-- A constant. -/
def cv : Value → AV
  | .bool b => .bool b
  | .int k n => .int k n
  | .string s => .str s.data.toList
  | .slice none 0 0 => .nil
  | .func (.func f) _ _ => .undef
  | _ => .undef
def nz (a : AV) (k : AV → Option α) : Option α := match a with | .undef => none | a => k a
def opnd (e : Env) (x : Operand) (k : AV → Option α) : Option α := match x with
  | .tmp t => nz (e t) k
  | .const v => nz (cv v) k
  | .global _ => none
  | .func f => k (.fn f [])
def opnds (e : Env) : List Operand → (List AV → Option α) → Option α
  | [], k => k []
  | x :: xs, k => opnd e x fun a => opnds e xs fun l => k (a :: l)
/-- The cells of a value in its plain form, of 'sz' cells. -/
def cellsOf (sz : Nat) (a : AV) (k : List AV → Option α) : Option α := match a with
  | .agg s c => guardK (Nat.beq s sz) (k c)
  | .bool b => k [.bool b] | .int kd n => k [.int kd n] | .str s => k [.str s]
  | .sl s l => k [.sl s l] | .fn f c => k [.fn f c]
  | _ => none
def splice (z : List AV) (off : Nat) (c : List AV) : List AV := z.take off ++ (c ++ z.drop (off + c.length))
def fillF (fs : List (Nat × Nat)) (e : Env) : List (Nat × Operand) → List AV → (List AV → Option α) → Option α
  | [], z, k => k z
  | (i, x) :: r, z, k => match fs[i]? with
    | none => none
    | some (off, t) => opnd e x fun a => cast τ t a fun a' => szOf τ t fun sz => cellsOf sz a' fun c => fillF fs e r (splice z off c) k
def fillL (t : Nat) (e : Env) : List (Nat × Operand) → List (List AV) → (List (List AV) → Option α) → Option α
  | [], z, k => k z
  | (i, x) :: r, z, k => guardK (Nat.blt i z.length) (opnd e x fun a => cast τ t a fun a' => szOf τ t fun sz => cellsOf sz a' fun c => fillL t e r (z.set i c) k)

def getB (c : List AV) (m : List (Nat × AV)) (off : Nat) (k : AV → Option α) : Option α := match ovr m off with
  | some a => k a
  | none => getC c off k
def getBs : Nat → List AV → List (Nat × AV) → Nat → (List AV → Option α) → Option α
  | 0, _, _, _, k => k []
  | n + 1, c, m, off, k => getB c m off fun a => getBs n c m (off + 1) fun r => k (a :: r)
def sliceB (d off sz : Nat) (a : AV) (k : AV → Option α) : Option α := match a with
  | .own s l => guardK (Nat.beq s sz) (k (.vwc d off sz l))
  | a => asL sz a fun l => k (.sl sz l)
/-- A load from the box of slot d. -/
def loadBox (t d : Nat) (z : Nat) (c : List AV) (m : List (Nat × AV)) (off : Nat) (k : AV → Option α) : Option α := match τ.T t with
  | some ⟨.struct _, sz, _, _⟩ => pick2 (Nat.beq off 0 && Nat.beq z sz) (k (.agg sz (patch c m))) (getBs sz c m off fun c' => k (.agg sz (c'.map frz)))
  | some ⟨.slice e, _, _, _⟩ => szOf τ e fun sz => (match ovr m off with
    | some a => sliceB d off sz a k
    | none => getC c off fun a => asL sz a fun l => k (.sl sz l))
  | some ⟨.array _ _, _, _, _⟩ => none
  | _ => getB c m off fun a => cast τ t a k
/-- A load from cells that nobody writes. -/
def loadElem (t : Nat) (z : Nat) (c : List AV) (off : Nat) (k : AV → Option α) : Option α := match τ.T t with
  | some ⟨.struct _, sz, _, _⟩ => pick2 (Nat.beq off 0 && Nat.beq z sz) (k (.agg sz c)) (getCs sz c off fun c' => k (.agg sz c'))
  | some ⟨.array _ _, sz, _, _⟩ => guardK (Nat.beq off 0 && Nat.beq z sz) (k (.agg sz c))
  | _ => getC c off fun a => cast τ t a k
def loadT (e : Env) (t s : Nat) (k : AV → Option α) : AV → Option α
  | .boxv z c m => loadBox τ t s z c m 0 k
  | .fptr d off => (match e d with | .boxv z c m => loadBox τ t d z c m off k | _ => none)
  | .eptr z c off => loadElem τ t z c off k
  | _ => none
def load (e : Env) (t : Nat) (x : Operand) (k : AV → Option α) : Option α := match x with
  | .tmp s => loadT τ e t s k (e s)
  | .global g => (match τ.G g with | some c => loadElem τ t c.length c 0 k | none => none)
  | _ => none
def fieldAt (t f : Nat) (k : Nat → Nat → Option α) : Option α := match τ.T t with
  | some ⟨.struct fs, _, _, _⟩ => (match fs[f]? with | some (off, ft) => k off ft | none => none)
  | _ => none
def isBox (a : AV) (k : Option α) : Option α := match a with | .boxv _ _ _ => k | _ => none
def fieldT (e : Env) (s off : Nat) (k : AV → Option α) : AV → Option α
  | .boxv _ _ _ => k (.fptr s off)
  | .fptr d o => isBox (e d) (k (.fptr d (o + off)))
  | .eptr z c o => k (.eptr z c (o + off))
  | _ => none
def fieldAddr (e : Env) (t : Nat) (x : Operand) (f : Nat) (k : AV → Option α) : Option α := fieldAt τ t f fun off _ => match x with
  | .tmp s => fieldT e s off k (e s)
  | _ => none
/-- Element i. -/
def idx {β : Type} (l : List β) (i : Int) (k : β → Option α) : Option α := guardK (decide (0 ≤ i)) (match l[i.toNat]? with | some c => k c | none => none)
/-- The piece from lo to hi. -/
def cut {β : Type} (l : List β) (lo hi : Int) (k : List β → Option α) : Option α :=
  guardK (decide (0 ≤ lo) && decide (lo ≤ hi) && decide (hi ≤ l.length)) (k ((l.take hi.toNat).drop lo.toNat))
def cutFrom {β : Type} (l : List β) (lo : Int) (k : List β → Option α) : Option α :=
  guardK (decide (0 ≤ lo) && decide (lo ≤ l.length)) (k (l.drop lo.toNat))
def cutTo {β : Type} (l : List β) (hi : Int) (k : List β → Option α) : Option α :=
  guardK (decide (0 ≤ hi) && decide (hi ≤ l.length)) (k (l.take hi.toNat))
def sliceOf {β : Type} (e : Env) (l : List β) (lo hi : Option Operand) (k : List β → Option α) : Option α := match lo, hi with
  | none, none => k l
  | some a, none => opnd e a fun a => asN a fun a => cutFrom l a k
  | none, some b => opnd e b fun b => asN b fun b => cutTo l b k
  | some a, some b => opnd e a fun a => asN a fun a => opnd e b fun b => asN b fun b => cut l a b k
def bytesLt : List UInt8 → List UInt8 → Bool
  | _, [] => false
  | [], _ :: _ => true
  | a :: x, b :: y => decide (a < b) || (a == b && bytesLt x y)
def bitsI (op : BinOp) (kd : IntKind) (x y : Int) : Int :=
  let a := BitVec.ofInt kd.bits x
  let b := BitVec.ofInt kd.bits y
  kd.wrap (match op with | .and => (a &&& b).toNat | .or => (a ||| b).toNat | .xor => (a ^^^ b).toNat | _ => (a &&& ~~~b).toNat : Nat)
def binI (op : BinOp) (kd : IntKind) (x y : Int) (k : AV → Option α) : Option α := match op with
  | .add => k (.int kd (kd.wrap (x + y)))
  | .sub => k (.int kd (kd.wrap (x - y)))
  | .mul => k (.int kd (kd.wrap (x * y)))
  | .quo => guardK (!decide (y = 0)) (k (.int kd (kd.wrap (x.tdiv y))))
  | .rem => guardK (!decide (y = 0)) (k (.int kd (x.tmod y)))
  | .eql => k (.bool (decide (x = y)))
  | .neq => k (.bool (!decide (x = y)))
  | .lss => k (.bool (decide (x < y)))
  | .leq => k (.bool (decide (x ≤ y)))
  | .gtr => k (.bool (decide (y < x)))
  | .geq => k (.bool (decide (y ≤ x)))
  | .and => k (.int kd (bitsI .and kd x y))
  | .or => k (.int kd (bitsI .or kd x y))
  | .xor => k (.int kd (bitsI .xor kd x y))
  | .andNot => k (.int kd (bitsI .andNot kd x y))
  | _ => none
def shI (op : BinOp) (kd : IntKind) (x y : Int) (k : AV → Option α) : Option α := match op with
  | .shl => guardK (decide (0 ≤ y)) (k (.int kd (kd.wrap (x * 2 ^ (min y.toNat kd.bits)))))
  | .shr => guardK (decide (0 ≤ y)) (k (.int kd (x.fdiv (2 ^ (min y.toNat kd.bits)))))
  | _ => none
def isSh (op : BinOp) : Bool := match op with | .shl => true | .shr => true | _ => false
def binS (op : BinOp) (x y : List UInt8) (k : AV → Option α) : Option α := match op with
  | .add => guardK (Nat.ble (x.length + y.length) lim) (k (.str (x ++ y)))
  | .eql => k (.bool (decide (x = y)))
  | .neq => k (.bool (!decide (x = y)))
  | .lss => k (.bool (bytesLt x y))
  | .leq => k (.bool (bytesLt x y || decide (x = y)))
  | .gtr => k (.bool (!(bytesLt x y || decide (x = y))))
  | .geq => k (.bool (!bytesLt x y))
  | _ => none
def binB (t : Nat) (op : BinOp) (x y : Bool) (k : AV → Option α) : Option α := match τ.T t, op with
  | some ⟨.bool, _, _, _⟩, .eql => k (.bool (x == y))
  | some ⟨.bool, _, _, _⟩, .neq => k (.bool (!(x == y)))
  | _, _ => none
def bin (t : Nat) (op : BinOp) (a b : AV) (k : AV → Option α) : Option α := match a, b with
  | .int k1 x, .int k2 y => (match isSh op with | true => shI op k1 x y k | false => guardK (ikeq k1 k2) (binI op k1 x y k))
  | .str x, .str y => binS op x y k
  | .bool x, .bool y => binB τ t op x y k
  | _, _ => none
def un (op : UnOp) (a : AV) (k : AV → Option α) : Option α := match op, a with
  | .not, .bool b => k (.bool (!b))
  | .neg, .int kd n => k (.int kd (kd.wrap (0 - n)))
  | _, _ => none
def notTup : TK → Bool
  | .tuple _ => false
  | _ => true
def conv (dst : Nat) (a : AV) (k : AV → Option α) : Option α := match τ.T dst, a with
  | some ⟨.int kd, _, _, _⟩, .int _ n => k (.int kd (kd.wrap n))
  | some ⟨.str, _, _, _⟩, .str s => k (.str s)
  | _, _ => none
def isSl (a : AV) : Bool := match a with
  | .sl _ _ => true | .own _ _ => true | .vw _ _ _ => true | .vwc _ _ _ _ => true | .nil => true | _ => false
def bytesOf : List (List AV) → Option (List UInt8)
  | [] => some []
  | [.int .u8 n] :: r => (match bytesOf r with | some l => some (UInt8.ofNat n.toNat :: l) | none => none)
  | _ => none
def bytesK (l : List (List AV)) (k : List UInt8 → Option α) : Option α := match bytesOf l with | some s => k s | none => none
def u8K (src : Nat) (k : Option α) : Option α := match τ.T src with
  | some ⟨.slice e, _, _, _⟩ => (match τ.T e with | some ⟨.int .u8, _, _, _⟩ => k | _ => none)
  | _ => none
/-- string(b) of a row of bytes. -/
def convB (src dst : Nat) (a : AV) (k : AV → Option α) : Option α := match τ.T dst with
  | some ⟨.str, _, _, _⟩ => u8K τ src (asL 1 a fun l => bytesK l fun s => k (.str s))
  | _ => none
def convX (src dst : Nat) (a : AV) (k : AV → Option α) : Option α := pick2 (isSl a) (convB τ src dst a k) (conv τ dst a k)
def callK (call : Nat → List AV → Option AV) (f : Nat) (args : List AV) (t : Nat) (k : AV → Option α) : Option α :=
  (call f args).bind fun r => retK τ (τ.RO f) t r k
def lenK (t : Nat) (a : AV) (k : AV → Option α) : Option α := match τ.T t with
  | some ⟨.str, _, _, _⟩ => asS a fun s => k (.int .i64 s.length)
  | some ⟨.slice e, _, _, _⟩ => szOf τ e fun sz => asL sz a fun l => k (.int .i64 l.length)
  | some ⟨.array n _, _, _, _⟩ => k (.int .i64 n)
  | _ => none
def minK (mx : Bool) (a b : AV) (k : AV → Option α) : Option α := match a, b with
  | .int k1 x, .int _ y => k (.int k1 (pick2 mx (max x y) (min x y)))
  | _, _ => none

def capOK : AV → Bool
  | .undef => false
  | .agg _ _ => false
  | .boxv _ _ _ => false
  | .fptr _ _ => false
  | .tup _ => false
  | _ => true
def moveK (t : Nat) (x : Operand) (a : AV) (k : AV → Option α) : Option α := match x, a with
  | .tmp s, .own sz l => k (.vw s sz l)
  | _, .own _ _ => none
  | _, .boxv _ _ _ => none
  | _, .tup _ => none
  | _, .nil => cast τ t .nil k
  | _, a => k a
def assignK (t : Nat) (a : AV) (k : AV → Option α) : Option α := match a with
  | .own _ _ => none
  | .boxv _ _ _ => none
  | .fptr _ _ => none
  | .tup _ => none
  | .nil => sliceSz τ t fun sz => k (.own sz [])
  | a => k (cl a)
def compK (i : Nat) (a : AV) (k : AV → Option α) : Option α := match a with
  | .tup l => getC l i fun a => nz (frz a) k
  | _ => none
def infoK (t : Nat) (k : TI → Option α) : Option α := match τ.T t with | some i => k i | none => none
def structK (t : Nat) (k : List (Nat × Nat) → Nat → List AV → Option α) : Option α := match τ.T t with
  | some ⟨.struct fs, sz, _, z⟩ => k fs sz z
  | _ => none
def elemK (t : Nat) (k : Nat → Option α) : Option α := match τ.T t with
  | some ⟨.slice e, _, _, _⟩ => k e
  | _ => none
def indexK (t : Nat) (a : AV) (i : Int) (k : AV → Option α) : Option α := match τ.T t with
  | some ⟨.str, _, _, _⟩ => asS a fun s => idx s i fun c => k (.int .u8 c.toNat)
  | some ⟨.array n t', sz, _, _⟩ => szOf τ t' fun z => guardK (Nat.beq z 1 && Nat.beq sz n) (asC sz a fun c => idx c i fun c => cast τ t' c k)
  | _ => none
def cutK (t : Nat) (e : Env) (a : AV) (lo hi : Option Operand) (k : AV → Option α) : Option α := match τ.T t with
  | some ⟨.str, _, _, _⟩ => asS a fun s => sliceOf e s lo hi fun s => k (.str s)
  | some ⟨.slice t', _, _, _⟩ => szOf τ t' fun sz => asL sz a fun l => sliceOf e l lo hi fun l => k (.sl sz l)
  | _ => none
def lenOp (e : Env) (c : Call) (k : AV → Option α) : Option α := match c.args.toList, c.argTypes.toList with
  | [x], [t] => opnd e x fun a => lenK τ t a k
  | _, _ => none
def minOp (mx : Bool) (e : Env) (c : Call) (k : AV → Option α) : Option α := match c.args.toList with
  | [x, y] => opnd e x fun a => opnd e y fun b => minK mx a b k
  | _ => none

/-- What an operation that only writes its own slot comes to. -/
def val (call : Nat → List AV → Option AV) (e : Env) (o : Oper) (k : AV → Option α) : Option α := match o.op with
  | .move x => opnd e x fun a => moveK τ o.type x a k
  | .assign x => opnd e x fun a => assignK τ o.type a k
  | .pick c a b => opnd e c fun c => asB c fun c => ifB c (opnd e a fun v => cast τ o.type v k) (opnd e b fun v => cast τ o.type v k)
  | .alloc t => infoK τ t fun i => k (.boxv i.sz (i.zero.map frz) (ownsOf 0 i.zero))
  | .box t x => opnd e x fun a => cast τ t a fun a => szOf τ t fun sz => cellsOf sz a fun c => k (.boxv sz c [])
  | .build t ps => structK τ t fun fs sz z => fillF τ fs e ps.toList (z.map frz) fun c => k (.agg sz c)
  | .buildSlice t n ps => elemK τ t fun t' => infoK τ t' fun i => guardK (Nat.ble (n * i.sz) 16777216) (fillL τ t' e ps.toList (List.replicate n (i.zero.map frz)) fun l => k (.own i.sz l))
  | .load t x => load τ e t x k
  | .fieldAddr t x f => fieldAddr τ e t x f k
  | .field t x f => opnd e x fun a => szOf τ t fun sz => asC sz a fun c => fieldAt τ t f fun off ft => loadElem τ ft sz c off k
  | .indexAddr t x i => elemK τ t fun t' => szOf τ t' fun sz => opnd e x fun a => asL sz a fun l => opnd e i fun i => asN i fun i => idx l i fun c => k (.eptr sz c 0)
  | .index t x i => opnd e x fun a => opnd e i fun i => asN i fun i => indexK τ t a i k
  | .slice t x lo hi none => opnd e x fun a => cutK τ t e a lo hi k
  | .binOp op t x y _ => opnd e x fun a => opnd e y fun b => bin τ t op a b k
  | .unOp op _ x => opnd e x fun a => un op a k
  | .convert src dst x => opnd e x fun a => infoK τ src fun i => guardK (notTup i.k) (convX τ src dst a k)
  | .extract x i => opnd e x fun a => compK i a k
  | .nilCheck x => opnd e x fun a => asF a fun f c => k (.fn f c)
  | .makeFunc (.func f) ⟨[]⟩ caps => opnds e caps.toList fun cs => guardK (cs.all capOK) (k (.fn f (cs.map frz)))
  | .call ⟨.builtin .len, args, ts⟩ => lenOp τ e ⟨.builtin .len, args, ts⟩ k
  | .call ⟨.builtin .min, args, ts⟩ => minOp false e ⟨.builtin .min, args, ts⟩ k
  | .call ⟨.builtin .max, args, ts⟩ => minOp true e ⟨.builtin .max, args, ts⟩ k
  | .call ⟨.value f, args, ts⟩ => opnd e f fun f => asF f fun f caps => opnds e args.toList fun l => castsA τ ts.toList l fun l => callK τ call f (l ++ caps) o.type k
  | _ => none

def holds : AV → Bool
  | .own _ _ => true
  | .boxv _ _ _ => true
  | _ => false
def setH (e : Env) (d : Option Nat) (v : AV) : Env := match d with
  | none => e
  | some d => pick2 (holds v) (set (kill d e) d v) (set e d v)

/-- The holder of a slice that is to grow: what it holds, and the env in which it holds it no more. -/
def takeT (e : Env) (sz s : Nat) (k : List (List AV) → Env → Option α) : AV → Option α
  | .own z l => guardK (Nat.beq z sz) (k l (set e s (.sl z l)))
  | .vw q _ _ => asO sz (e q) fun l => k l (set (set e q (.sl sz l)) s (.sl sz l))
  | .vwc q off _ _ => (match e q with
    | .boxv bz c m => getB c m off fun a => asO sz a fun l => k l (set (killc q (set e q (.boxv bz c ((off, .sl sz l) :: delO m off)))) s (.sl sz l))
    | _ => none)
  | .nil => k [] e
  | _ => none
def takeH (e : Env) (sz : Nat) (x : Operand) (k : List (List AV) → Env → Option α) : Option α := match x with
  | .tmp s => takeT e sz s k (e s)
  | .const (.slice none 0 0) => k [] e
  | _ => none

/-- A store to the box of slot d. -/
def putK (e : Env) (t d off bz sz : Nat) (c : List AV) (m : List (Nat × AV)) (x : Operand) (a : AV) (k : Env → Option α) : Option α := match x, a with
  | .tmp s, .own z l => sliceSz τ t fun z' => guardK (Nat.beq z' z) (k (set (killc d (set e s (.sl z l))) d (.boxv bz c ((off, .own z l) :: delO m off))))
  | _, .nil => sliceSz τ t fun z => k (set (killc d e) d (.boxv bz c ((off, .own z []) :: delO m off)))
  | _, a => cast τ t a fun a => cellsOf sz a fun c' => pick2 (Nat.beq off 0 && Nat.beq sz bz) (k (set (killc d e) d (.boxv bz c' [])))
      (getCs sz c' 0 fun l => k (set (killc d e) d (.boxv bz c (putM off l m))))
def storeBox (e : Env) (t d off bz : Nat) (c : List AV) (m : List (Nat × AV)) (x : Operand) (k : Env → Option α) : Option α := opnd e x fun a => szOf τ t fun sz =>
  guardK (Nat.ble (off + sz) bz) (putK τ e t d off bz sz c m x a k)
def storeT (e : Env) (t s : Nat) (x : Operand) (k : Env → Option α) : AV → Option α
  | .boxv z c m => storeBox τ e t s 0 z c m x k
  | .fptr d off => (match e d with | .boxv z c m => storeBox τ e t d off z c m x k | _ => none)
  | _ => none
def giveK (res : List Nat) (e : Env) (t d : Nat) (x : Operand) (a : AV) (k : Env → Option α) : Option α := match x, a with
  | .tmp s, .own z l => k (set (kill d (set e s (.sl z l))) d (.own z l))
  | .tmp s, .vw q z l => (match res.contains d, e q with
    | true, .own z' l' => k (set (kill d (set (set e q (.sl z' l')) s (.sl z' l'))) d (.own z' l'))
    | _, _ => k (set e d (.sl z l)))
  | _, .nil => sliceSz τ t fun z => k (set (kill d e) d (.own z []))
  | _, .own _ _ => none
  | _, .boxv _ _ _ => none
  | _, .fptr _ _ => none
  | _, .tup _ => none
  | _, a => k (set e d (cl a))
def partT (e : Env) (d : Option Nat) (s i : Nat) (k : Env → Option α) : AV → Option α
  | .tup l => getC l i fun a => (match a with
    | .own z a => k (setH (set e s (.tup (l.set i (.sl z a)))) d (.own z a))
    | a => nz a fun a => k (setO e d a))
  | _ => none

/-- A result that is several values goes to another slot. -/
def moveS (e : Env) (t s d : Nat) (k : Env → Option α) : AV → Option α
  | .tup l => k (set (set e s (.tup (l.map frz))) d (.tup l))
  | a => nz a fun a => moveK τ t (.tmp s) a fun v => k (setH e (some d) v)

/-- One operation behind the other. -/
def step (call : Nat → List AV → Option AV) (res : List Nat) (e : Env) (o : Oper) (k : Env → Option α) : Option α := match o.op, o.dst with
  | .assign x, some d => opnd e x fun a => giveK τ res e o.type d x a k
  | .move (.tmp s), some d => moveS τ e o.type s d k (e s)
  | .extract (.tmp s) i, d => partT e d s i k (e s)
  | .store t (.tmp s) x, none => storeT τ e t s x k (e s)
  | .call ⟨.builtin .append, ⟨[x, y]⟩, ⟨[t0, t1]⟩⟩, d => guardK (Nat.beq t0 t1) (sliceSz τ t0 fun sz => opnd e y fun b => asL sz b fun ys => takeH e sz x fun l e' =>
        guardK (Nat.ble (l.length + ys.length) lim) (k (setH e' d (.own sz (l ++ ys)))))
  | .assign _, none => none
  | _, d => val τ call e o fun v => k (setH e d v)

def dstAt (ops : List Oper) (j : Nat) : Option Nat := match ops[j]? with | some o => o.dst | none => none
def isPick (d : Nat) (o : Oper) : Bool := match o.op with | .pick (.tmp s) _ _ => Nat.beq s d | _ => false
/-- Two words on guards. -/
def clears (e : Env) : List (Oper × Nat) → Env
  | [] => e
  | o :: r => clears (setO e o.1.dst .undef) r
def other (b : Bool) (o : Oper) : Operand := match o.op with | .pick _ x y => pick2 b x y | _ => .const .nilFunc
def sameGuard (g h : Option (Nat × Bool)) : Bool := match g, h with
  | none, none => true
  | some (i, a), some (j, b) => Nat.beq i j && pick2 a b (!b)
  | _, _ => false
def gate (b c : Bool) (x y : Option α) : Option α := pick2 b (ifB c x y) (ifB c y x)
def asBv (a : AV) : Option Bool := asB a some
def bit (i : Nat) : Nat := 2 ^ i
def slotBit (d : Option Nat) : Nat := match d with | some d => bit d | none => 0
def bitAt (m i : Nat) : Bool := Nat.beq (Nat.land (Nat.shiftRight m i) 1) 1
/-- Some slots are not to be seen. -/
def maskE (bad : Nat) (e : Env) : Env := fun i => pick2 (bitAt bad i) .undef (e i)
/-- What looks at those slots goes. -/
def klB (m : Nat) : AV → AV
  | .fptr q off => pick2 (bitAt m q) .undef (.fptr q off)
  | .vw q sz l => pick2 (bitAt m q) (.sl sz l) (.vw q sz l)
  | .vwc q off sz l => pick2 (bitAt m q) (.sl sz l) (.vwc q off sz l)
  | a => a
def killB (m : Nat) (e : Env) : Env := fun i => klB m (e i)
def isOwn (a : AV) (k : Option α) : Option α := match a with | .own _ _ => k | _ => none
/-- What a value looks at is to be seen. -/
def refK (e : Env) (a : AV) (k : Option α) : Option α := match a with
  | .fptr q _ => isBox (e q) k
  | .vw q _ _ => isOwn (e q) k
  | .vwc q _ _ _ => isBox (e q) k
  | _ => k
/-- The operations up to the pick on slot d; with each, the slots that it may not see. -/
def upto (d : Nat) : List (Oper × Nat) → List (Oper × Nat) → Option (List (Oper × Nat) × (Oper × Nat) × List (Oper × Nat))
  | _, [] => none
  | acc, o :: r => match isPick d o.1 with | true => some (acc.reverse, o, r) | false => upto d (o :: acc) r
/-- Its guard's slot may be seen. -/
def seesG (all : List Oper) (o : Oper) (bad : Nat) : Bool := match o.guard with
  | none => true
  | some (j, _) => (match dstAt all j with | some d => !bitAt bad d | none => false)
/-- All of these hang on the guard, or on one of them. -/
def grpOk (all : List Oper) (g : Nat × Bool) : Nat → List (Oper × Nat) → Bool
  | _, [] => true
  | S, (o, bad) :: r => seesG all o bad && (sameGuard o.guard (some g) || (match o.guard with
      | some (j, _) => (match dstAt all j with | some d => bitAt S d | none => false)
      | none => false)) && grpOk all g (S ||| slotBit o.dst) r
/-- Operations that only write each a slot of its own, in any order; what hangs on a guard ('&&', '||') as one piece. 'cur': the guard that is known to hold. -/
def runHead (call : Nat → List AV → Option AV) (all : List Oper) : Nat → Option (Nat × Bool) → List (Oper × Nat) → Env → {α : Type} → (Env → Option α) → Option α
  | 0, _, _, _, _, _ => none
  | _ + 1, _, [], e, _, k => k e
  | n + 1, cur, (o, bad) :: r, e, _, k => match sameGuard o.guard cur with
    | true => guardK (seesG all o bad) (val τ call (maskE bad e) o fun v => refK (maskE bad e) v (runHead call all n cur r (setO e o.dst v) k))
    | false => (match o.guard with
      | none => none
      | some (j, b) => (match dstAt all j with
        | none => none
        | some d => (match upto d [(o, bad)] r with
          | none => none
          | some (grp, (p, pb), rest) => (match sameGuard p.guard cur, p.dst with
            | true, some pd => guardK (grpOk all (j, b) 0 grp && seesG all p pb && !bitAt pb d) (asB (e d) fun c => (gate b c
                (runHead call all n (some (j, b)) grp e fun e' => opnd (maskE pb e') (other b p) asBv)
                (opnd (maskE pb e) (other (!b) p) asBv)).bind fun v =>
                  runHead call all n cur rest (set (clears e grp) pd (.bool v)) k)
            | _, _ => none))))
def dstBits : List (Oper × Nat) → Nat
  | [] => 0
  | o :: r => slotBit o.1.dst ||| dstBits r
/-- No slot twice. -/
def nod : Nat → List (Oper × Nat) → Bool
  | _, [] => true
  | W, o :: r => Nat.beq (slotBit o.1.dst &&& W) 0 && nod (W ||| slotBit o.1.dst) r
def unseen : List Oper → List (Oper × Nat)
  | [] => []
  | o :: r => (o, 0) :: unseen r
/-- In their order each sees those ahead. -/
def annot (W : Nat) : Nat → List (Oper × Nat) → List (Oper × Nat)
  | _, [] => []
  | S, (o, _) :: r => (o, W ^^^ (W &&& S)) :: annot W (S ||| slotBit o.dst) r
def plainOps : List (Oper × Nat) → List Oper
  | [] => []
  | o :: r => o.1 :: plainOps r
/-- The operations of a region, in the order of the text. -/
def runOps (call : Nat → List AV → Option AV) (res : List Nat) (all : List Oper) : Nat → List Oper → Env → {α : Type} → (Env → Option α) → Option α
  | 0, _, _, _, _ => none
  | _ + 1, [], e, _, k => k e
  | n + 1, o :: r, e, _, k => match o.guard with
    | none => step τ call res e o fun e' => runOps call res all n r e' k
    | some (j, _) => (match dstAt all j with
      | none => none
      | some d => (match upto d [(o, 0)] (unseen r) with
        | none => none
        | some (grp, p, rest) => guardK (nod 0 (grp ++ [p]))
            (runHead τ call all (n + 1) none (annot (dstBits (grp ++ [p])) 0 (grp ++ [p])) (maskE (dstBits (grp ++ [p])) (killB (dstBits (grp ++ [p])) e)) fun e' =>
              runOps call res all n (plainOps rest) e' k)))

inductive Ex where
  | normal
  | exit (id : Nat)
  | ret
end

abbrev Kont := Ex → Env → Option AV
def seqK (r : Env → Option AV) (K : Kont) : Kont := fun x e => match x with
  | .normal => r e
  | .exit j => K (.exit j) e
  | .ret => K .ret e
def fst2 {α β : Type} (a : α) (_ : β) : α := a
/-- ('seqK' is named so that the kernel opens this one first.) -/
def blockK (id : Nat) (K : Kont) : Kont := fst2 (fun x e => match x with
  | .exit j => pick2 (Nat.beq j id) (K .normal e) (K (.exit j) e)
  | .normal => K .normal e
  | .ret => K .ret e) (seqK (fun _ => none) K)
/-- A loop, at most n rounds. -/
def iter : Nat → (Env → Env) → (Env → Kont → Option AV) → Kont → Env → Option AV
  | 0, _, _, _, _ => none
  | n + 1, fg, B, K, e => B e (seqK (fun e' => iter n fg B K (fg e')) K)

/-! ### Regions whose order is open -/
/-- For each operation: on which it waits, and which slots these write. (The list runs backwards.) -/
def waitsOf (all : List Oper) (n : Nat) (acc : List (Nat × Nat)) : List Edge → Nat × Nat
  | [] => (0, 0)
  | e :: r => match Region.binds .any e, waitsOf all n acc r with
    | true, (b, s) => (match acc[n - 1 - e.on]? with
      | some (b', s') => (b ||| bit e.on ||| b', s ||| slotBit (dstAt all e.on) ||| s')
      | none => (b, s))
    | false, x => x
def waits (all : List Oper) : Nat → List (Nat × Nat) → List Oper → List (Nat × Nat)
  | _, acc, [] => acc.reverse
  | n, acc, o :: r => waits all (n + 1) (waitsOf all n acc o.after.toList :: acc) r
def edgesOk (n : Nat) (l : List Edge) : Bool := l.all fun e => !Region.binds .any e || Nat.blt e.on n
def edgesAll : Nat → List Oper → Bool
  | _, [] => true
  | n, o :: r => edgesOk n o.after.toList && edgesAll (n + 1) r
def anyPick (o : Oper) : Bool := match o.op with | .pick _ _ _ => true | _ => false
/-- Behind how many of them does each wait for all ahead of it? (Both lists run backwards.) -/
def tailN : Nat → List (Nat × Nat) → List Oper → Nat
  | n + 1, (b, _) :: r, o :: os => pick2 (Nat.beq b (2 ^ n - 1) && (o.guard.isNone && !anyPick o)) (tailN n r os) (n + 1)
  | n, _, _ => n
def bads (W : Nat) : Nat → List (Nat × Nat) → List Oper → List (Oper × Nat)
  | m + 1, (_, s) :: ws, o :: os => (o, W ^^^ (W &&& s)) :: bads W m ws os
  | _, _, _ => []
/-- What may run in any order, and what follows in the order of the text. -/
def drawSplit (all : List Oper) : Option (List (Oper × Nat) × List Oper × Nat) :=
  let ws := waits all 0 [] all
  let m := tailN all.length ws.reverse all.reverse
  let W := dstBits (unseen (all.take m))
  pick2 (edgesAll 0 all && nod 0 (unseen (all.take m))) (some (bads W m ws all, all.drop m, W)) none

/-- The boxes that function literals take along: they are never written any more. -/
def shutB (a : AV) : AV := match a with
  | .boxv z c m => .eptr z (patch c m) 0
  | a => a
def shutAll (e : Env) : List Operand → Env
  | [] => e
  | .tmp s :: r => shutAll (set e s (shutB (e s))) r
  | _ :: r => shutAll e r
def shutOps (e : Env) : List Oper → Env
  | [] => e
  | o :: r => (match o.op with
    | .makeFunc _ _ caps => shutOps (shutAll e caps.toList) r
    | _ => shutOps e r)

def firstR : Code → Option Nat
  | .region id _ _ => some id
  | .seq a _ => firstR a
  | .block _ c => firstR c
  | .loop c => firstR c
  | _ => none
def fgOf (ann : Nat → Option (List Nat)) (c : Code) (e : Env) : Env := match firstR c with
  | some r => (match ann r with | some L => forget L e | none => e)
  | none => e

/-- Where two ways meet again. -/
def fgJ (ann : Nat → Option (List Nat)) (c : Code) (e : Env) : Env := match firstR c with
  | some r => (match ann (r + 1000000) with | some L => forget L e | none => e)
  | none => e

/-- A region. -/
def regRun (τ : Tab) (call : Nat → List AV → Option AV) (res : List Nat) (ops : List Oper) (draw : Bool) (e : Env) {α : Type} (k : Env → Option α) : Option α := match draw with
  | false => runOps τ call res ops (ops.length + 1) ops (shutOps (clean e) ops) k
  | true => (match drawSplit ops with
    | some (h, t, W) => runHead τ call ops (ops.length + 1) none h (maskE W (killB W (shutOps (clean e) ops))) fun e' => runOps τ call res ops (ops.length + 1) t e' k
    | none => none)
section
variable (τ : Tab) (ann : Nat → Option (List Nat)) (call : Nat → List AV → Option AV) (res : List Nat)
  (lp : (Env → Env) → (Env → Kont → Option AV) → Kont → Env → Option AV)
/-- What a code comes to. -/
def run : Code → Env → Kont → Option AV
  | .skip, e, K => K .normal e
  | .region id ops draw, e, K => regRun τ call res ops.toList draw e fun e' => K .normal e'
  | .seq a b, e, K => run a e (seqK (fun e' => run b (fgJ ann b e') K) K)
  | .cond c a b, e, K => opnd e c fun c => asB c fun c => ifB c (run a e K) (run b e K)
  | .block id c, e, K => run c e (blockK id K)
  | .loop c, e, K => lp (fgOf ann c) (run c) K (fgOf ann c e)
  | .exit id, e, K => K (.exit id) e
  | .ret, e, K => K .ret e
  | _, _, _ => none
/-- The piece of a code at a place. -/
def sub : Code → List Nat → Code
  | c, [] => c
  | .seq a b, i :: p => (match i with | 0 => sub a p | _ => sub b p)
  | .cond _ a b, i :: p => (match i with | 0 => sub a p | _ => sub b p)
  | .block _ c, _ :: p => sub c p
  | .loop c, _ :: p => sub c p
  | c, _ => c
/-- What follows behind it. -/
def kont : Code → List Nat → Kont → Kont
  | _, [], K => K
  | .seq a b, i :: p, K => (match i with
    | 0 => kont a p (seqK (fun e' => run τ ann call res lp b (fgJ ann b e') K) K)
    | _ => kont b p K)
  | .cond _ a b, i :: p, K => (match i with | 0 => kont a p K | _ => kont b p K)
  | .block id c, _ :: p, K => kont c p (blockK id K)
  | .loop c, _ :: p, K => kont c p (seqK (fun e' => lp (fgOf ann c) (run τ ann call res lp c) K (fgOf ann c e')) K)
  | _, _, K => K
end

/-- A result as it stands behind the call. -/
def resV (e : Env) : ResultVar → (AV → Option AV) → Option AV
  | .tmp t, k => nz (e t) fun a => (match a with
    | .vw _ sz l => k (.sl sz l)
    | .vwc _ _ sz l => k (.sl sz l)
    | .fptr _ _ => none
    | .boxv _ _ _ => none
    | .tup _ => none
    | a => k a)
  | .cell _ _, _ => none
def resC (τ : Tab) (e : Env) : ResultVar → (AV → Option AV) → Option AV
  | .cell s t, k => (match e s with
    | .boxv z c m => (match τ.T t with
      | some ⟨.struct _, sz, _, _⟩ => guardK (Nat.beq z sz) (k (.agg sz (patch c m)))
      | some ⟨.array _ _, _, _, _⟩ => none
      | some i => guardK (notTup i.k) (getB c m 0 fun a => nz a fun a => k a)
      | none => none)
    | _ => none)
  | r, k => resV e r k
def resAll (τ : Tab) (e : Env) : List ResultVar → (List AV → Option AV) → Option AV
  | [], k => k []
  | r :: rs, k => resC τ e r fun a => resAll τ e rs fun l => k (a :: l)
def oneOf : List AV → Option AV
  | [a] => some a
  | l => some (.tup l)
def retV (τ : Tab) (rs : List ResultVar) : Kont := fun x e => match x with
  | .exit _ => none
  | .normal => resAll τ e rs oneOf
  | .ret => resAll τ e rs oneOf
def resSlots : List ResultVar → List Nat
  | [] => []
  | .tmp t :: r => t :: resSlots r
  | .cell _ _ :: r => resSlots r
def argEnv : Nat → List AV → List (Nat × AV)
  | _, [] => []
  | n, a :: l => (n, a) :: argEnv (n + 1) l

/-- A function's code, and how its results stand. -/
structure FD where
  code : Code
  rs : List ResultVar
  nt : Nat
/-- The whole: tables; how loops and joins are cut; contracts proved elsewhere; the functions. -/
structure Sys where
  τ : Tab
  ann : Nat → Nat → Option (List Nat)
  O : Nat → Option (List AV → Option AV)
  F : Nat → Option FD
def bodyRun (S : Sys) (call : Nat → List AV → Option AV) (lp : (Env → Env) → (Env → Kont → Option AV) → Kont → Env → Option AV) (f : Nat) (d : FD) (l : List AV) : Option AV :=
  run S.τ (S.ann f) call (resSlots d.rs) lp d.code (look (argEnv 0 l)) (retV S.τ d.rs)
/-- A call, in n steps. -/
def acall (S : Sys) : Nat → Nat → List AV → Option AV
  | 0, _, _ => none
  | n + 1, f, l => match S.O f with
    | some g => g l
    | none => (match S.F f with
      | some d => bodyRun S (acall S n) (iter n) f d l
      | none => none)
end Go.Proofs.YtffojfcinkihnaaGreatDoor.Abs
