/- The reflective interpreter: plain values, and what a function's code comes to on them. -/
import Derived.Control
set_option linter.unusedVariables false
set_option linter.unusedSimpArgs false
set_option linter.unusedSectionVars false
set_option linter.deprecated false
set_option linter.unnecessarySimpa false
namespace Go.Proofs.YtmdimhcjogjcgaaGreatDoor.Abs

/-- Plain values: what a slot or a cell holds. -/
inductive AV where
  | undef
  | nil
  | bool (b : Bool)
  | int (k : IntKind) (n : Int)
  | str (s : List UInt8)
  | sl (sz : Nat) (l : List (List AV))
  | own (sz : Nat) (l : List (List AV))
  | agg (sz : Nat) (l : List AV)
  | boxv (sz : Nat) (l : List AV) (m : List (Nat × AV))
  | eptr (sz : Nat) (l : List AV) (o : Nat)
  | fptr (d off : Nat)
  | vw (d : Nat) (sz : Nat) (l : List (List AV))
  | vwc (d off : Nat) (sz : Nat) (l : List (List AV))
  | tup (l : List AV)
  | fn (f : Nat) (caps : List AV)
  | lit (sz : Nat) (l : List AV) (m : List (Nat × Nat))

abbrev Env := Nat → AV

def pick2 {α : Type} (b : Bool) (x y : α) : α := match b with | true => x | false => y
def set (e : Env) (d : Nat) (v : AV) : Env := fun i => pick2 (Nat.beq i d) v (e i)
def setO (e : Env) (d : Option Nat) (v : AV) : Env := match d with | some d => set e d v | none => e

/-- What stays of a value when a region ends: its region-local addresses and views go. -/
def cl : AV → AV
  | .fptr _ _ => .undef
  | .vw _ sz l => .sl sz l
  | .vwc _ _ sz l => .sl sz l
  | a => a
def clean (e : Env) : Env := fun i => cl (e i)
/-- Slot d gets a new holder: what looked at the old one goes. -/
def klv (d : Nat) : AV → AV
  | .fptr q off => pick2 (Nat.beq q d) .undef (.fptr q off)
  | .vw q sz l => pick2 (Nat.beq q d) (.sl sz l) (.vw q sz l)
  | .vwc q off sz l => pick2 (Nat.beq q d) (.sl sz l) (.vwc q off sz l)
  | a => a
def kill (d : Nat) (e : Env) : Env := fun i => klv d (e i)
/-- A cell of box d is written: the views of its cells go. -/
def klc (d : Nat) : AV → AV
  | .vwc q off sz l => pick2 (Nat.beq q d) (.sl sz l) (.vwc q off sz l)
  | a => a
def killc (d : Nat) (e : Env) : Env := fun i => klc d (e i)

/-- The env that holds just these slots. -/
def look : List (Nat × AV) → Nat → AV
  | [], _ => .undef
  | (j, v) :: r, i => pick2 (Nat.beq i j) v (look r i)
/-- What is stored of a value: a row of plain cells. -/
def frz : AV → AV
  | .own sz l => .sl sz l
  | .vw _ sz l => .sl sz l
  | .vwc _ _ sz l => .sl sz l
  | a => a
/-- The cells of a box: what was there, and what was written since. -/
def patch : List AV → List (Nat × AV) → List AV
  | c, [] => c
  | c, (o, a) :: r => (patch c r).set o (frz a)
def ovr : List (Nat × AV) → Nat → Option AV
  | [], _ => none
  | (o, a) :: r, i => pick2 (Nat.beq o i) (some a) (ovr r i)
def delO : List (Nat × AV) → Nat → List (Nat × AV)
  | [], _ => []
  | (o, a) :: r, i => pick2 (Nat.beq o i) (delO r i) ((o, a) :: delO r i)
def putM : Nat → List AV → List (Nat × AV) → List (Nat × AV)
  | _, [], m => m
  | o, a :: l, m => putM (o + 1) l ((o, a) :: delO m o)
def ownsOf : Nat → List AV → List (Nat × AV)
  | _, [] => []
  | o, .own z l :: r => (o, .own z l) :: ownsOf (o + 1) r
  | o, _ :: r => ownsOf (o + 1) r
def ownsG : Nat → List (Nat × AV) → List (Nat × AV)
  | _, [] => []
  | S, (o, .own z l) :: r => pick2 (Nat.beq (Nat.land (Nat.shiftRight S o) 1) 1) (ownsG S r) ((o, .own z l) :: ownsG (S ||| 2 ^ o) r)
  | S, (o, _) :: r => ownsG (S ||| 2 ^ o) r
def ownsM (m : List (Nat × AV)) : List (Nat × AV) := ownsG 0 m
def plainM : List (Nat × AV) → List (Nat × AV)
  | [] => []
  | (_, .own _ _) :: r => plainM r
  | x :: r => x :: plainM r
def cn (a : AV) : AV := match cl a with
  | .boxv z c m => .boxv z (patch c (plainM m)) (ownsM m)
  | a => a
def forget (L : List Nat) (e : Env) : Env := look (L.map fun i => (i, cn (e i)))

def ikn : IntKind → Nat
  | .i8 => 0 | .i16 => 1 | .i32 => 2 | .i64 => 3 | .u8 => 4 | .u16 => 5 | .u32 => 6 | .u64 => 7
def ikeq (a b : IntKind) : Bool := Nat.beq (ikn a) (ikn b)

section
variable {α : Type}
def ifB (b : Bool) (x y : Option α) : Option α := match b with | true => x | false => y
def guardK (b : Bool) (k : Option α) : Option α := match b with | true => k | false => none
def asB (a : AV) (k : Bool → Option α) : Option α := match a with | .bool b => k b | _ => none
def asI (kd : IntKind) (a : AV) (k : Int → Option α) : Option α := match a with | .int k' n => guardK (ikeq k' kd) (k n) | _ => none
def asN (a : AV) (k : Int → Option α) : Option α := match a with | .int _ n => k n | _ => none
def asS (a : AV) (k : List UInt8 → Option α) : Option α := match a with | .str s => k s | _ => none
def asL (sz : Nat) (a : AV) (k : List (List AV) → Option α) : Option α := match a with
  | .nil => k []
  | .sl s l => guardK (Nat.beq s sz) (k l)
  | .own s l => guardK (Nat.beq s sz) (k l)
  | .vw _ s l => guardK (Nat.beq s sz) (k l)
  | .vwc _ _ s l => guardK (Nat.beq s sz) (k l)
  | _ => none
def asO (sz : Nat) (a : AV) (k : List (List AV) → Option α) : Option α := match a with
  | .own s l => guardK (Nat.beq s sz) (k l)
  | _ => none
def asC (sz : Nat) (a : AV) (k : List AV → Option α) : Option α := match a with | .agg s c => guardK (Nat.beq s sz) (k c) | _ => none
def asT0 (a : AV) (k : Option α) : Option α := match a with | .tup [] => k | _ => none
def asT2 (a : AV) (k : AV → AV → Option α) : Option α := match a with | .tup [x, y] => k x y | _ => none
def asT3 (a : AV) (k : AV → AV → AV → Option α) : Option α := match a with | .tup [x, y, z] => k x y z | _ => none
def asT4 (a : AV) (k : AV → AV → AV → AV → Option α) : Option α := match a with | .tup [x, y, z, u] => k x y z u | _ => none
def asF (a : AV) (k : Nat → List AV → Option α) : Option α := match a with | .fn f c => k f c | _ => none
def getC (c : List AV) (off : Nat) (k : AV → Option α) : Option α := match c[off]? with | some a => k a | none => none
def getCs : Nat → List AV → Nat → (List AV → Option α) → Option α
  | 0, _, _, k => k []
  | n + 1, c, off, k => getC c off fun a => getCs n c (off + 1) fun r => k (a :: r)
end

/-- What is known of a type. -/
inductive TK where
  | bool | int (k : IntKind) | str | slice (e : Nat) | struct (fs : List (Nat × Nat)) | func | tuple (ts : List Nat) | array (n e : Nat)
structure TI where
  k : TK
  sz : Nat
  bytes : Nat
  zero : List AV

/-- What is known of the program: its types; of which results of a function the caller is the holder; its package-level variables. -/
structure Tab where
  T : Nat → Option TI
  RO : Nat → List Bool
  G : Nat → Option (List AV)
  U : Nat → Option (List Nat)

def lim : Nat := 1099511627776

section
variable (τ : Tab) {α : Type}
def szOf (t : Nat) (k : Nat → Option α) : Option α := match τ.T t with | some i => k i.sz | none => none
def sliceSz (t : Nat) (k : Nat → Option α) : Option α := match τ.T t with
  | some ⟨.slice e, _, _, _⟩ => szOf τ e k
  | _ => none
/-- A value of type t in its plain form. -/
def cast (t : Nat) (a : AV) (k : AV → Option α) : Option α := match τ.T t with
  | some ⟨.bool, _, _, _⟩ => asB a fun b => k (.bool b)
  | some ⟨.int kd, _, _, _⟩ => asI kd a fun n => k (.int kd n)
  | some ⟨.str, _, _, _⟩ => asS a fun s => k (.str s)
  | some ⟨.slice e, _, _, _⟩ => szOf τ e fun sz => asL sz a fun l => k (.sl sz l)
  | some ⟨.struct _, sz, _, _⟩ => asC sz a fun c => k (.agg sz c)
  | some ⟨.array _ _, sz, _, _⟩ => asC sz a fun c => k (.agg sz c)
  | some ⟨.func, _, _, _⟩ => asF a fun f c => k (.fn f c)
  | _ => none
/-- A result of type t, with the word on who holds it. -/
def castR (o : Bool) (t : Nat) (a : AV) (k : AV → Option α) : Option α := match o with
  | true => sliceSz τ t fun sz => asO sz a fun l => k (.own sz l)
  | false => cast τ t a k
def castsA : List Nat → List AV → (List AV → Option α) → Option α
  | [], [], k => k []
  | t :: ts, a :: l, k => cast τ t a fun a' => castsA ts l fun l' => k (a' :: l')
  | _, _, _ => none
def retK (o : List Bool) (t : Nat) (r : AV) (k : AV → Option α) : Option α := match τ.U t with
  | some ts => (match ts with
    | [] => asT0 r (k (.tup []))
    | [t0, t1] => asT2 r fun a0 a1 => castR τ (o.getD 0 false) t0 a0 fun b0 => castR τ (o.getD 1 false) t1 a1 fun b1 => k (.tup [b0, b1])
    | [t0, t1, t2] => asT3 r fun a0 a1 a2 => castR τ (o.getD 0 false) t0 a0 fun b0 => castR τ (o.getD 1 false) t1 a1 fun b1 => castR τ (o.getD 2 false) t2 a2 fun b2 => k (.tup [b0, b1, b2])
    | [t0, t1, t2, t3] => asT4 r fun a0 a1 a2 a3 => castR τ (o.getD 0 false) t0 a0 fun b0 => castR τ (o.getD 1 false) t1 a1 fun b1 => castR τ (o.getD 2 false) t2 a2 fun b2 => castR τ (o.getD 3 false) t3 a3 fun b3 => k (.tup [b0, b1, b2, b3])
    | _ => none)
  | none => castR τ (o.getD 0 false) t r k

/-- A constant. -/
def cv : Value → AV
  | .bool b => .bool b
  | .int k n => .int k n
  | .string s => .str s.data.toList
  | .slice none 0 0 => .nil
  | .func (.func f) _ _ => .undef
  | _ => .undef
def nz (a : AV) (k : AV → Option α) : Option α := match a with | .undef => none | a => k a
/-- A struct that was put together just now is a struct. -/
def unlit : AV → AV
  | .lit sz l _ => .agg sz l
  | a => a
def opnd (e : Env) (x : Operand) (k : AV → Option α) : Option α := match x with
  | .tmp t => nz (unlit (e t)) k
  | .const v => nz (cv v) k
  | .global _ => none
  | .func f => k (.fn f [])
def opnds (e : Env) : List Operand → (List AV → Option α) → Option α
  | [], k => k []
  | x :: xs, k => opnd e x fun a => opnds e xs fun l => k (a :: l)
/-- The cells of a value in its plain form, of 'sz' cells. -/
def cellsOf (sz : Nat) (a : AV) (k : List AV → Option α) : Option α := match a with
  | .agg s c => guardK (Nat.beq s sz) (k c)
  | .bool b => k [.bool b] | .int kd n => k [.int kd n] | .str s => k [.str s]
  | .sl s l => k [.sl s l] | .fn f c => k [.fn f c]
  | _ => none
def splice (z : List AV) (off : Nat) (c : List AV) : List AV := z.take off ++ (c ++ z.drop (off + c.length))
def fillF (fs : List (Nat × Nat)) (e : Env) : List (Nat × Operand) → List AV → (List AV → Option α) → Option α
  | [], z, k => k z
  | (i, x) :: r, z, k => match fs[i]? with
    | none => none
    | some (off, t) => opnd e x fun a => cast τ t a fun a' => szOf τ t fun sz => cellsOf sz a' fun c => fillF fs e r (splice z off c) k
def fillL (t : Nat) (e : Env) : List (Nat × Operand) → List (List AV) → (List (List AV) → Option α) → Option α
  | [], z, k => k z
  | (i, x) :: r, z, k => guardK (Nat.blt i z.length) (opnd e x fun a => cast τ t a fun a' => szOf τ t fun sz => cellsOf sz a' fun c => fillL t e r (z.set i c) k)

def getB (c : List AV) (m : List (Nat × AV)) (off : Nat) (k : AV → Option α) : Option α := match ovr m off with
  | some a => k a
  | none => getC c off k
def getBs : Nat → List AV → List (Nat × AV) → Nat → (List AV → Option α) → Option α
  | 0, _, _, _, k => k []
  | n + 1, c, m, off, k => getB c m off fun a => getBs n c m (off + 1) fun r => k (a :: r)
def sliceB (d off sz : Nat) (a : AV) (k : AV → Option α) : Option α := match a with
  | .own s l => guardK (Nat.beq s sz) (k (.vwc d off sz l))
  | a => asL sz a fun l => k (.sl sz l)
/-- A load from the box of slot d. -/
def loadBox (t d : Nat) (z : Nat) (c : List AV) (m : List (Nat × AV)) (off : Nat) (k : AV → Option α) : Option α := match τ.T t with
  | some ⟨.struct _, sz, _, _⟩ => pick2 (Nat.beq off 0 && Nat.beq z sz) (k (.agg sz (patch c m))) (getBs sz c m off fun c' => k (.agg sz (c'.map frz)))
  | some ⟨.slice e, _, _, _⟩ => szOf τ e fun sz => (match ovr m off with
    | some a => sliceB d off sz a k
    | none => getC c off fun a => asL sz a fun l => k (.sl sz l))
  | some ⟨.array _ _, _, _, _⟩ => none
  | _ => getB c m off fun a => cast τ t a k
/-- A load from cells that nobody writes. -/
def loadElem (t : Nat) (z : Nat) (c : List AV) (off : Nat) (k : AV → Option α) : Option α := match τ.T t with
  | some ⟨.struct _, sz, _, _⟩ => pick2 (Nat.beq off 0 && Nat.beq z sz) (k (.agg sz c)) (getCs sz c off fun c' => k (.agg sz c'))
  | some ⟨.array _ _, sz, _, _⟩ => guardK (Nat.beq off 0 && Nat.beq z sz) (k (.agg sz c))
  | _ => getC c off fun a => cast τ t a k
def loadT (e : Env) (t s : Nat) (k : AV → Option α) : AV → Option α
  | .boxv z c m => loadBox τ t s z c m 0 k
  | .fptr d off => (match e d with | .boxv z c m => loadBox τ t d z c m off k | _ => none)
  | .eptr z c off => loadElem τ t z c off k
  | _ => none
def load (e : Env) (t : Nat) (x : Operand) (k : AV → Option α) : Option α := match x with
  | .tmp s => loadT τ e t s k (e s)
  | .global g => (match τ.G g with | some c => loadElem τ t c.length c 0 k | none => none)
  | _ => none
def fieldAt (t f : Nat) (k : Nat → Nat → Option α) : Option α := match τ.T t with
  | some ⟨.struct fs, _, _, _⟩ => (match fs[f]? with | some (off, ft) => k off ft | none => none)
  | _ => none
def isBox (a : AV) (k : Option α) : Option α := match a with | .boxv _ _ _ => k | _ => none
def fieldT (e : Env) (s off : Nat) (k : AV → Option α) : AV → Option α
  | .boxv _ _ _ => k (.fptr s off)
  | .fptr d o => isBox (e d) (k (.fptr d (o + off)))
  | .eptr z c o => k (.eptr z c (o + off))
  | _ => none
def fieldAddr (e : Env) (t : Nat) (x : Operand) (f : Nat) (k : AV → Option α) : Option α := fieldAt τ t f fun off _ => match x with
  | .tmp s => fieldT e s off k (e s)
  | _ => none
/-- Element i. -/
def idx {β : Type} (l : List β) (i : Int) (k : β → Option α) : Option α := guardK (decide (0 ≤ i)) (match l[i.toNat]? with | some c => k c | none => none)
/-- The piece from lo to hi. -/
def cut {β : Type} (l : List β) (lo hi : Int) (k : List β → Option α) : Option α :=
  guardK (decide (0 ≤ lo) && decide (lo ≤ hi) && decide (hi ≤ l.length)) (k ((l.take hi.toNat).drop lo.toNat))
def cutFrom {β : Type} (l : List β) (lo : Int) (k : List β → Option α) : Option α :=
  guardK (decide (0 ≤ lo) && decide (lo ≤ l.length)) (k (l.drop lo.toNat))
def cutTo {β : Type} (l : List β) (hi : Int) (k : List β → Option α) : Option α :=
  guardK (decide (0 ≤ hi) && decide (hi ≤ l.length)) (k (l.take hi.toNat))
def sliceOf {β : Type} (e : Env) (l : List β) (lo hi : Option Operand) (k : List β → Option α) : Option α := match lo, hi with
  | none, none => k l
  | some a, none => opnd e a fun a => asN a fun a => cutFrom l a k
  | none, some b => opnd e b fun b => asN b fun b => cutTo l b k
  | some a, some b => opnd e a fun a => asN a fun a => opnd e b fun b => asN b fun b => cut l a b k
def bytesLt : List UInt8 → List UInt8 → Bool
  | _, [] => false
  | [], _ :: _ => true
  | a :: x, b :: y => decide (a < b) || (a == b && bytesLt x y)
def bitsI (op : BinOp) (kd : IntKind) (x y : Int) : Int :=
  let a := BitVec.ofInt kd.bits x
  let b := BitVec.ofInt kd.bits y
  kd.wrap (match op with | .and => (a &&& b).toNat | .or => (a ||| b).toNat | .xor => (a ^^^ b).toNat | _ => (a &&& ~~~b).toNat : Nat)
def binI (op : BinOp) (kd : IntKind) (x y : Int) (k : AV → Option α) : Option α := match op with
  | .add => k (.int kd (kd.wrap (x + y)))
  | .sub => k (.int kd (kd.wrap (x - y)))
  | .mul => k (.int kd (kd.wrap (x * y)))
  | .quo => guardK (!decide (y = 0)) (k (.int kd (kd.wrap (x.tdiv y))))
  | .rem => guardK (!decide (y = 0)) (k (.int kd (x.tmod y)))
  | .eql => k (.bool (decide (x = y)))
  | .neq => k (.bool (!decide (x = y)))
  | .lss => k (.bool (decide (x < y)))
  | .leq => k (.bool (decide (x ≤ y)))
  | .gtr => k (.bool (decide (y < x)))
  | .geq => k (.bool (decide (y ≤ x)))
  | .and => k (.int kd (bitsI .and kd x y))
  | .or => k (.int kd (bitsI .or kd x y))
  | .xor => k (.int kd (bitsI .xor kd x y))
  | .andNot => k (.int kd (bitsI .andNot kd x y))
  | _ => none
def shI (op : BinOp) (kd : IntKind) (x y : Int) (k : AV → Option α) : Option α := match op with
  | .shl => guardK (decide (0 ≤ y)) (k (.int kd (kd.wrap (x * 2 ^ (min y.toNat kd.bits)))))
  | .shr => guardK (decide (0 ≤ y)) (k (.int kd (x.fdiv (2 ^ (min y.toNat kd.bits)))))
  | _ => none
def isSh (op : BinOp) : Bool := match op with | .shl => true | .shr => true | _ => false
def binS (op : BinOp) (x y : List UInt8) (k : AV → Option α) : Option α := match op with
  | .add => guardK (Nat.ble (x.length + y.length) lim) (k (.str (x ++ y)))
  | .eql => k (.bool (decide (x = y)))
  | .neq => k (.bool (!decide (x = y)))
  | .lss => k (.bool (bytesLt x y))
  | .leq => k (.bool (bytesLt x y || decide (x = y)))
  | .gtr => k (.bool (!(bytesLt x y || decide (x = y))))
  | .geq => k (.bool (!bytesLt x y))
  | _ => none
def binB (t : Nat) (op : BinOp) (x y : Bool) (k : AV → Option α) : Option α := match τ.T t, op with
  | some ⟨.bool, _, _, _⟩, .eql => k (.bool (x == y))
  | some ⟨.bool, _, _, _⟩, .neq => k (.bool (!(x == y)))
  | _, _ => none
def bin (t : Nat) (op : BinOp) (a b : AV) (k : AV → Option α) : Option α := match a, b with
  | .int k1 x, .int k2 y => (match isSh op with | true => shI op k1 x y k | false => guardK (ikeq k1 k2) (binI op k1 x y k))
  | .str x, .str y => binS op x y k
  | .bool x, .bool y => binB τ t op x y k
  | _, _ => none
def un (op : UnOp) (a : AV) (k : AV → Option α) : Option α := match op, a with
  | .not, .bool b => k (.bool (!b))
  | .neg, .int kd n => k (.int kd (kd.wrap (0 - n)))
  | _, _ => none
def notTup : TK → Bool
  | .tuple _ => false
  | _ => true
def conv (dst : Nat) (a : AV) (k : AV → Option α) : Option α := match τ.T dst, a with
  | some ⟨.int kd, _, _, _⟩, .int _ n => k (.int kd (kd.wrap n))
  | some ⟨.str, _, _, _⟩, .str s => k (.str s)
  | _, _ => none
def isSl (a : AV) : Bool := match a with
  | .sl _ _ => true | .own _ _ => true | .vw _ _ _ => true | .vwc _ _ _ _ => true | .nil => true | _ => false
def bytesOf : List (List AV) → Option (List UInt8)
  | [] => some []
  | [.int .u8 n] :: r => (match bytesOf r with | some l => some (UInt8.ofNat n.toNat :: l) | none => none)
  | _ => none
def bytesK (l : List (List AV)) (k : List UInt8 → Option α) : Option α := match bytesOf l with | some s => k s | none => none
def u8K (src : Nat) (k : Option α) : Option α := match τ.T src with
  | some ⟨.slice e, _, _, _⟩ => (match τ.T e with | some ⟨.int .u8, _, _, _⟩ => k | _ => none)
  | _ => none
/-- string(b) of a row of bytes. -/
def convB (src dst : Nat) (a : AV) (k : AV → Option α) : Option α := match τ.T dst with
  | some ⟨.str, _, _, _⟩ => u8K τ src (asL 1 a fun l => bytesK l fun s => k (.str s))
  | _ => none
def convX (src dst : Nat) (a : AV) (k : AV → Option α) : Option α := pick2 (isSl a) (convB τ src dst a k) (conv τ dst a k)
def callK (call : Nat → List AV → Option AV) (f : Nat) (args : List AV) (t : Nat) (k : AV → Option α) : Option α :=
  (call f args).bind fun r => retK τ (τ.RO f) t r k
def lenK (t : Nat) (a : AV) (k : AV → Option α) : Option α := match τ.T t with
  | some ⟨.str, _, _, _⟩ => asS a fun s => k (.int .i64 s.length)
  | some ⟨.slice e, _, _, _⟩ => szOf τ e fun sz => asL sz a fun l => k (.int .i64 l.length)
  | some ⟨.array n _, _, _, _⟩ => k (.int .i64 n)
  | _ => none
def minK (mx : Bool) (a b : AV) (k : AV → Option α) : Option α := match a, b with
  | .int k1 x, .int _ y => k (.int k1 (pick2 mx (max x y) (min x y)))
  | _, _ => none

def capOK : AV → Bool
  | .undef => false
  | .agg _ _ => false
  | .lit _ _ _ => false
  | .boxv _ _ _ => false
  | .fptr _ _ => false
  | .tup _ => false
  | _ => true
def moveK (t : Nat) (x : Operand) (a : AV) (k : AV → Option α) : Option α := match x, a with
  | .tmp s, .own sz l => k (.vw s sz l)
  | _, .own _ _ => none
  | _, .boxv _ _ _ => none
  | _, .tup _ => none
  | _, .nil => cast τ t .nil k
  | _, a => k a
def assignK (t : Nat) (a : AV) (k : AV → Option α) : Option α := match a with
  | .own _ _ => none
  | .boxv _ _ _ => none
  | .fptr _ _ => none
  | .tup _ => none
  | .nil => sliceSz τ t fun sz => k (.own sz [])
  | a => k (cl a)
def compK (i : Nat) (a : AV) (k : AV → Option α) : Option α := match a with
  | .tup l => getC l i fun a => nz (frz a) k
  | _ => none
def infoK (t : Nat) (k : TI → Option α) : Option α := match τ.T t with | some i => k i | none => none
def structK (t : Nat) (k : List (Nat × Nat) → Nat → List AV → Option α) : Option α := match τ.T t with
  | some ⟨.struct fs, sz, _, z⟩ => k fs sz z
  | _ => none
def elemK (t : Nat) (k : Nat → Option α) : Option α := match τ.T t with
  | some ⟨.slice e, _, _, _⟩ => k e
  | _ => none
def indexK (t : Nat) (a : AV) (i : Int) (k : AV → Option α) : Option α := match τ.T t with
  | some ⟨.str, _, _, _⟩ => asS a fun s => idx s i fun c => k (.int .u8 c.toNat)
  | some ⟨.array n t', sz, _, _⟩ => szOf τ t' fun z => guardK (Nat.beq z 1 && Nat.beq sz n) (asC sz a fun c => idx c i fun c => cast τ t' c k)
  | _ => none
def cutK (t : Nat) (e : Env) (a : AV) (lo hi : Option Operand) (k : AV → Option α) : Option α := match τ.T t with
  | some ⟨.str, _, _, _⟩ => asS a fun s => sliceOf e s lo hi fun s => k (.str s)
  | some ⟨.slice t', _, _, _⟩ => szOf τ t' fun sz => asL sz a fun l => sliceOf e l lo hi fun l => k (.sl sz l)
  | _ => none
def lenOp (e : Env) (c : Call) (k : AV → Option α) : Option α := match c.args.toList, c.argTypes.toList with
  | [x], [t] => opnd e x fun a => lenK τ t a k
  | _, _ => none
def minOp (mx : Bool) (e : Env) (c : Call) (k : AV → Option α) : Option α := match c.args.toList with
  | [x, y] => opnd e x fun a => opnd e y fun b => minK mx a b k
  | _ => none

/-- The nil slices of a struct of which these parts are set: where they stand, and the size of their elements. -/
def covers (fs : List (Nat × Nat)) (i j : Nat) : Bool := match fs[i]? with
  | some (off, t) => (match τ.T t with | some ti => Nat.ble off j && Nat.blt j (off + ti.sz) | none => true)
  | none => true
def isSet (fs : List (Nat × Nat)) : List (Nat × Operand) → Nat → Bool
  | [], _ => false
  | (i, _) :: r, j => covers τ fs i j || isSet fs r j
def nilM (fs : List (Nat × Nat)) (ps : List (Nat × Operand)) : Nat → List AV → List (Nat × Nat)
  | _, [] => []
  | j, .own z _ :: r => pick2 (isSet τ fs ps j) (nilM fs ps (j + 1) r) ((j, z) :: nilM fs ps (j + 1) r)
  | j, _ :: r => nilM fs ps (j + 1) r
def litK (m : List (Nat × Nat)) (sz : Nat) (c : List AV) (k : AV → Option α) : Option α := match m with
  | [] => k (.agg sz c)
  | m => k (.lit sz c m)

/-- The address of an element: of a slice, or of a package-level array of one cell each. -/
def idxAddr (e : Env) (t : Nat) (x i : Operand) (k : AV → Option α) : Option α := match x with
  | .global g => (match τ.T t, τ.G g with
    | some ⟨.array n t', _, _, _⟩, some c => szOf τ t' fun z => guardK (Nat.beq z 1 && Nat.beq c.length n) (opnd e i fun i => asN i fun i => idx c i fun a => k (.eptr 1 [a] 0))
    | _, _ => none)
  | x => elemK τ t fun t' => szOf τ t' fun sz => opnd e x fun a => asL sz a fun l => opnd e i fun i => asN i fun i => idx l i fun c => k (.eptr sz c 0)
/-- What an operation that only writes its own slot comes to. -/
def val (call : Nat → List AV → Option AV) (e : Env) (o : Oper) (k : AV → Option α) : Option α := match o.op with
  | .move x => opnd e x fun a => moveK τ o.type x a k
  | .assign x => opnd e x fun a => assignK τ o.type a k
  | .pick c a b => opnd e c fun c => asB c fun c => ifB c (opnd e a fun v => cast τ o.type v k) (opnd e b fun v => cast τ o.type v k)
  | .alloc t => infoK τ t fun i => k (.boxv i.sz (i.zero.map frz) (ownsOf 0 i.zero))
  | .box t x => opnd e x fun a => cast τ t a fun a => szOf τ t fun sz => cellsOf sz a fun c => k (.boxv sz c [])
  | .build t ps => structK τ t fun fs sz z => fillF τ fs e ps.toList (z.map frz) fun c => litK (nilM τ fs ps.toList 0 z) sz c k
  | .buildSlice t n ps => elemK τ t fun t' => infoK τ t' fun i => guardK (Nat.ble (n * i.sz) 16777216) (fillL τ t' e ps.toList (List.replicate n (i.zero.map frz)) fun l => k (.own i.sz l))
  | .load t x => load τ e t x k
  | .fieldAddr t x f => fieldAddr τ e t x f k
  | .field t x f => opnd e x fun a => szOf τ t fun sz => asC sz a fun c => fieldAt τ t f fun off ft => loadElem τ ft sz c off k
  | .indexAddr t x i => idxAddr τ e t x i k
  | .index t x i => opnd e x fun a => opnd e i fun i => asN i fun i => indexK τ t a i k
  | .slice t x lo hi none => opnd e x fun a => cutK τ t e a lo hi k
  | .binOp op t x y _ => opnd e x fun a => opnd e y fun b => bin τ t op a b k
  | .unOp op _ x => opnd e x fun a => un op a k
  | .convert src dst x => opnd e x fun a => infoK τ src fun i => guardK (notTup i.k) (convX τ src dst a k)
  | .extract x i => opnd e x fun a => compK i a k
  | .nilCheck x => opnd e x fun a => asF a fun f c => k (.fn f c)
  | .makeFunc (.func f) ⟨[]⟩ caps => opnds e caps.toList fun cs => guardK (cs.all capOK) (k (.fn f (cs.map frz)))
  | .call ⟨.builtin .len, args, ts⟩ => lenOp τ e ⟨.builtin .len, args, ts⟩ k
  | .call ⟨.builtin .min, args, ts⟩ => minOp false e ⟨.builtin .min, args, ts⟩ k
  | .call ⟨.builtin .max, args, ts⟩ => minOp true e ⟨.builtin .max, args, ts⟩ k
  | .call ⟨.value f, args, ts⟩ => opnd e f fun f => asF f fun f caps => opnds e args.toList fun l => castsA τ ts.toList l fun l => callK τ call f (l ++ caps) o.type k
  | _ => none

def holds : AV → Bool
  | .own _ _ => true
  | .boxv _ _ _ => true
  | _ => false
def setH (e : Env) (d : Option Nat) (v : AV) : Env := match d with
  | none => e
  | some d => pick2 (holds v) (set (kill d e) d v) (set e d v)

/-- The holder of a slice that is to grow: what it holds, and the env in which it holds it no more. -/
def takeT (e : Env) (sz s : Nat) (k : List (List AV) → Env → Option α) : AV → Option α
  | .own z l => guardK (Nat.beq z sz) (k l (set e s (.sl z l)))
  | .vw q _ _ => asO sz (e q) fun l => k l (set (set e q (.sl sz l)) s (.sl sz l))
  | .vwc q off _ _ => (match e q with
    | .boxv bz c m => getB c m off fun a => asO sz a fun l => k l (set (killc q (set e q (.boxv bz c ((off, .sl sz l) :: delO m off)))) s (.sl sz l))
    | _ => none)
  | .nil => k [] e
  | _ => none
def takeH (e : Env) (sz : Nat) (x : Operand) (k : List (List AV) → Env → Option α) : Option α := match x with
  | .tmp s => takeT e sz s k (e s)
  | .const (.slice none 0 0) => k [] e
  | _ => none

/-- A store to the box of slot d. -/
def putK (e : Env) (t d off bz sz : Nat) (c : List AV) (m : List (Nat × AV)) (x : Operand) (a : AV) (k : Env → Option α) : Option α := match x, a with
  | .tmp s, .own z l => sliceSz τ t fun z' => guardK (Nat.beq z' z) (k (set (killc d (set e s (.sl z l))) d (.boxv bz c ((off, .own z l) :: delO m off))))
  | _, .nil => sliceSz τ t fun z => k (set (killc d e) d (.boxv bz c ((off, .own z []) :: delO m off)))
  | _, a => cast τ t a fun a => cellsOf sz a fun c' => pick2 (Nat.beq off 0 && Nat.beq sz bz) (k (set (killc d e) d (.boxv bz c' [])))
      (getCs sz c' 0 fun l => k (set (killc d e) d (.boxv bz c (putM off l m))))
def ownZ : List (Nat × Nat) → List (Nat × AV)
  | [] => []
  | (j, z) :: r => (j, .own z []) :: ownZ r
def litAt (e : Env) (x : Operand) : Option (List (Nat × Nat)) := match x with
  | .tmp s => (match e s with | .lit _ _ m => some m | _ => none)
  | _ => none
def storeK (e : Env) (t d off bz sz : Nat) (c : List AV) (m : List (Nat × AV)) (x : Operand) (a : AV) (k : Env → Option α) : Option α := match litAt e x with
  | some mm => pick2 (Nat.beq off 0 && Nat.beq sz bz) (cast τ t a fun a => cellsOf sz a fun c' => k (set (killc d e) d (.boxv bz c' (ownZ mm)))) (putK τ e t d off bz sz c m x a k)
  | none => putK τ e t d off bz sz c m x a k
def storeBox (e : Env) (t d off bz : Nat) (c : List AV) (m : List (Nat × AV)) (x : Operand) (k : Env → Option α) : Option α := opnd e x fun a => szOf τ t fun sz =>
  guardK (Nat.ble (off + sz) bz) (storeK τ e t d off bz sz c m x a k)
def storeT (e : Env) (t s : Nat) (x : Operand) (k : Env → Option α) : AV → Option α
  | .boxv z c m => storeBox τ e t s 0 z c m x k
  | .fptr d off => (match e d with | .boxv z c m => storeBox τ e t d off z c m x k | _ => none)
  | _ => none
def giveK (res : List Nat) (e : Env) (t d : Nat) (x : Operand) (a : AV) (k : Env → Option α) : Option α := match x, a with
  | .tmp s, .own z l => k (set (kill d (set e s (.sl z l))) d (.own z l))
  | .tmp s, .vw q z l => (match res.contains d, e q with
    | true, .own z' l' => k (set (kill d (set (set e q (.sl z' l')) s (.sl z' l'))) d (.own z' l'))
    | _, _ => k (set e d (.sl z l)))
  | _, .nil => sliceSz τ t fun z => k (set (kill d e) d (.own z []))
  | _, .own _ _ => none
  | _, .boxv _ _ _ => none
  | _, .fptr _ _ => none
  | _, .tup _ => none
  | _, a => k (set e d (cl a))
def partT (e : Env) (d : Option Nat) (s i : Nat) (k : Env → Option α) : AV → Option α
  | .tup l => getC l i fun a => (match a with
    | .own z a => k (setH (set e s (.tup (l.set i (.sl z a)))) d (.own z a))
    | a => nz a fun a => k (setO e d a))
  | _ => none

/-- A result that is several values goes to another slot. -/
def moveS (e : Env) (t s d : Nat) (k : Env → Option α) : AV → Option α
  | .tup l => k (set (set e s (.tup (l.map frz))) d (.tup l))
  | a => nz (unlit a) fun a => moveK τ t (.tmp s) a fun v => k (setH e (some d) v)

/-- One operation behind the other. -/
def step (call : Nat → List AV → Option AV) (res : List Nat) (e : Env) (o : Oper) (k : Env → Option α) : Option α := match o.op, o.dst with
  | .assign x, some d => opnd e x fun a => giveK τ res e o.type d x a k
  | .move (.tmp s), some d => moveS τ e o.type s d k (e s)
  | .extract (.tmp s) i, d => partT e d s i k (e s)
  | .store t (.tmp s) x, none => storeT τ e t s x k (e s)
  | .call ⟨.builtin .append, ⟨[x, y]⟩, ⟨[t0, t1]⟩⟩, d => guardK (Nat.beq t0 t1) (sliceSz τ t0 fun sz => opnd e y fun b => asL sz b fun ys => takeH e sz x fun l e' =>
        guardK (Nat.ble (l.length + ys.length) lim) (k (setH e' d (.own sz (l ++ ys)))))
  | .assign _, none => none
  | _, d => val τ call e o fun v => k (setH e d v)

def dstAt (ops : List Oper) (j : Nat) : Option Nat := match ops[j]? with | some o => o.dst | none => none
/-- A store that may run among others: its type, the slot of its box, what is stored. -/
def stT (o : Oper) : Option (Nat × Nat × Operand) := match o.op, o.dst with
  | .store t (.tmp s) x, none => some (t, s, x)
  | _, _ => none
/-- The slot that an operation changes. -/
def dq (o : Oper) : Option Nat := match stT o with
  | some (_, s, _) => some s
  | none => o.dst
def dqAt (ops : List Oper) (j : Nat) : Option Nat := match ops[j]? with | some o => dq o | none => none
def plainV (a : AV) (k : AV → Option α) : Option α := match a with
  | .agg s c => k (.agg s c)
  | .bool b => k (.bool b)
  | .int i n => k (.int i n)
  | .str s => k (.str s)
  | _ => none
def stOp (e : Env) (x : Operand) (k : AV → Option α) : Option α := match x with
  | .tmp u => plainV (e u) k
  | .const v => plainV (cv v) k
  | _ => none
/-- The box behind a store. -/
def stBox (t : Nat) (e : Env) (x : Operand) (b : AV) (k : AV → Option α) : Option α := match b with
  | .boxv z c m => stOp e x fun a => szOf τ t fun sz => guardK (Nat.ble (0 + sz) z) (cast τ t a fun a => cellsOf sz a fun c' => pick2 (Nat.beq 0 0 && Nat.beq sz z) (k (.boxv z c' []))
      (getCs sz c' 0 fun l => k (.boxv z c (putM 0 l m))))
  | _ => none
def isPick (d : Nat) (o : Oper) : Bool := match o.op with | .pick (.tmp s) _ _ => Nat.beq s d | _ => false
/-- Two words on guards. -/
def clears (e : Env) : List (Oper × Nat) → Env
  | [] => e
  | o :: r => clears (setO e (dq o.1) .undef) r
def other (b : Bool) (o : Oper) : Operand := match o.op with | .pick _ x y => pick2 b x y | _ => .const .nilFunc
def sameGuard (g h : Option (Nat × Bool)) : Bool := match g, h with
  | none, none => true
  | some (i, a), some (j, b) => Nat.beq i j && pick2 a b (!b)
  | _, _ => false
def gate (b c : Bool) (x y : Option α) : Option α := pick2 b (ifB c x y) (ifB c y x)
def asBv (a : AV) : Option Bool := asB a some
def bit (i : Nat) : Nat := 2 ^ i
def slotBit (d : Option Nat) : Nat := match d with | some d => bit d | none => 0
def bitAt (m i : Nat) : Bool := Nat.beq (Nat.land (Nat.shiftRight m i) 1) 1
/-- Some slots are not to be seen. -/
def maskE (bad : Nat) (e : Env) : Env := fun i => pick2 (bitAt bad i) .undef (e i)
def onlyBox (a : AV) : AV := match a with
  | .boxv z c m => .boxv z c m
  | _ => .undef
/-- Of some slots only the boxes are kept. -/
def maskB (bad : Nat) (e : Env) : Env := fun i => pick2 (bitAt bad i) (onlyBox (e i)) (e i)
/-- What looks at those slots goes. -/
def klB (m : Nat) : AV → AV
  | .fptr q off => pick2 (bitAt m q) .undef (.fptr q off)
  | .vw q sz l => pick2 (bitAt m q) (.sl sz l) (.vw q sz l)
  | .vwc q off sz l => pick2 (bitAt m q) (.sl sz l) (.vwc q off sz l)
  | a => a
def killB (m : Nat) (e : Env) : Env := fun i => klB m (e i)
def isOwn (a : AV) (k : Option α) : Option α := match a with | .own _ _ => k | _ => none
/-- What a value looks at is to be seen. -/
def refK (e : Env) (a : AV) (k : Option α) : Option α := match a with
  | .fptr q _ => isBox (e q) k
  | .vw q _ _ => isOwn (e q) k
  | .vwc q _ _ _ => isBox (e q) k
  | _ => k
/-- The operations up to the pick on slot d; with each, the slots that it may not see. -/
def upto (d : Nat) : List (Oper × Nat) → List (Oper × Nat) → Option (List (Oper × Nat) × (Oper × Nat) × List (Oper × Nat))
  | _, [] => none
  | acc, o :: r => match isPick d o.1 with | true => some (acc.reverse, o, r) | false => upto d (o :: acc) r
/-- Its guard's slot may be seen. -/
def seesG (all : List Oper) (o : Oper) (bad : Nat) : Bool := match o.guard with
  | none => true
  | some (j, _) => (match dstAt all j with | some d => !bitAt bad d | none => false)
/-- All of these hang on the guard, or on one of them. -/
def grpOk (all : List Oper) (g : Nat × Bool) : Nat → List (Oper × Nat) → Bool
  | _, [] => true
  | S, (o, bad) :: r => seesG all o bad && (sameGuard o.guard (some g) || (match o.guard with
      | some (j, _) => (match dstAt all j with | some d => bitAt S d | none => false)
      | none => false)) && (stT o).isNone && grpOk all g (S ||| slotBit (dq o)) r
/-- Operations that only write each a slot of its own, in any order; what hangs on a guard ('&&', '||') as one piece. 'cur': the guard that is known to hold. -/
def runHead (call : Nat → List AV → Option AV) (all : List Oper) (eb : Env) : Nat → Option (Nat × Bool) → List (Oper × Nat) → Env → {α : Type} → (Env → Option α) → Option α
  | 0, _, _, _, _, _ => none
  | _ + 1, _, [], e, _, k => k e
  | n + 1, cur, (o, bad) :: r, e, _, k => match sameGuard o.guard cur with
    | true => (match stT o with
      | some (t, s, x) => guardK o.guard.isNone (stBox τ t (maskE bad e) x (eb s) fun v => runHead call all eb n cur r (setO e (some s) v) k)
      | none => guardK (seesG all o bad) (val τ call (maskE bad e) o fun v => refK (maskE bad e) v (runHead call all eb n cur r (setO e o.dst v) k)))
    | false => (match o.guard with
      | none => none
      | some (j, b) => (match dstAt all j with
        | none => none
        | some d => (match upto d [(o, bad)] r with
          | none => none
          | some (grp, (p, pb), rest) => (match sameGuard p.guard cur, dq p with
            | true, some pd => guardK (grpOk all (j, b) 0 grp && seesG all p pb && !bitAt pb d) (asB (e d) fun c => (gate b c
                (runHead call all eb n (some (j, b)) grp e fun e' => opnd (maskE pb e') (other b p) asBv)
                (opnd (maskE pb e) (other (!b) p) asBv)).bind fun v =>
                  runHead call all eb n cur rest (set (clears e grp) pd (.bool v)) k)
            | _, _ => none))))
def dstBits : List (Oper × Nat) → Nat
  | [] => 0
  | o :: r => slotBit (dq o.1) ||| dstBits r
/-- No slot twice. -/
def nod : Nat → List (Oper × Nat) → Bool
  | _, [] => true
  | W, o :: r => Nat.beq (slotBit (dq o.1) &&& W) 0 && nod (W ||| slotBit (dq o.1)) r
def unseen : List Oper → List (Oper × Nat)
  | [] => []
  | o :: r => (o, 0) :: unseen r
/-- In their order each sees those ahead. -/
def annot (W : Nat) : Nat → List (Oper × Nat) → List (Oper × Nat)
  | _, [] => []
  | S, (o, _) :: r => (o, W ^^^ (W &&& S)) :: annot W (S ||| slotBit (dq o)) r
def plainOps : List (Oper × Nat) → List Oper
  | [] => []
  | o :: r => o.1 :: plainOps r
/-- The operations of a region, in the order of the text. -/
def runOps (call : Nat → List AV → Option AV) (res : List Nat) (all : List Oper) : Nat → List Oper → Env → {α : Type} → (Env → Option α) → Option α
  | 0, _, _, _, _ => none
  | _ + 1, [], e, _, k => k e
  | n + 1, o :: r, e, _, k => match o.guard with
    | none => step τ call res e o fun e' => runOps call res all n r e' k
    | some (j, _) => (match dstAt all j with
      | none => none
      | some d => (match upto d [(o, 0)] (unseen r) with
        | none => none
        | some (grp, p, rest) => guardK (nod 0 (grp ++ [p]))
            (runHead τ call all (maskB (dstBits (grp ++ [p])) (killB (dstBits (grp ++ [p])) e)) (n + 1) none (annot (dstBits (grp ++ [p])) 0 (grp ++ [p])) (maskE (dstBits (grp ++ [p])) (killB (dstBits (grp ++ [p])) e)) fun e' =>
              runOps call res all n (plainOps rest) e' k)))

inductive Ex where
  | normal
  | exit (id : Nat)
  | ret
end

abbrev Kont := Ex → Env → Option AV
def seqK (r : Env → Option AV) (K : Kont) : Kont := fun x e => match x with
  | .normal => r e
  | .exit j => K (.exit j) e
  | .ret => K .ret e
def fst2 {α β : Type} (a : α) (_ : β) : α := a
/-- ('seqK' is named so that the kernel opens this one first.) -/
def blockK (id : Nat) (K : Kont) : Kont := fst2 (fun x e => match x with
  | .exit j => pick2 (Nat.beq j id) (K .normal e) (K (.exit j) e)
  | .normal => K .normal e
  | .ret => K .ret e) (seqK (fun _ => none) K)
/-- A loop, at most n rounds. -/
def iter : Nat → (Env → Env) → (Env → Kont → Option AV) → Kont → Env → Option AV
  | 0, _, _, _, _ => none
  | n + 1, fg, B, K, e => B e (seqK (fun e' => iter n fg B K (fg e')) K)

/-! ### Regions whose order is open -/
/-- For each operation: on which it waits, and which slots these write. (The list runs backwards.) -/
def waitsOf (all : List Oper) (n : Nat) (acc : List (Nat × Nat)) : List Edge → Nat × Nat
  | [] => (0, 0)
  | e :: r => match Region.binds .any e, waitsOf all n acc r with
    | true, (b, s) => (match acc[n - 1 - e.on]? with
      | some (b', s') => (b ||| bit e.on ||| b', s ||| slotBit (dqAt all e.on) ||| s')
      | none => (b, s))
    | false, x => x
def waits (all : List Oper) : Nat → List (Nat × Nat) → List Oper → List (Nat × Nat)
  | _, acc, [] => acc.reverse
  | n, acc, o :: r => waits all (n + 1) (waitsOf all n acc o.after.toList :: acc) r
def edgesOk (n : Nat) (l : List Edge) : Bool := l.all fun e => !Region.binds .any e || Nat.blt e.on n
def edgesAll : Nat → List Oper → Bool
  | _, [] => true
  | n, o :: r => edgesOk n o.after.toList && edgesAll (n + 1) r
def anyPick (o : Oper) : Bool := match o.op with | .pick _ _ _ => true | _ => false
/-- Behind how many of them does each wait for all ahead of it? (Both lists run backwards.) -/
def tailN : Nat → List (Nat × Nat) → List Oper → Nat
  | n + 1, (b, _) :: r, o :: os => pick2 (Nat.beq b (2 ^ n - 1) && (o.guard.isNone && !anyPick o)) (tailN n r os) (n + 1)
  | n, _, _ => n
def bads (W : Nat) : Nat → List (Nat × Nat) → List Oper → List (Oper × Nat)
  | m + 1, (_, s) :: ws, o :: os => (o, W ^^^ (W &&& s)) :: bads W m ws os
  | _, _, _ => []
/-- What may run in any order, and what follows in the order of the text. -/
def drawSplit (all : List Oper) : Option (List (Oper × Nat) × List Oper × Nat) :=
  let ws := waits all 0 [] all
  let m := tailN all.length ws.reverse all.reverse
  let W := dstBits (unseen (all.take m))
  pick2 (edgesAll 0 all && nod 0 (unseen (all.take m))) (some (bads W m ws all, all.drop m, W)) none

/-- The boxes that function literals take along: they are never written any more. -/
def shutB (a : AV) : AV := match a with
  | .boxv z c m => .eptr z (patch c m) 0
  | a => a
def shutAll (e : Env) : List Operand → Env
  | [] => e
  | .tmp s :: r => shutAll (set e s (shutB (e s))) r
  | _ :: r => shutAll e r
def shutOps (e : Env) : List Oper → Env
  | [] => e
  | o :: r => (match o.op with
    | .makeFunc _ _ caps => shutOps (shutAll e caps.toList) r
    | _ => shutOps e r)

def firstR : Code → Option Nat
  | .region id _ _ => some id
  | .seq a _ => firstR a
  | .block _ c => firstR c
  | .loop c => firstR c
  | _ => none
def fgOf (ann : Nat → Option (List Nat)) (c : Code) (e : Env) : Env := match firstR c with
  | some r => (match ann r with | some L => forget L e | none => e)
  | none => e

/-- Where two ways meet again. -/
def fgJ (ann : Nat → Option (List Nat)) (c : Code) (e : Env) : Env := match firstR c with
  | some r => (match ann (r + 1000000) with | some L => forget L e | none => e)
  | none => e

/-- A region. -/
def regRun (τ : Tab) (call : Nat → List AV → Option AV) (res : List Nat) (ops : List Oper) (draw : Bool) (e : Env) {α : Type} (k : Env → Option α) : Option α := match draw with
  | false => runOps τ call res ops (ops.length + 1) ops (shutOps (clean e) ops) k
  | true => (match drawSplit ops with
    | some (h, t, W) => runHead τ call ops (maskB W (killB W (shutOps (clean e) ops))) (ops.length + 1) none h (maskE W (killB W (shutOps (clean e) ops))) fun e' => runOps τ call res ops (ops.length + 1) t e' k
    | none => none)
section
variable (τ : Tab) (ann : Nat → Option (List Nat)) (call : Nat → List AV → Option AV) (res : List Nat)
  (lp : (Env → Env) → (Env → Kont → Option AV) → Kont → Env → Option AV)
/-- What a code comes to. -/
def run : Code → Env → Kont → Option AV
  | .skip, e, K => K .normal e
  | .region id ops draw, e, K => regRun τ call res ops.toList draw e fun e' => K .normal e'
  | .seq a b, e, K => run a e (seqK (fun e' => run b (fgJ ann b e') K) K)
  | .cond c a b, e, K => opnd e c fun c => asB c fun c => ifB c (run a e K) (run b e K)
  | .block id c, e, K => run c e (blockK id K)
  | .loop c, e, K => lp (fgOf ann c) (run c) K (fgOf ann c e)
  | .exit id, e, K => K (.exit id) e
  | .ret, e, K => K .ret e
  | _, _, _ => none
/-- The piece of a code at a place. -/
def sub : Code → List Nat → Code
  | c, [] => c
  | .seq a b, i :: p => (match i with | 0 => sub a p | _ => sub b p)
  | .cond _ a b, i :: p => (match i with | 0 => sub a p | _ => sub b p)
  | .block _ c, _ :: p => sub c p
  | .loop c, _ :: p => sub c p
  | c, _ => c
/-- What follows behind it. -/
def kont : Code → List Nat → Kont → Kont
  | _, [], K => K
  | .seq a b, i :: p, K => (match i with
    | 0 => kont a p (seqK (fun e' => run τ ann call res lp b (fgJ ann b e') K) K)
    | _ => kont b p K)
  | .cond _ a b, i :: p, K => (match i with | 0 => kont a p K | _ => kont b p K)
  | .block id c, _ :: p, K => kont c p (blockK id K)
  | .loop c, _ :: p, K => kont c p (seqK (fun e' => lp (fgOf ann c) (run τ ann call res lp c) K (fgOf ann c e')) K)
  | _, _, K => K
end

/-- A result as it stands behind the call. -/
def resV (e : Env) : ResultVar → (AV → Option AV) → Option AV
  | .tmp t, k => nz (e t) fun a => (match a with
    | .vw _ sz l => k (.sl sz l)
    | .vwc _ _ sz l => k (.sl sz l)
    | .fptr _ _ => none
    | .boxv _ _ _ => none
    | .tup _ => none
    | .lit _ _ _ => none
    | a => k a)
  | .cell _ _, _ => none
def resC (τ : Tab) (e : Env) : ResultVar → (AV → Option AV) → Option AV
  | .cell s t, k => (match e s with
    | .boxv z c m => (match τ.T t with
      | some ⟨.struct _, sz, _, _⟩ => guardK (Nat.beq z sz) (k (.agg sz (patch c m)))
      | some ⟨.array _ _, _, _, _⟩ => none
      | some i => guardK (notTup i.k) (getB c m 0 fun a => nz a fun a => k a)
      | none => none)
    | _ => none)
  | r, k => resV e r k
def resAll (τ : Tab) (e : Env) : List ResultVar → (List AV → Option AV) → Option AV
  | [], k => k []
  | r :: rs, k => resC τ e r fun a => resAll τ e rs fun l => k (a :: l)
def oneOf : List AV → Option AV
  | [a] => some a
  | l => some (.tup l)
def retV (τ : Tab) (rs : List ResultVar) : Kont := fun x e => match x with
  | .exit _ => none
  | .normal => resAll τ e rs oneOf
  | .ret => resAll τ e rs oneOf
def resSlots : List ResultVar → List Nat
  | [] => []
  | .tmp t :: r => t :: resSlots r
  | .cell _ _ :: r => resSlots r
def argEnv : Nat → List AV → List (Nat × AV)
  | _, [] => []
  | n, a :: l => (n, a) :: argEnv (n + 1) l

/-- A function's code, and how its results stand. -/
structure FD where
  code : Code
  rs : List ResultVar
  nt : Nat
/-- The whole: tables; how loops and joins are cut; contracts proved elsewhere; the functions. -/
structure Sys where
  τ : Tab
  ann : Nat → Nat → Option (List Nat)
  O : Nat → Option (List AV → Option AV)
  F : Nat → Option FD
def bodyRun (S : Sys) (call : Nat → List AV → Option AV) (lp : (Env → Env) → (Env → Kont → Option AV) → Kont → Env → Option AV) (f : Nat) (d : FD) (l : List AV) : Option AV :=
  run S.τ (S.ann f) call (resSlots d.rs) lp d.code (look (argEnv 0 l)) (retV S.τ d.rs)
/-- A call, in n steps. -/
def acall (S : Sys) : Nat → Nat → List AV → Option AV
  | 0, _, _ => none
  | n + 1, f, l => match S.O f with
    | some g => g l
    | none => (match S.F f with
      | some d => bodyRun S (acall S n) (iter n) f d l
      | none => none)

section
variable {α β : Type} (k : α → Option β)
theorem ifB_b (b : Bool) (x y : Option α) : (ifB b x y).bind k = ifB b (x.bind k) (y.bind k) := by cases b <;> rfl
theorem guardK_b (b : Bool) (x : Option α) : (guardK b x).bind k = guardK b (x.bind k) := by cases b <;> rfl
theorem asB_b (a : AV) (g : Bool → Option α) : (asB a g).bind k = asB a fun x => (g x).bind k := by cases a <;> rfl
theorem asI_b (kd : IntKind) (a : AV) (g : Int → Option α) : (asI kd a g).bind k = asI kd a fun x => (g x).bind k := by cases a <;> first | rfl | exact guardK_b ..
theorem asN_b (a : AV) (g : Int → Option α) : (asN a g).bind k = asN a fun x => (g x).bind k := by cases a <;> rfl
theorem asS_b (a : AV) (g : List UInt8 → Option α) : (asS a g).bind k = asS a fun x => (g x).bind k := by cases a <;> rfl
theorem asL_b (sz : Nat) (a : AV) (g : List (List AV) → Option α) : (asL sz a g).bind k = asL sz a fun x => (g x).bind k := by cases a <;> first | rfl | exact guardK_b ..
theorem asO_b (sz : Nat) (a : AV) (g : List (List AV) → Option α) : (asO sz a g).bind k = asO sz a fun x => (g x).bind k := by cases a <;> first | rfl | exact guardK_b ..
theorem asC_b (sz : Nat) (a : AV) (g : List AV → Option α) : (asC sz a g).bind k = asC sz a fun x => (g x).bind k := by cases a <;> first | rfl | exact guardK_b ..
theorem asF_b (a : AV) (g : Nat → List AV → Option α) : (asF a g).bind k = asF a fun x y => (g x y).bind k := by cases a <;> rfl
theorem asT0_b (a : AV) (g : Option α) : (asT0 a g).bind k = asT0 a (g.bind k) := by unfold asT0; split <;> rfl
theorem asT2_b (a : AV) (g : AV → AV → Option α) : (asT2 a g).bind k = asT2 a fun x y => (g x y).bind k := by unfold asT2; split <;> rfl
theorem asT3_b (a : AV) (g : AV → AV → AV → Option α) : (asT3 a g).bind k = asT3 a fun x y z => (g x y z).bind k := by unfold asT3; split <;> rfl
theorem asT4_b (a : AV) (g : AV → AV → AV → AV → Option α) : (asT4 a g).bind k = asT4 a fun x y z u => (g x y z u).bind k := by unfold asT4; split <;> rfl
theorem getC_b (c : List AV) (off : Nat) (g : AV → Option α) : (getC c off g).bind k = getC c off fun x => (g x).bind k := by unfold getC; split <;> rfl
theorem getCs_b : ∀ (n : Nat) (c : List AV) (off : Nat) (g : List AV → Option α), (getCs n c off g).bind k = getCs n c off fun x => (g x).bind k
  | 0, _, _, _ => rfl
  | n + 1, c, off, g => by
    show (getC c off fun a => getCs n c (off + 1) fun r => g (a :: r)).bind k = _
    rw [getC_b]
    show _ = getC c off fun a => getCs n c (off + 1) fun r => (g (a :: r)).bind k
    exact congrArg _ (funext fun a => getCs_b n c (off + 1) fun r => g (a :: r))
theorem nz_b (a : AV) (g : AV → Option α) : (nz a g).bind k = nz a fun x => (g x).bind k := by cases a <;> rfl
theorem opnd_b (e : Env) (x : Operand) (g : AV → Option α) : (opnd e x g).bind k = opnd e x fun a => (g a).bind k := by cases x <;> first | rfl | exact nz_b ..
theorem opnds_b (e : Env) : ∀ (l : List Operand) (g : List AV → Option α), (opnds e l g).bind k = opnds e l fun a => (g a).bind k
  | [], _ => rfl
  | x :: l, g => by
    show (opnd e x fun a => opnds e l fun r => g (a :: r)).bind k = opnd e x fun a => opnds e l fun r => (g (a :: r)).bind k
    rw [opnd_b]; exact congrArg _ (funext fun a => opnds_b e l fun r => g (a :: r))
theorem idx_b {γ : Type} (l : List γ) (i : Int) (g : γ → Option α) : (idx l i g).bind k = idx l i fun x => (g x).bind k := by
  unfold idx; rw [guardK_b]; congr 1; split <;> rfl
theorem cut_b {γ : Type} (l : List γ) (i j : Int) (g : List γ → Option α) : (cut l i j g).bind k = cut l i j fun x => (g x).bind k := guardK_b ..
theorem cutFrom_b {γ : Type} (l : List γ) (i : Int) (g : List γ → Option α) : (cutFrom l i g).bind k = cutFrom l i fun x => (g x).bind k := guardK_b ..
theorem cutTo_b {γ : Type} (l : List γ) (i : Int) (g : List γ → Option α) : (cutTo l i g).bind k = cutTo l i fun x => (g x).bind k := guardK_b ..
theorem sliceOf_b {γ : Type} (e : Env) (l : List γ) (i j : Option Operand) (g : List γ → Option α) : (sliceOf e l i j g).bind k = sliceOf e l i j fun x => (g x).bind k := by
  cases i <;> cases j <;> simp only [sliceOf, opnd_b, asN_b, cut_b, cutFrom_b, cutTo_b]
theorem pick2_b (b : Bool) (x y : Option α) : (pick2 b x y).bind k = pick2 b (x.bind k) (y.bind k) := by cases b <;> rfl
theorem cellsOf_b (sz : Nat) (a : AV) (g : List AV → Option α) : (cellsOf sz a g).bind k = cellsOf sz a fun x => (g x).bind k := by cases a <;> first | rfl | exact guardK_b ..
variable (τ : Tab)
theorem szOf_b (t : Nat) (g : Nat → Option α) : (szOf τ t g).bind k = szOf τ t fun x => (g x).bind k := by unfold szOf; split <;> rfl
theorem sliceSz_b (t : Nat) (g : Nat → Option α) : (sliceSz τ t g).bind k = sliceSz τ t fun x => (g x).bind k := by unfold sliceSz; split <;> first | rfl | exact szOf_b ..
theorem cast_b (t : Nat) (a : AV) (g : AV → Option α) : (cast τ t a g).bind k = cast τ t a fun x => (g x).bind k := by
  unfold cast; split <;> simp only [asB_b, asI_b, asS_b, szOf_b, asL_b, asC_b, asF_b, Option.bind_none]
theorem castR_b (o : Bool) (t : Nat) (a : AV) (g : AV → Option α) : (castR τ o t a g).bind k = castR τ o t a fun x => (g x).bind k := by
  cases o <;> simp only [castR, sliceSz_b, asO_b, cast_b]
theorem castsA_b : ∀ (ts : List Nat) (l : List AV) (g : List AV → Option α), (castsA τ ts l g).bind k = castsA τ ts l fun x => (g x).bind k
  | [], [], _ => rfl
  | [], _ :: _, _ => rfl
  | _ :: _, [], _ => rfl
  | t :: ts, a :: l, g => by simp only [castsA, cast_b, castsA_b ts l]
theorem retK_b (o : List Bool) (t : Nat) (r : AV) (g : AV → Option α) : (retK τ o t r g).bind k = retK τ o t r fun x => (g x).bind k := by
  unfold retK; split
  · split <;> simp only [asT0_b, asT2_b, asT3_b, asT4_b, castR_b, Option.bind_none]
  · exact castR_b ..
theorem callK_b (call : Nat → List AV → Option AV) (f : Nat) (l : List AV) (t : Nat) (g : AV → Option α) : (callK τ call f l t g).bind k = callK τ call f l t fun x => (g x).bind k := by
  simp only [callK, Option.bind_assoc, retK_b]
theorem fillF_b (fs : List (Nat × Nat)) (e : Env) : ∀ (ps : List (Nat × Operand)) (z : List AV) (g : List AV → Option α), (fillF τ fs e ps z g).bind k = fillF τ fs e ps z fun x => (g x).bind k
  | [], _, _ => rfl
  | (i, x) :: r, z, g => by
    unfold fillF; split
    · rfl
    · simp only [opnd_b, cast_b, szOf_b, cellsOf_b, fillF_b fs e r]
theorem fillL_b (t : Nat) (e : Env) : ∀ (ps : List (Nat × Operand)) (z : List (List AV)) (g : List (List AV) → Option α), (fillL τ t e ps z g).bind k = fillL τ t e ps z fun x => (g x).bind k
  | [], _, _ => rfl
  | (i, x) :: r, z, g => by
    unfold fillL
    simp only [guardK_b, opnd_b, cast_b, szOf_b, cellsOf_b, fillL_b t e r]
theorem getB_b (c : List AV) (m : List (Nat × AV)) (off : Nat) (g : AV → Option α) : (getB c m off g).bind k = getB c m off fun x => (g x).bind k := by unfold getB; split <;> first | rfl | exact getC_b ..
theorem getBs_b : ∀ (n : Nat) (c : List AV) (m : List (Nat × AV)) (off : Nat) (g : List AV → Option α), (getBs n c m off g).bind k = getBs n c m off fun x => (g x).bind k
  | 0, _, _, _, _ => rfl
  | n + 1, c, m, off, g => by
    show (getB c m off fun a => getBs n c m (off + 1) fun r => g (a :: r)).bind k = _
    rw [getB_b]
    show _ = getB c m off fun a => getBs n c m (off + 1) fun r => (g (a :: r)).bind k
    exact congrArg _ (funext fun a => getBs_b n c m (off + 1) fun r => g (a :: r))
theorem sliceB_b (d off sz : Nat) (a : AV) (g : AV → Option α) : (sliceB d off sz a g).bind k = sliceB d off sz a fun x => (g x).bind k := by
  unfold sliceB; split <;> simp only [guardK_b, asL_b]
theorem loadBox_b (t d z : Nat) (c : List AV) (m : List (Nat × AV)) (off : Nat) (g : AV → Option α) : (loadBox τ t d z c m off g).bind k = loadBox τ t d z c m off fun x => (g x).bind k := by
  unfold loadBox; split <;> first | rfl | (simp only [pick2_b, getBs_b, getB_b, cast_b]; done) | (rw [szOf_b]; congr 1; funext sz; split <;> simp only [sliceB_b, getC_b, asL_b])
theorem loadElem_b (t z : Nat) (c : List AV) (off : Nat) (g : AV → Option α) : (loadElem τ t z c off g).bind k = loadElem τ t z c off fun x => (g x).bind k := by
  unfold loadElem; split <;> simp only [pick2_b, getCs_b, guardK_b, getC_b, cast_b]
theorem loadT_b (e : Env) (t s : Nat) (a : AV) (g : AV → Option α) : (loadT τ e t s g a).bind k = loadT τ e t s (fun x => (g x).bind k) a := by
  unfold loadT; split
  · exact loadBox_b ..
  · split
    · exact loadBox_b ..
    · rfl
  · exact loadElem_b ..
  · rfl
theorem load_b (e : Env) (t : Nat) (x : Operand) (g : AV → Option α) : (load τ e t x g).bind k = load τ e t x fun x => (g x).bind k := by
  unfold load; split
  · exact loadT_b ..
  · split
    · exact loadElem_b ..
    · rfl
  · rfl
theorem fieldAt_b (t f : Nat) (g : Nat → Nat → Option α) : (fieldAt τ t f g).bind k = fieldAt τ t f fun x y => (g x y).bind k := by
  unfold fieldAt; split
  · split <;> rfl
  · rfl
theorem isBox_b (a : AV) (x : Option α) : (isBox a x).bind k = isBox a (x.bind k) := by cases a <;> rfl
theorem fieldT_b (e : Env) (s off : Nat) (a : AV) (g : AV → Option α) : (fieldT e s off g a).bind k = fieldT e s off (fun x => (g x).bind k) a := by cases a <;> first | rfl | exact isBox_b ..
theorem fieldAddr_b (e : Env) (t : Nat) (x : Operand) (f : Nat) (g : AV → Option α) : (fieldAddr τ e t x f g).bind k = fieldAddr τ e t x f fun x => (g x).bind k := by
  simp only [fieldAddr, fieldAt_b]; congr 1; funext off _; split
  · exact fieldT_b ..
  · rfl
theorem binI_b (op : BinOp) (kd : IntKind) (x y : Int) (g : AV → Option α) : (binI op kd x y g).bind k = binI op kd x y fun x => (g x).bind k := by cases op <;> first | rfl | exact guardK_b ..
theorem shI_b (op : BinOp) (kd : IntKind) (x y : Int) (g : AV → Option α) : (shI op kd x y g).bind k = shI op kd x y fun x => (g x).bind k := by cases op <;> first | rfl | exact guardK_b ..
theorem binS_b (op : BinOp) (x y : List UInt8) (g : AV → Option α) : (binS op x y g).bind k = binS op x y fun x => (g x).bind k := by cases op <;> first | rfl | exact guardK_b ..
theorem binB_b (t : Nat) (op : BinOp) (x y : Bool) (g : AV → Option α) : (binB τ t op x y g).bind k = binB τ t op x y fun x => (g x).bind k := by unfold binB; split <;> rfl
theorem bin_b (t : Nat) (op : BinOp) (a b : AV) (g : AV → Option α) : (bin τ t op a b g).bind k = bin τ t op a b fun x => (g x).bind k := by
  unfold bin; split
  · split
    · exact shI_b ..
    · rw [guardK_b, binI_b]
  · exact binS_b ..
  · exact binB_b ..
  · rfl
theorem un_b (op : UnOp) (a : AV) (g : AV → Option α) : (un op a g).bind k = un op a fun x => (g x).bind k := by unfold un; split <;> rfl
theorem conv_b (t : Nat) (a : AV) (g : AV → Option α) : (conv τ t a g).bind k = conv τ t a fun x => (g x).bind k := by unfold conv; split <;> rfl
theorem bytesK_b (l : List (List AV)) (g : List UInt8 → Option α) : (bytesK l g).bind k = bytesK l fun x => (g x).bind k := by unfold bytesK; split <;> rfl
theorem u8K_b (t : Nat) (g : Option α) : (u8K τ t g).bind k = u8K τ t (g.bind k) := by
  unfold u8K; split
  · split <;> rfl
  · rfl
theorem convX_b (s t : Nat) (a : AV) (g : AV → Option α) : (convX τ s t a g).bind k = convX τ s t a fun x => (g x).bind k := by
  unfold convX
  cases isSl a with
  | false => exact conv_b ..
  | true =>
    show (convB τ s t a g).bind k = convB τ s t a fun x => (g x).bind k
    unfold convB; split
    · simp only [u8K_b, asL_b, bytesK_b]
    · rfl
theorem lenK_b (t : Nat) (a : AV) (g : AV → Option α) : (lenK τ t a g).bind k = lenK τ t a fun x => (g x).bind k := by
  unfold lenK; split <;> first | rfl | simp only [asS_b, szOf_b, asL_b]
theorem minK_b (m : Bool) (a b : AV) (g : AV → Option α) : (minK m a b g).bind k = minK m a b fun x => (g x).bind k := by unfold minK; split <;> rfl
theorem moveK_b (t : Nat) (x : Operand) (a : AV) (g : AV → Option α) : (moveK τ t x a g).bind k = moveK τ t x a fun x => (g x).bind k := by
  unfold moveK; split <;> first | rfl | exact cast_b ..
theorem assignK_b (t : Nat) (a : AV) (g : AV → Option α) : (assignK τ t a g).bind k = assignK τ t a fun x => (g x).bind k := by
  unfold assignK; split <;> first | rfl | exact sliceSz_b ..
theorem compK_b (i : Nat) (a : AV) (g : AV → Option α) : (compK i a g).bind k = compK i a fun x => (g x).bind k := by
  unfold compK; split <;> first | rfl | simp only [getC_b, nz_b]
theorem infoK_b (t : Nat) (g : TI → Option α) : (infoK τ t g).bind k = infoK τ t fun x => (g x).bind k := by unfold infoK; split <;> rfl
theorem structK_b (t : Nat) (g : List (Nat × Nat) → Nat → List AV → Option α) : (structK τ t g).bind k = structK τ t fun x y z => (g x y z).bind k := by unfold structK; split <;> rfl
theorem elemK_b (t : Nat) (g : Nat → Option α) : (elemK τ t g).bind k = elemK τ t fun x => (g x).bind k := by unfold elemK; split <;> rfl
theorem indexK_b (t : Nat) (a : AV) (i : Int) (g : AV → Option α) : (indexK τ t a i g).bind k = indexK τ t a i fun x => (g x).bind k := by
  unfold indexK; split <;> first | rfl | simp only [asS_b, idx_b, szOf_b, guardK_b, asC_b, cast_b]
theorem cutK_b (t : Nat) (e : Env) (a : AV) (i j : Option Operand) (g : AV → Option α) : (cutK τ t e a i j g).bind k = cutK τ t e a i j fun x => (g x).bind k := by
  unfold cutK; split <;> first | rfl | simp only [asS_b, szOf_b, asL_b, sliceOf_b]
theorem lenOp_b (e : Env) (c : Call) (g : AV → Option α) : (lenOp τ e c g).bind k = lenOp τ e c fun x => (g x).bind k := by
  unfold lenOp; split <;> first | rfl | simp only [opnd_b, lenK_b]
theorem minOp_b (m : Bool) (e : Env) (c : Call) (g : AV → Option α) : (minOp m e c g).bind k = minOp m e c fun x => (g x).bind k := by
  unfold minOp; split <;> first | rfl | simp only [opnd_b, minK_b]
theorem litK_b (m : List (Nat × Nat)) (sz : Nat) (c : List AV) (g : AV → Option α) : (litK m sz c g).bind k = litK m sz c fun x => (g x).bind k := by cases m <;> rfl
theorem idxAddr_b (e : Env) (t : Nat) (x i : Operand) (g : AV → Option α) : (idxAddr τ e t x i g).bind k = idxAddr τ e t x i fun a => (g a).bind k := by
  unfold idxAddr; split
  · split <;> first | rfl | simp only [szOf_b, guardK_b, opnd_b, asN_b, idx_b]
  · simp only [elemK_b, szOf_b, opnd_b, asL_b, asN_b, idx_b]
theorem val_b (call : Nat → List AV → Option AV) (e : Env) (o : Oper) (g : AV → Option α) : (val τ call e o g).bind k = val τ call e o fun x => (g x).bind k := by
  unfold val; split <;> first
    | rfl
    | simp only [opnd_b, moveK_b, assignK_b, asB_b, ifB_b, cast_b, infoK_b, szOf_b, cellsOf_b, structK_b, litK_b, idxAddr_b, fillF_b, elemK_b, fillL_b, load_b, fieldAddr_b, asC_b, fieldAt_b, loadElem_b, asN_b, indexK_b, cutK_b, bin_b, un_b, convX_b, compK_b, asF_b, opnds_b, lenOp_b, minOp_b, castsA_b, callK_b, guardK_b]
theorem takeT_b (e : Env) (sz s : Nat) (a : AV) (g : List (List AV) → Env → Option α) : (takeT e sz s g a).bind k = takeT e sz s (fun x y => (g x y).bind k) a := by
  cases a <;> first
    | rfl
    | (simp only [takeT, guardK_b, asO_b]; done)
    | (simp only [takeT]; split <;> simp only [getB_b, asO_b, Option.bind_none])
theorem takeH_b (e : Env) (sz : Nat) (x : Operand) (g : List (List AV) → Env → Option α) : (takeH e sz x g).bind k = takeH e sz x fun x y => (g x y).bind k := by
  unfold takeH; split <;> first | rfl | exact takeT_b ..
theorem putK_b (e : Env) (t d off bz sz : Nat) (c : List AV) (m : List (Nat × AV)) (x : Operand) (a : AV) (g : Env → Option α) : (putK τ e t d off bz sz c m x a g).bind k = putK τ e t d off bz sz c m x a fun x => (g x).bind k := by
  unfold putK; split <;> first | rfl | simp only [sliceSz_b, guardK_b, cast_b, cellsOf_b, pick2_b, getCs_b]
theorem storeK_b (e : Env) (t d off bz sz : Nat) (c : List AV) (m : List (Nat × AV)) (x : Operand) (a : AV) (g : Env → Option α) : (storeK τ e t d off bz sz c m x a g).bind k = storeK τ e t d off bz sz c m x a fun x => (g x).bind k := by
  unfold storeK; split <;> simp only [cast_b, cellsOf_b, pick2_b, putK_b]
theorem storeBox_b (e : Env) (t d off bz : Nat) (c : List AV) (m : List (Nat × AV)) (x : Operand) (g : Env → Option α) : (storeBox τ e t d off bz c m x g).bind k = storeBox τ e t d off bz c m x fun x => (g x).bind k := by
  simp only [storeBox, opnd_b, szOf_b, guardK_b, storeK_b]
theorem storeT_b (e : Env) (t s : Nat) (x : Operand) (a : AV) (g : Env → Option α) : (storeT τ e t s x g a).bind k = storeT τ e t s x (fun x => (g x).bind k) a := by
  unfold storeT; split
  · exact storeBox_b ..
  · split
    · exact storeBox_b ..
    · rfl
  · rfl
theorem giveK_b (res : List Nat) (e : Env) (t d : Nat) (x : Operand) (a : AV) (g : Env → Option α) : (giveK τ res e t d x a g).bind k = giveK τ res e t d x a fun x => (g x).bind k := by
  unfold giveK; split <;> first
    | rfl
    | exact sliceSz_b ..
    | (split <;> rfl)
theorem partT_b (e : Env) (d : Option Nat) (s i : Nat) (a : AV) (g : Env → Option α) : (partT e d s i g a).bind k = partT e d s i (fun x => (g x).bind k) a := by
  unfold partT; split
  · simp only [getC_b]; congr 1; funext a; split <;> first | rfl | exact nz_b ..
  · rfl
theorem moveS_b (e : Env) (t s d : Nat) (a : AV) (g : Env → Option α) : (moveS τ e t s d g a).bind k = moveS τ e t s d (fun x => (g x).bind k) a := by
  unfold moveS; split <;> first | rfl | simp only [nz_b, moveK_b]
theorem step_b (call : Nat → List AV → Option AV) (res : List Nat) (e : Env) (o : Oper) (g : Env → Option α) : (step τ call res e o g).bind k = step τ call res e o fun x => (g x).bind k := by
  unfold step; split <;> first
    | rfl
    | exact partT_b ..
    | exact moveS_b ..
    | exact storeT_b ..
    | simp only [opnd_b, giveK_b, sliceSz_b, asL_b, takeH_b, guardK_b, val_b]
end

theorem plainV_b {α β : Type} (a : AV) (g : AV → Option α) (k : α → Option β) : (plainV a g).bind k = plainV a fun x => (g x).bind k := by cases a <;> rfl
theorem stOp_b {α β : Type} (e : Env) (x : Operand) (g : AV → Option α) (k : α → Option β) : (stOp e x g).bind k = stOp e x fun x => (g x).bind k := by
  unfold stOp; split <;> first | rfl | exact plainV_b ..
theorem stBox_b (τ : Tab) {α β : Type} (t : Nat) (e : Env) (x : Operand) (b : AV) (g : AV → Option α) (k : α → Option β) : (stBox τ t e x b g).bind k = stBox τ t e x b fun x => (g x).bind k := by
  cases b <;> first
    | rfl
    | simp only [stBox, stOp_b, szOf_b, guardK_b, cast_b, cellsOf_b, pick2_b, getCs_b]
theorem stBox_nat (τ : Tab) {α : Type} (t : Nat) (e : Env) (x : Operand) (b : AV) (k : AV → Option α) : stBox τ t e x b k = (stBox τ t e x b some).bind k := by
  rw [stBox_b]; rfl
theorem val_nat (τ : Tab) (call : Nat → List AV → Option AV) (e : Env) (o : Oper) {α : Type} (k : AV → Option α) : val τ call e o k = (val τ call e o some).bind k := by
  rw [val_b]; rfl
theorem step_nat (τ : Tab) (call : Nat → List AV → Option AV) (res : List Nat) (e : Env) (o : Oper) {α : Type} (k : Env → Option α) : step τ call res e o k = (step τ call res e o some).bind k := by
  rw [step_b]; rfl

def Le {β : Type} (x y : Option β) : Prop := ∀ v, x = some v → y = some v
theorem Le.refl {β : Type} (x : Option β) : Le x x := fun _ h => h
theorem Le.trans {β : Type} {x y z : Option β} (h : Le x y) (k : Le y z) : Le x z := fun v e => k v (h v e)
theorem Le.bind {β γ : Type} {x y : Option β} {g h : β → Option γ} (a : Le x y) (b : ∀ v, Le (g v) (h v)) : Le (x.bind g) (y.bind h) := by
  intro v e
  cases x with
  | none => cases e
  | some u => rw [a u rfl]; exact b u v e
/-- A rising row, and what it comes to. -/
structure Ap {β : Type} (g : Nat → Option β) (r : Option β) : Prop where
  up : ∀ n m, n ≤ m → Le (g n) (g m)
  lim : ∀ v, r = some v ↔ ∃ n, g n = some v
noncomputable def limO {β : Type} (g : Nat → Option β) : Option β := open Classical in if h : ∃ n, (g n).isSome = true then g (Classical.choose h) else none
theorem ap_limO {β : Type} {g : Nat → Option β} (up : ∀ n m, n ≤ m → Le (g n) (g m)) : Ap g (limO g) := by
  refine ⟨up, fun v => ?_⟩
  unfold limO
  by_cases h : ∃ n, (g n).isSome = true
  · rw [dif_pos h]
    refine ⟨fun e => ⟨_, e⟩, fun ⟨n, hn⟩ => ?_⟩
    have h1 := Classical.choose_spec h
    generalize Classical.choose h = m at *
    obtain ⟨u, hu⟩ := Option.isSome_iff_exists.1 h1
    rcases Nat.le_total n m with hle | hle
    · exact up n m hle v hn
    · have := up m n hle u hu
      rw [hu, ← this, hn]
  · rw [dif_neg h]
    exact ⟨fun e => (by cases e), fun ⟨n, hn⟩ => absurd ⟨n, (by rw [hn]; rfl)⟩ h⟩
theorem Ap.uniq {β : Type} {g : Nat → Option β} {r r' : Option β} (a : Ap g r) (b : Ap g r') : r = r' := by
  cases r with
  | none =>
    cases r' with
    | none => rfl
    | some v => obtain ⟨n, hn⟩ := (b.lim v).1 rfl; exact (a.lim v).2 ⟨n, hn⟩
  | some v => obtain ⟨n, hn⟩ := (a.lim v).1 rfl; exact ((b.lim v).2 ⟨n, hn⟩).symm
theorem Ap.const {β : Type} (x : Option β) : Ap (fun _ => x) x := ⟨fun _ _ _ => Le.refl _, fun v => ⟨fun h => ⟨0, h⟩, fun ⟨_, h⟩ => h⟩⟩
theorem Ap.le {β : Type} {g : Nat → Option β} {r : Option β} (a : Ap g r) (n : Nat) : Le (g n) r := fun v h => (a.lim v).2 ⟨n, h⟩
theorem Ap.bind {β γ : Type} {g : Nat → Option β} {r : Option β} {h : Nat → β → Option γ} {k : β → Option γ} (a : Ap g r) (b : ∀ v, Ap (fun n => h n v) (k v)) :
    Ap (fun n => (g n).bind (h n)) (r.bind k) := by
  refine ⟨fun n m hnm => Le.bind (a.up n m hnm) fun v => (b v).up n m hnm, fun v => ⟨fun e => ?_, fun ⟨n, e⟩ => ?_⟩⟩
  · cases hr : r with
    | none => rw [hr] at e; cases e
    | some u =>
      rw [hr] at e
      obtain ⟨n, hn⟩ := (a.lim u).1 hr
      obtain ⟨m, hm⟩ := ((b u).lim v).1 e
      refine ⟨max n m, ?_⟩
      show (g (max n m)).bind (h (max n m)) = some v
      rw [a.up n _ (Nat.le_max_left ..) u hn]
      exact (b u).up m _ (Nat.le_max_right ..) v hm
  · cases hg : g n with
    | none => rw [show (g n).bind (h n) = none by rw [hg]; rfl] at e; cases e
    | some u =>
      have e : (g n).bind (h n) = some v := e
      rw [hg] at e
      rw [a.le n u hg]
      exact (b u).le n v e
theorem Ap.ifB {β : Type} (b : Bool) {g h : Nat → Option β} {r s : Option β} (x : Ap g r) (y : Ap h s) : Ap (fun n => ifB b (g n) (h n)) (ifB b r s) := by cases b <;> assumption
theorem Ap.pick2 {β : Type} (b : Bool) {g h : Nat → Option β} {r s : Option β} (x : Ap g r) (y : Ap h s) : Ap (fun n => pick2 b (g n) (h n)) (pick2 b r s) := by cases b <;> assumption
theorem Ap.gate {β : Type} (b c : Bool) {g h : Nat → Option β} {r s : Option β} (x : Ap g r) (y : Ap h s) : Ap (fun n => gate b c (g n) (h n)) (gate b c r s) := by
  cases b
  · exact Ap.ifB c y x
  · exact Ap.ifB c x y
theorem Ap.guardK {β : Type} (b : Bool) {g : Nat → Option β} {k : Option β} (h : Ap g k) : Ap (fun n => guardK b (g n)) (guardK b k) := by cases b <;> first | exact h | exact Ap.const _
theorem Ap.isBox {β : Type} (a : AV) {g : Nat → Option β} {k : Option β} (h : Ap g k) : Ap (fun n => isBox a (g n)) (isBox a k) := by cases a <;> first | exact h | exact Ap.const _
theorem Ap.isOwn {β : Type} (a : AV) {g : Nat → Option β} {k : Option β} (h : Ap g k) : Ap (fun n => isOwn a (g n)) (isOwn a k) := by cases a <;> first | exact h | exact Ap.const _
theorem Ap.refK {β : Type} (e : Env) (a : AV) {g : Nat → Option β} {k : Option β} (h : Ap g k) : Ap (fun n => refK e a (g n)) (refK e a k) := by cases a <;> first | exact h | exact Ap.isBox _ h | exact Ap.isOwn _ h
theorem Ap.asB {β : Type} (a : AV) {g : Nat → Bool → Option β} {k : Bool → Option β} (h : ∀ b, Ap (fun n => g n b) (k b)) : Ap (fun n => asB a (g n)) (asB a k) := by
  cases a <;> first | exact h _ | exact Ap.const _
theorem opnd_n {α : Type} (e : Env) (x : Operand) (g : AV → Option α) : opnd e x g = (opnd e x some).bind g := by rw [opnd_b]; rfl
theorem Ap.opnd {β : Type} (e : Env) (x : Operand) {g : Nat → AV → Option β} {k : AV → Option β} (h : ∀ b, Ap (fun n => g n b) (k b)) : Ap (fun n => opnd e x (g n)) (opnd e x k) := by
  have := Ap.bind (Ap.const (Abs.opnd e x some)) h
  simpa only [← opnd_n] using this

section
variable (τ : Tab) {c : Nat → Nat → List AV → Option AV} {call : Nat → List AV → Option AV} (hc : ∀ f l, Ap (fun n => c n f l) (call f l))
include hc
theorem val_ap1 (e : Env) (o : Oper) : Ap (fun n => val τ (c n) e o some) (val τ call e o some) := by
  obtain ⟨dst, op, ty, pos, after, guard⟩ := o
  by_cases h : ∃ f args ts, op = .call ⟨.value f, args, ts⟩
  · obtain ⟨f, args, ts, rfl⟩ := h
    refine Ap.opnd _ _ fun f => ?_
    cases f <;> first | exact Ap.const _ | skip
    rename_i f caps
    show Ap (fun n => opnds e args.toList fun l => castsA τ ts.toList l fun l => callK τ (c n) f (l ++ caps) ty some) _
    have h1 : ∀ (l : List AV), Ap (fun n => castsA τ ts.toList l fun l => callK τ (c n) f (l ++ caps) ty some) (castsA τ ts.toList l fun l => callK τ call f (l ++ caps) ty some) := fun l => by
      have := Ap.bind (h := fun n l => callK τ (c n) f (l ++ caps) ty some) (k := fun l => callK τ call f (l ++ caps) ty some) (Ap.const (castsA τ ts.toList l some)) fun l' => Ap.bind (hc f _) fun r => Ap.const (retK τ (τ.RO f) ty r some)
      simp only [castsA_b, Option.bind_some] at this
      exact this
    have := Ap.bind (Ap.const (opnds e args.toList some)) h1
    simp only [opnds_b, Option.bind_some] at this
    exact this
  · have : (fun n => val τ (c n) e ⟨dst, op, ty, pos, after, guard⟩ some) = fun _ => val τ call e ⟨dst, op, ty, pos, after, guard⟩ some := by
      funext n
      unfold val
      split <;> first
        | rfl
        | (exfalso; exact h ⟨_, _, _, by assumption⟩)
    rw [this]
    exact Ap.const _
theorem val_ap {β : Type} (e : Env) (o : Oper) {g : Nat → AV → Option β} {k : AV → Option β} (h : ∀ b, Ap (fun n => g n b) (k b)) : Ap (fun n => val τ (c n) e o (g n)) (val τ call e o k) := by
  have := Ap.bind (val_ap1 τ hc e o) h
  simpa only [← val_nat] using this
theorem step_ap1 (res : List Nat) (e : Env) (o : Oper) : Ap (fun n => step τ (c n) res e o some) (step τ call res e o some) := by
  by_cases h : ∀ call' : Nat → List AV → Option AV, step τ call' res e o some = val τ call' e o fun v => some (setH e o.dst v)
  · have : (fun n => step τ (c n) res e o some) = fun n => val τ (c n) e o fun v => some (setH e o.dst v) := funext fun n => h _
    rw [this, h]
    exact val_ap τ hc e o fun v => Ap.const _
  · have : (fun n => step τ (c n) res e o some) = fun _ => step τ call res e o some := by
      funext n
      unfold step
      split <;> first
        | rfl
        | (exfalso; refine h fun call' => ?_; unfold step; simp only [*]; done)
    rw [this]
    exact Ap.const _
theorem step_ap {β : Type} (res : List Nat) (e : Env) (o : Oper) {g : Nat → Env → Option β} {k : Env → Option β} (h : ∀ b, Ap (fun n => g n b) (k b)) : Ap (fun n => step τ (c n) res e o (g n)) (step τ call res e o k) := by
  have := Ap.bind (step_ap1 τ hc res e o) h
  simpa only [← step_nat] using this
theorem runHead_ap (all : List Oper) (eb : Env) : ∀ (fu : Nat) (cur : Option (Nat × Bool)) (ops : List (Oper × Nat)) (e : Env) {β : Type} {g : Nat → Env → Option β} {k : Env → Option β},
    (∀ b, Ap (fun n => g n b) (k b)) → Ap (fun n => runHead τ (c n) all eb fu cur ops e (g n)) (runHead τ call all eb fu cur ops e k)
  | 0, _, _, _, _, _, _, _ => Ap.const _
  | fu + 1, _, [], e, _, _, _, h => h e
  | fu + 1, cur, (o, bad) :: r, e, _, g, k, h => by
    unfold runHead
    split
    · split
      · rename_i t s x hst
        refine Ap.guardK _ ?_
        have := Ap.bind (Ap.const (stBox τ t (maskE bad e) x (eb s) some)) fun v => runHead_ap all eb fu cur r (Abs.setO e (some s) v) h
        simpa only [← stBox_nat] using this
      · exact Ap.guardK _ (val_ap τ hc _ o fun v => Ap.refK _ _ (runHead_ap all eb fu cur r _ h))
    · split
      · exact Ap.const _
      · split
        · exact Ap.const _
        · split
          · exact Ap.const _
          · split
            · exact Ap.guardK _ (Ap.asB _ fun b => Ap.bind (Ap.gate _ _ (runHead_ap all eb fu _ _ _ fun e' => Ap.const _) (Ap.const _)) fun v => runHead_ap all eb fu cur _ _ h)
            · exact Ap.const _
theorem runOps_ap (res : List Nat) (all : List Oper) : ∀ (fu : Nat) (ops : List Oper) (e : Env) {β : Type} {g : Nat → Env → Option β} {k : Env → Option β},
    (∀ b, Ap (fun n => g n b) (k b)) → Ap (fun n => runOps τ (c n) res all fu ops e (g n)) (runOps τ call res all fu ops e k)
  | 0, _, _, _, _, _, _ => Ap.const _
  | fu + 1, [], e, _, _, _, h => h e
  | fu + 1, o :: r, e, _, g, k, h => by
    unfold runOps
    split
    · exact step_ap τ hc res e o fun e' => runOps_ap res all fu r e' h
    · split
      · exact Ap.const _
      · split
        · exact Ap.const _
        · exact Ap.guardK _ (runHead_ap τ hc all _ _ _ _ _ fun e' => runOps_ap res all fu _ e' h)
theorem regRun_ap (res : List Nat) (ops : List Oper) (draw : Bool) (e : Env) {β : Type} {g : Nat → Env → Option β} {k : Env → Option β}
    (h : ∀ b, Ap (fun n => g n b) (k b)) : Ap (fun n => regRun τ (c n) res ops draw e (g n)) (regRun τ call res ops draw e k) := by
  unfold regRun
  split
  · exact runOps_ap τ hc res _ _ _ _ h
  · split
    · exact runHead_ap τ hc _ _ _ _ _ _ fun e' => runOps_ap τ hc res _ _ _ _ h
    · exact Ap.const _
end

def KLe (K K' : Kont) : Prop := ∀ x e, Le (K x e) (K' x e)
def BLe (B B' : Env → Kont → Option AV) : Prop := ∀ e K K', KLe K K' → Le (B e K) (B' e K')
abbrev Lp := (Env → Env) → (Env → Kont → Option AV) → Kont → Env → Option AV
def LLe (lp lp' : Lp) : Prop := ∀ fg B B' K K' e, BLe B B' → BLe B' B' → KLe K K' → Le (lp fg B K e) (lp' fg B' K' e)
theorem seqK_le {r r' : Env → Option AV} {K K' : Kont} (h : ∀ e, Le (r e) (r' e)) (hk : KLe K K') : KLe (seqK r K) (seqK r' K') := fun x e => by
  cases x
  · exact h e
  · exact hk _ e
  · exact hk _ e
theorem blockK_le {id : Nat} {K K' : Kont} (hk : KLe K K') : KLe (blockK id K) (blockK id K') := fun x e => by
  cases x
  · exact hk _ e
  · show Le (pick2 _ _ _) (pick2 _ _ _)
    cases Nat.beq _ id
    · exact hk _ e
    · exact hk _ e
  · exact hk _ e
theorem iter_le (fg : Env → Env) {B B' : Env → Kont → Option AV} {K K' : Kont} (hb : BLe B B') (hk : KLe K K') : ∀ n m e, n ≤ m → Le (iter n fg B K e) (iter m fg B' K' e)
  | 0, _, _, _ => fun v h => by cases h
  | n + 1, m, e, h => by
    obtain ⟨m, rfl⟩ : ∃ k, m = k + 1 := ⟨m - 1, by omega⟩
    exact hb e _ _ (seqK_le (fun e => iter_le fg hb hk n m _ (by omega)) hk)
/-- A loop, without a bound. -/
noncomputable def lpω : Lp := fun fg B K e => limO fun n => iter n fg B K e
theorem lpω_ap (fg : Env → Env) {B : Env → Kont → Option AV} (hb : BLe B B) (K : Kont) (e : Env) : Ap (fun n => iter n fg B K e) (lpω fg B K e) :=
  ap_limO fun n m h => iter_le fg hb (fun _ _ => Le.refl _) n m e h
theorem iter_lle {n m : Nat} (h : n ≤ m) : LLe (iter n) (iter m) := fun fg B B' K K' e hb _ hk => iter_le fg hb hk n m e h
theorem iter_lpω (n : Nat) : LLe (iter n) lpω := fun fg B B' K K' e hb hb' hk => (iter_le fg hb hk n n e (Nat.le_refl _)).trans ((lpω_ap fg hb' K' e).le n)
theorem lpω_lle : LLe lpω lpω := fun fg B B' K K' e hb hb' hk v h => by
  have hb0 : BLe B B ∨ True := .inr trivial
  unfold lpω limO at h
  split at h
  · exact iter_lpω _ fg B B' K K' e hb hb' hk v h
  · cases h
section
variable (τ : Tab) (ann : Nat → Option (List Nat)) (res : List Nat)
theorem regRun_le {c c' : Nat → List AV → Option AV} (hc : ∀ f l, Le (c f l) (c' f l)) (ops : List Oper) (draw : Bool) (e : Env) {β : Type} {k k' : Env → Option β}
    (h : ∀ b, Le (k b) (k' b)) : Le (regRun τ c res ops draw e k) (regRun τ c' res ops draw e k') := by
  have hap : ∀ {γ : Type} {x y : Option γ}, Le x y → Ap (fun n => match n with | 0 => x | _ + 1 => y) y := fun {γ x y} hl =>
    ⟨fun n m hnm => by
      cases n with
      | zero => cases m with
        | zero => exact Le.refl _
        | succ m => exact hl
      | succ n => cases m with
        | zero => omega
        | succ m => exact Le.refl _, fun v => ⟨fun e => ⟨1, e⟩, fun ⟨n, e⟩ => by cases n with | zero => exact hl v e | succ n => exact e⟩⟩
  have h1 : ∀ f l, Ap (fun n => (match n with | 0 => c | _ + 1 => c') f l) (c' f l) := fun f l => by
    have := hap (hc f l)
    refine ⟨fun n m h => ?_, fun v => ?_⟩
    · have := this.up n m h; cases n <;> cases m <;> exact this
    · refine ⟨fun e => ⟨1, e⟩, fun ⟨n, e⟩ => ?_⟩
      cases n with
      | zero => exact hc f l v e
      | succ n => exact e
  have h2 : ∀ b, Ap (fun n => (match n with | 0 => k | _ + 1 => k') b) (k' b) := fun b => by
    have := hap (h b)
    refine ⟨fun n m h => ?_, fun v => ?_⟩
    · have := this.up n m h; cases n <;> cases m <;> exact this
    · refine ⟨fun e => ⟨1, e⟩, fun ⟨n, e⟩ => ?_⟩
      cases n with
      | zero => exact h b v e
      | succ n => exact e
  exact (regRun_ap τ h1 res ops draw e h2).le 0
theorem run_le {c c' : Nat → List AV → Option AV} {lp lp' : Lp} (hc : ∀ f l, Le (c f l) (c' f l)) (hl : LLe lp lp') (hl' : LLe lp' lp') : ∀ (cd : Code), BLe (run τ ann c res lp cd) (run τ ann c' res lp' cd)
  | .skip, e, K, K', hk => hk _ e
  | .region id ops draw, e, K, K', hk => regRun_le τ res hc _ _ _ fun b => hk _ b
  | .seq a b, e, K, K', hk => run_le hc hl hl' a e _ _ (seqK_le (fun e => run_le hc hl hl' b _ _ _ hk) hk)
  | .cond x a b, e, K, K', hk => by
    show Le (opnd e x fun x => asB x fun x => ifB x (run τ ann c res lp a e K) (run τ ann c res lp b e K)) (opnd e x fun x => asB x fun x => ifB x (run τ ann c' res lp' a e K') (run τ ann c' res lp' b e K'))
    rw [opnd_n, opnd_n e x fun x => asB x fun x => ifB x (run τ ann c' res lp' a e K') (run τ ann c' res lp' b e K')]
    refine Le.bind (Le.refl _) fun v => ?_
    cases v <;> first | exact Le.refl _ | skip
    rename_i t
    cases t
    · exact run_le hc hl hl' b e _ _ hk
    · exact run_le hc hl hl' a e _ _ hk
  | .block id a, e, K, K', hk => run_le hc hl hl' a e _ _ (blockK_le hk)
  | .loop a, e, K, K', hk => hl _ _ _ _ _ _ (run_le hc hl hl' a) (by
      have := run_le (c := c') (c' := c') (fun _ _ => Le.refl _) hl' hl' a
      exact this) hk
  | .exit id, e, K, K', hk => hk _ e
  | .ret, e, K, K', hk => hk _ e
  | .rangeFunc .., e, K, K', hk => Le.refl _
  | .scope .., e, K, K', hk => Le.refl _
  | .label .., e, K, K', hk => Le.refl _
  | .goto .., e, K, K', hk => Le.refl _
  | .refuse .., e, K, K', hk => Le.refl _

def ApK (Kn : Nat → Kont) (K : Kont) : Prop := ∀ x e, Ap (fun n => Kn n x e) (K x e)
structure ApB (Bn : Nat → Env → Kont → Option AV) (B : Env → Kont → Option AV) : Prop where
  up : ∀ n m, n ≤ m → BLe (Bn n) (Bn m)
  to : ∀ n, BLe (Bn n) B
  self : BLe B B
  ap : ∀ Kn K, ApK Kn K → ∀ e, Ap (fun n => Bn n e (Kn n)) (B e K)
theorem seqK_ap {r : Nat → Env → Option AV} {r' : Env → Option AV} {Kn : Nat → Kont} {K : Kont} (h : ∀ e, Ap (fun n => r n e) (r' e)) (hk : ApK Kn K) : ApK (fun n => seqK (r n) (Kn n)) (seqK r' K) := fun x e => by
  cases x
  · exact h e
  · exact hk _ e
  · exact hk _ e
theorem blockK_ap {id : Nat} {Kn : Nat → Kont} {K : Kont} (hk : ApK Kn K) : ApK (fun n => blockK id (Kn n)) (blockK id K) := fun x e => by
  cases x
  · exact hk _ e
  · exact Ap.pick2 _ (hk _ e) (hk _ e)
  · exact hk _ e
/-- Rounds in number and what they are made of grow together. -/
theorem iter_ap (fg : Env → Env) {Bn : Nat → Env → Kont → Option AV} {B : Env → Kont → Option AV} {Kn : Nat → Kont} {K : Kont} (hb : ApB Bn B) (hk : ApK Kn K) (e : Env) :
    Ap (fun n => iter n fg (Bn n) (Kn n) e) (lpω fg B K e) := by
  have h1 : ∀ m e, Ap (fun n => iter m fg (Bn n) (Kn n) e) (iter m fg B K e) := by
    intro m
    induction m with
    | zero => intro e; exact Ap.const _
    | succ m ih => intro e; exact hb.ap _ _ (seqK_ap (fun e => ih _) hk) e
  refine ⟨fun n m h => iter_le fg (hb.up n m h) (fun x e => (hk x e).up n m h) n m e h, fun v => ?_⟩
  rw [(lpω_ap fg hb.self K e).lim v]
  constructor
  · rintro ⟨m, hm⟩
    obtain ⟨n, hn⟩ := ((h1 m e).lim v).1 hm
    refine ⟨max m n, iter_le fg (hb.up n _ (Nat.le_max_right ..)) (fun x e => (hk x e).up n _ (Nat.le_max_right ..)) m _ e (Nat.le_max_left ..) v hn⟩
  · rintro ⟨n, hn⟩
    exact ⟨n, (h1 n e).le n v hn⟩
theorem run_apB {c : Nat → Nat → List AV → Option AV} {call : Nat → List AV → Option AV} (hc : ∀ f l, Ap (fun n => c n f l) (call f l)) : ∀ (cd : Code),
    ApB (fun n => run τ ann (c n) res (iter n) cd) (run τ ann call res lpω cd) := by
  intro cd
  refine ⟨fun n m h => run_le τ ann res (fun f l => (hc f l).up n m h) (iter_lle h) (iter_lle (Nat.le_refl _)) cd, fun n => run_le τ ann res (fun f l => (hc f l).le n) (iter_lpω n) lpω_lle cd,
    run_le τ ann res (fun _ _ => Le.refl _) lpω_lle lpω_lle cd, ?_⟩
  induction cd with
  | skip => exact fun Kn K hk e => hk _ e
  | region id ops draw =>
    intro Kn K hk e
    exact regRun_ap τ hc res _ _ _ fun b => hk _ b
  | seq a b iha ihb => exact fun Kn K hk e => iha _ _ (seqK_ap (fun e => ihb _ _ hk _) hk) e
  | cond x a b iha ihb =>
    exact fun Kn K hk e => Ap.opnd e x fun v => Ap.asB v fun t => Ap.ifB t (iha _ _ hk e) (ihb _ _ hk e)
  | block id a iha => exact fun Kn K hk e => iha _ _ (blockK_ap hk) e
  | loop a iha =>
    exact fun Kn K hk e => iter_ap _ ⟨fun n m h => run_le τ ann res (fun f l => (hc f l).up n m h) (iter_lle h) (iter_lle (Nat.le_refl _)) a, fun n => run_le τ ann res (fun f l => (hc f l).le n) (iter_lpω n) lpω_lle a,
      run_le τ ann res (fun _ _ => Le.refl _) lpω_lle lpω_lle a, iha⟩ hk _
  | exit id => exact fun Kn K hk e => hk _ e
  | ret => exact fun Kn K hk e => hk _ e
  | rangeFunc => exact fun Kn K hk e => Ap.const _
  | scope => exact fun Kn K hk e => Ap.const _
  | label => exact fun Kn K hk e => Ap.const _
  | goto => exact fun Kn K hk e => Ap.const _
  | refuse => exact fun Kn K hk e => Ap.const _
/-- One round more. -/
theorem lpω_eq {call : Nat → List AV → Option AV} (cd : Code) (fg : Env → Env) (K : Kont) (e : Env) :
    lpω fg (run τ ann call res lpω cd) K e = run τ ann call res lpω cd e (seqK (fun e' => lpω fg (run τ ann call res lpω cd) K (fg e')) K) := by
  have hs := run_le τ ann res (c := call) (c' := call) (fun _ _ => Le.refl _) lpω_lle lpω_lle cd
  have hb := run_apB τ ann res (c := fun _ => call) (call := call) (fun _ _ => Ap.const _) cd
  have h1 := lpω_ap fg hs K e
  have h2 : Ap (fun n => iter (n + 1) fg (run τ ann call res lpω cd) K e) (lpω fg (run τ ann call res lpω cd) K e) :=
    ⟨fun n m h => h1.up _ _ (by omega), fun v => (h1.lim v).trans ⟨fun ⟨n, h⟩ => ⟨n, h1.up n _ (by omega) v h⟩, fun ⟨n, h⟩ => ⟨n + 1, h⟩⟩⟩
  have hB : ApB (fun _ => run τ ann call res lpω cd) (run τ ann call res lpω cd) := by
    refine ⟨fun _ _ _ => hs, fun _ => hs, hs, ?_⟩
    intro Kn K hk e
    have h3 : ∀ m, Ap (fun n => run τ ann call res (iter n) cd e (Kn m)) (run τ ann call res lpω cd e (Kn m)) := fun m => hb.ap (fun _ => Kn m) (Kn m) (fun _ _ => Ap.const _) e
    have h4 := hb.ap Kn K hk e
    refine ⟨fun n m h => hs e _ _ fun x e => (hk x e).up n m h, fun v => ⟨fun hv => ?_, fun ⟨n, hn⟩ => ?_⟩⟩
    · obtain ⟨n, hn⟩ := (h4.lim v).1 hv
      exact ⟨n, (h3 n).le n v hn⟩
    · exact hs e _ _ (fun x e => (hk x e).le n) v hn
  have h5 := hB.ap _ _ (seqK_ap (r := fun n e' => iter n fg (run τ ann call res lpω cd) K (fg e')) (r' := fun e' => lpω fg (run τ ann call res lpω cd) K (fg e')) (Kn := fun _ => K) (K := K) (fun e' => lpω_ap fg hs K _) (fun _ _ => Ap.const _)) e
  exact h2.uniq h5
end

theorem acall_up (S : Sys) : ∀ n m f l, n ≤ m → Le (acall S n f l) (acall S m f l)
  | 0, _, _, _, _ => fun v h => by cases h
  | n + 1, m, f, l, h => by
    obtain ⟨m, rfl⟩ : ∃ k, m = k + 1 := ⟨m - 1, by omega⟩
    unfold acall
    split
    · exact Le.refl _
    · split
      · exact run_le S.τ _ _ (fun f l => acall_up S n m f l (by omega)) (iter_lle (by omega)) (iter_lle (Nat.le_refl _)) _ _ _ _ fun _ _ => Le.refl _
      · exact Le.refl _
/-- A call, without a bound on its steps. -/
noncomputable def ω (S : Sys) (f : Nat) (l : List AV) : Option AV := limO fun n => acall S n f l
theorem ω_ap (S : Sys) (f : Nat) (l : List AV) : Ap (fun n => acall S n f l) (ω S f l) := ap_limO fun n m h => acall_up S n m f l h
theorem ω_some {S : Sys} {f : Nat} {l : List AV} {v : AV} : ω S f l = some v ↔ ∃ n, acall S n f l = some v := (ω_ap S f l).lim v
theorem ω_eq (S : Sys) (f : Nat) (l : List AV) (d : FD) (hO : S.O f = none) (hF : S.F f = some d) : ω S f l = bodyRun S (ω S) lpω f d l := by
  have h1 := ω_ap S f l
  have h2 : Ap (fun n => acall S (n + 1) f l) (ω S f l) :=
    ⟨fun n m h => h1.up _ _ (by omega), fun v => (h1.lim v).trans ⟨fun ⟨n, h⟩ => ⟨n, h1.up n _ (by omega) v h⟩, fun ⟨n, h⟩ => ⟨n + 1, h⟩⟩⟩
  have h3 : Ap (fun n => acall S (n + 1) f l) (bodyRun S (ω S) lpω f d l) := by
    have := (run_apB S.τ (S.ann f) (resSlots d.rs) (ω_ap S) d.code).ap (fun _ => retV S.τ d.rs) (retV S.τ d.rs) (fun _ _ => Ap.const _) (look (argEnv 0 l))
    have e : (fun n => acall S (n + 1) f l) = fun n => run S.τ (S.ann f) (acall S n) (resSlots d.rs) (iter n) d.code (look (argEnv 0 l)) (retV S.τ d.rs) := by
      funext n; simp only [acall, hO, hF, bodyRun]
    rw [e]; exact this
  exact h2.uniq h3
theorem ω_O (S : Sys) (f : Nat) (l : List AV) (g : List AV → Option AV) (hO : S.O f = some g) : ω S f l = g l := by
  have h1 := ω_ap S f l
  have h2 : Ap (fun n => acall S (n + 1) f l) (ω S f l) :=
    ⟨fun n m h => h1.up _ _ (by omega), fun v => (h1.lim v).trans ⟨fun ⟨n, h⟩ => ⟨n, h1.up n _ (by omega) v h⟩, fun ⟨n, h⟩ => ⟨n + 1, h⟩⟩⟩
  have e : (fun n => acall S (n + 1) f l) = fun _ => g l := by funext n; simp only [acall, hO]
  rw [e] at h2
  exact h2.uniq (Ap.const _)

/-! ### Pieces of a body by name -/
/-- A cut: nothing but its word stops the kernel there. -/
theorem mk_is : ∃ mk : (Env → Option AV) → Env → Option AV, mk = fun r e => r e := ⟨_, rfl⟩
noncomputable def mkω : (Env → Option AV) → Env → Option AV := Classical.choose mk_is
theorem mkω_eq (r : Env → Option AV) (e : Env) : mkω r e = r e := congrFun (congrFun (Classical.choose_spec mk_is) r) e
theorem lp_is : ∃ lp : Lp, lp = lpω := ⟨_, rfl⟩
noncomputable def lpκ : Lp := Classical.choose lp_is
theorem lpκ_eq : lpκ = lpω := Classical.choose_spec lp_is
theorem ω_is : ∃ w : Sys → Nat → List AV → Option AV, w = ω := ⟨_, rfl⟩
noncomputable def ωκ : Sys → Nat → List AV → Option AV := Classical.choose ω_is
theorem ωκ_eq : ωκ = ω := Classical.choose_spec ω_is
noncomputable def fgM (ann : Nat → Option (List Nat)) (c : Code) (r : Env → Option AV) (e : Env) : Option AV := match firstR c with
  | some k => (match ann (k + 1000000) with | some L => mkω r (forget L e) | none => r e)
  | none => r e
theorem fgM_eq (ann : Nat → Option (List Nat)) (c : Code) (r : Env → Option AV) (e : Env) : fgM ann c r e = r (fgJ ann c e) := by
  unfold fgM fgJ
  cases firstR c with
  | none => rfl
  | some k =>
    dsimp only
    cases ann (k + 1000000) with
    | none => rfl
    | some L => exact mkω_eq _ _
section
variable (τ : Tab) (ann : Nat → Option (List Nat)) (call : Nat → List AV → Option AV) (res : List Nat) (lp : Lp)
noncomputable def runM : Code → Env → Kont → Option AV
  | .skip, e, K => K .normal e
  | .region id ops draw, e, K => regRun τ call res ops.toList draw e fun e' => K .normal e'
  | .seq a b, e, K => runM a e (seqK (fun e' => fgM ann b (fun e'' => runM b e'' K) e') K)
  | .cond c a b, e, K => opnd e c fun c => asB c fun c => ifB c (runM a e K) (runM b e K)
  | .block id c, e, K => runM c e (blockK id K)
  | .loop c, e, K => lp (fgOf ann c) (runM c) K (fgOf ann c e)
  | .exit id, e, K => K (.exit id) e
  | .ret, e, K => K .ret e
  | _, _, _ => none
noncomputable def kontM : Code → List Nat → Kont → Kont
  | _, [], K => K
  | .seq a b, i :: p, K => (match i with
    | 0 => kontM a p (seqK (fun e' => fgM ann b (fun e'' => runM τ ann call res lp b e'' K) e') K)
    | _ => kontM b p K)
  | .cond _ a b, i :: p, K => (match i with | 0 => kontM a p K | _ => kontM b p K)
  | .block id c, _ :: p, K => kontM c p (blockK id K)
  | .loop c, _ :: p, K => kontM c p (seqK (fun e' => lp (fgOf ann c) (runM τ ann call res lp c) K (fgOf ann c e')) K)
  | _, _, K => K
theorem runM_eq : ∀ (c : Code), runM τ ann call res lp c = run τ ann call res lp c
  | .skip => rfl
  | .region _ _ _ => rfl
  | .seq a b => by
    funext e K
    simp only [runM, run, runM_eq a, runM_eq b, fgM_eq]
  | .cond c a b => by funext e K; simp only [runM, run, runM_eq a, runM_eq b]
  | .block id c => by funext e K; simp only [runM, run, runM_eq c]
  | .loop c => by funext e K; simp only [runM, run, runM_eq c]
  | .exit _ => rfl
  | .ret => rfl
  | .rangeFunc .. => rfl
  | .scope .. => rfl
  | .label .. => rfl
  | .goto .. => rfl
  | .refuse .. => rfl
end
noncomputable def loopAt (S : Sys) (f : Nat) (d : FD) (p : List Nat) (e : Env) : Option AV :=
  lpκ (fgOf (S.ann f) (sub d.code (p ++ [0]))) (runM S.τ (S.ann f) (ωκ S) (resSlots d.rs) lpκ (sub d.code (p ++ [0]))) (kontM S.τ (S.ann f) (ωκ S) (resSlots d.rs) lpκ d.code p (retV S.τ d.rs)) e
noncomputable def joinAt (S : Sys) (f : Nat) (d : FD) (p : List Nat) (e : Env) : Option AV :=
  mkω (fun e' => runM S.τ (S.ann f) (ωκ S) (resSlots d.rs) lpκ (sub d.code (p ++ [1])) e' (kontM S.τ (S.ann f) (ωκ S) (resSlots d.rs) lpκ d.code p (retV S.τ d.rs))) e
theorem loopAt_eq (S : Sys) (f : Nat) (d : FD) (p : List Nat) (e : Env) : loopAt S f d p e =
    runM S.τ (S.ann f) (ωκ S) (resSlots d.rs) lpκ (sub d.code (p ++ [0])) e (seqK (fun e' => loopAt S f d p (fgOf (S.ann f) (sub d.code (p ++ [0])) e')) (kontM S.τ (S.ann f) (ωκ S) (resSlots d.rs) lpκ d.code p (retV S.τ d.rs))) := by
  unfold loopAt
  rw [lpκ_eq, runM_eq]
  exact lpω_eq ..
theorem joinAt_eq (S : Sys) (f : Nat) (d : FD) (p : List Nat) (e : Env) : joinAt S f d p e =
    runM S.τ (S.ann f) (ωκ S) (resSlots d.rs) lpκ (sub d.code (p ++ [1])) e (kontM S.τ (S.ann f) (ωκ S) (resSlots d.rs) lpκ d.code p (retV S.τ d.rs)) := mkω_eq _ _
def dstsOk (n : Nat) : Code → Bool
  | .region _ ops _ => ops.toList.all fun o => match o.dst with | some d => Nat.blt d n | none => true
  | .seq a b => dstsOk n a && dstsOk n b
  | .cond _ a b => dstsOk n a && dstsOk n b
  | .block _ c => dstsOk n c
  | .loop c => dstsOk n c
  | _ => true
def resKey : ResultVar → Nat
  | .tmp t => 2 * t
  | .cell s _ => 2 * s + 1
def nodupN : List Nat → Bool
  | [] => true
  | x :: r => !(r.any fun y => Nat.beq x y) && nodupN r
def toFD (fn : Func) : Option FD := match fn.body with
  | some c => pick2 (dstsOk fn.ntmps c && nodupN (fn.results.toList.map resKey) && !(fn.name == "runtime.NumGoroutine")) (some ⟨c, fn.results.toList, fn.ntmps⟩) none
  | none => none
/-- A call, piece by piece. -/
theorem ωκ_run (S : Sys) (f : Nat) (l : List AV) (d : FD) (hO : S.O f = none) (hF : S.F f = some d) :
    ωκ S f l = runM S.τ (S.ann f) (ωκ S) (resSlots d.rs) lpκ d.code (look (argEnv 0 l)) (retV S.τ d.rs) := by
  rw [ωκ_eq, lpκ_eq, runM_eq]
  exact ω_eq S f l d hO hF
abbrev w64 (x : Int) : Int := IntKind.wrap .i64 x
end Go.Proofs.YtmdimhcjogjcgaaGreatDoor.Abs
