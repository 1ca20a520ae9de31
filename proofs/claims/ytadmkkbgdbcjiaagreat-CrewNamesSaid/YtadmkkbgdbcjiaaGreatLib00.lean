import Derived.CallsIn
import Derived.Laws.Sem
/-
The abstract evaluator: values, heaps, operations and code, without proofs. No condition.
-/
/-
The abstract evaluator: values, heaps, operations, code. No proofs here. Written so that the kernel runs it quickly: what hangs on a text alone is staged into a Box (the kernel keeps it); what a run brings is told by the recursors themselves.
-/
set_option linter.unusedVariables false
noncomputable section
namespace Go.Drip

/-! ### Eliminators -/
abbrev cnd {R : Type} (c : Bool) (a b : R) : R := @Bool.rec (fun _ => R) b a c
abbrev opt {α R : Type} (x : Option α) (d : R) (f : α → R) : R := @Option.rec α (fun _ => R) d f x
abbrev lst {α R : Type} (x : List α) (d : R) (f : α → List α → R) : R := @List.rec α (fun _ => R) d (fun a l _ => f a l) x
abbrev prd {α β R : Type} (x : α × β) (f : α → β → R) : R := f x.1 x.2
structure Box (α : Type) where
  f : α

/-- Digits to the base 4. -/
inductive Q where
  | a | b | c | d

/-- Trees by digits. -/
inductive Tr (α : Type) where
  | nil
  | leaf (x : α)
  | node (a b c d : Tr α)

def digit (i : Nat) : Q := bif Nat.beq i 0 then .a else bif Nat.beq i 1 then .b else bif Nat.beq i 2 then .c else .d
/-- The digits of a number, the first ones first. -/
def path : Nat → Nat → List Q → List Q
  | 0, _, l => l
  | k + 1, i, l => path k (Nat.div i 4) (digit (Nat.mod i 4) :: l)

def Tr.get {α : Type} (p : List Q) : Tr α → Option α :=
  @List.rec Q (fun _ => Tr α → Option α) (fun t => @Tr.rec α (fun _ => Option α) none (fun x => some x) (fun _ _ _ _ _ _ _ _ => none) t)
    (fun q _ ih t => @Tr.rec α (fun _ => Option α) none (fun _ => none) (fun a b c d _ _ _ _ => ih (@Q.rec (fun _ => Tr α) a b c d q)) t) p
/-- The four trees below a node. -/
def kids {α R : Type} (k : Tr α → Tr α → Tr α → Tr α → R) (t : Tr α) : R :=
  @Tr.rec α (fun _ => R) (k .nil .nil .nil .nil) (fun _ => k .nil .nil .nil .nil) (fun a b c d _ _ _ _ => k a b c d) t
def put4 {α : Type} (q : Q) (ih : Tr α → Tr α) (a b c d : Tr α) : Tr α :=
  @Q.rec (fun _ => Tr α) (.node (ih a) b c d) (.node a (ih b) c d) (.node a b (ih c) d) (.node a b c (ih d)) q
def Tr.put {α : Type} (x : Tr α) (p : List Q) : Tr α → Tr α :=
  @List.rec Q (fun _ => Tr α → Tr α) (fun _ => x) (fun q _ ih t => kids (put4 q ih) t) p
def low4 {α : Type} (q : Q) (ih : Tr α → Tr α) (a b c d : Tr α) : Tr α :=
  @Q.rec (fun _ => Tr α) (.node (ih a) .nil .nil .nil) (.node a (ih b) .nil .nil) (.node a b (ih c) .nil) (.node a b c (ih d)) q
/-- Only what lies below a number stays. -/
def Tr.low {α : Type} (p : List Q) : Tr α → Tr α :=
  @List.rec Q (fun _ => Tr α → Tr α) (fun _ => .nil) (fun q _ ih t => kids (low4 q ih) t) p

/-- Abstract values: the rarer kinds. -/
inductive AX (α : Type) where
  | any
  | str (s : List UInt8)
  | oth (v : Value)                             -- a value without addresses
  | nils                                        -- the nil slice
  | nilp
  | nilf
  | ip (cs : List α)                            -- a pointer to what is immutable
  | z                                           -- a slice without elements and without room
  | imm (sz n : Nat) (f : Nat → List α)         -- a slice that is immutable, and not nil
  | mp (b : Nat)
  | fn (f : Fn) (first cap : List α)
  | tup (vs : List α)
  | und                                         -- what a skipped operation leaves
/-- .. and the others. -/
inductive AF (α : Type) where
  | num (k : IntKind) (n : Int)
  | bool (b : Bool)
  | ptr (b r c : Nat)
  | sl (b r n s : Nat) (cap : Option Nat)
  | agg (cs : List α)
  | x (w : AX α)
/-- Abstract values. -/
structure AV where
  f : AF AV
instance : Inhabited AV := ⟨⟨.x .any⟩⟩
abbrev AV.any : AV := ⟨.x .any⟩
abbrev AV.num (k : IntKind) (n : Int) : AV := ⟨.num k n⟩
abbrev AV.bool (b : Bool) : AV := ⟨.bool b⟩
abbrev AV.str (s : List UInt8) : AV := ⟨.x (.str s)⟩
abbrev AV.oth (v : Value) : AV := ⟨.x (.oth v)⟩
abbrev AV.nils : AV := ⟨.x .nils⟩
abbrev AV.nilp : AV := ⟨.x .nilp⟩
abbrev AV.nilf : AV := ⟨.x .nilf⟩
abbrev AV.ptr (b r c : Nat) : AV := ⟨.ptr b r c⟩
abbrev AV.ip (cs : List AV) : AV := ⟨.x (.ip cs)⟩
abbrev AV.sl (b r n s : Nat) (cap : Option Nat) : AV := ⟨.sl b r n s cap⟩
abbrev AV.z : AV := ⟨.x .z⟩
abbrev AV.imm (sz n : Nat) (f : Nat → List AV) : AV := ⟨.x (.imm sz n f)⟩
abbrev AV.mp (b : Nat) : AV := ⟨.x (.mp b)⟩
abbrev AV.fn (f : Fn) (first cap : List AV) : AV := ⟨.x (.fn f first cap)⟩
abbrev AV.agg (cs : List AV) : AV := ⟨.agg cs⟩
abbrev AV.tup (vs : List AV) : AV := ⟨.x (.tup vs)⟩

section
variable {R : Type} (v : AV) (d : R)
abbrev AV.onNum (f : IntKind → Int → R) : R := @AF.rec AV (fun _ => R) f (fun _ => d) (fun _ _ _ => d) (fun _ _ _ _ _ => d) (fun _ => d) (fun _ => d) v.f
abbrev AV.onBool (f : Bool → R) : R := @AF.rec AV (fun _ => R) (fun _ _ => d) f (fun _ _ _ => d) (fun _ _ _ _ _ => d) (fun _ => d) (fun _ => d) v.f
abbrev AV.onPtr (f : Nat → Nat → Nat → R) : R := @AF.rec AV (fun _ => R) (fun _ _ => d) (fun _ => d) f (fun _ _ _ _ _ => d) (fun _ => d) (fun _ => d) v.f
abbrev AV.onAgg (f : List AV → R) : R := @AF.rec AV (fun _ => R) (fun _ _ => d) (fun _ => d) (fun _ _ _ => d) (fun _ _ _ _ _ => d) f (fun _ => d) v.f
abbrev AV.onX (f : AX AV → R) : R := @AF.rec AV (fun _ => R) (fun _ _ => d) (fun _ => d) (fun _ _ _ => d) (fun _ _ _ _ _ => d) (fun _ => d) f v.f
abbrev AX.onIp (w : AX AV) (f : List AV → R) : R := @AX.rec AV (fun _ => R) d (fun _ => d) (fun _ => d) d d d f d (fun _ _ _ => d) (fun _ => d) (fun _ _ _ => d) (fun _ => d) d w
abbrev AX.onStr (w : AX AV) (f : List UInt8 → R) : R := @AX.rec AV (fun _ => R) d f (fun _ => d) d d d (fun _ => d) d (fun _ _ _ => d) (fun _ => d) (fun _ _ _ => d) (fun _ => d) d w
abbrev AX.onMp (w : AX AV) (f : Nat → R) : R := @AX.rec AV (fun _ => R) d (fun _ => d) (fun _ => d) d d d (fun _ => d) d (fun _ _ _ => d) f (fun _ _ _ => d) (fun _ => d) d w
abbrev AX.onFn (w : AX AV) (f : Fn → List AV → List AV → R) : R := @AX.rec AV (fun _ => R) d (fun _ => d) (fun _ => d) d d d (fun _ => d) d (fun _ _ _ => d) (fun _ => d) f (fun _ => d) d w
abbrev AX.onTup (w : AX AV) (f : List AV → R) : R := @AX.rec AV (fun _ => R) d (fun _ => d) (fun _ => d) d d d (fun _ => d) d (fun _ _ _ => d) (fun _ => d) (fun _ _ _ => d) f d w
abbrev AX.onSl (w : AX AV) (g : Nat → Nat → (Nat → List AV) → R) (e nl : R) : R := @AX.rec AV (fun _ => R) d (fun _ => d) (fun _ => d) nl d d (fun _ => d) e g (fun _ => d) (fun _ _ _ => d) (fun _ => d) d w
/-- A pointer, to memory or to what is immutable. -/
abbrev AV.onAddr (f : Nat → Nat → Nat → R) (g : List AV → R) : R := @AF.rec AV (fun _ => R) (fun _ _ => d) (fun _ => d) f (fun _ _ _ _ _ => d) (fun _ => d) (fun w => AX.onIp d w g) v.f
/-- A slice: in memory; immutable; empty and without room; nil. -/
abbrev AV.onSl (f : Nat → Nat → Nat → Nat → Option Nat → R) (g : Nat → Nat → (Nat → List AV) → R) (e nl : R) : R := @AF.rec AV (fun _ => R) (fun _ _ => d) (fun _ => d) (fun _ _ _ => d) f (fun _ => d) (fun w => AX.onSl d w g e nl) v.f
abbrev AV.onMp (f : Nat → R) : R := v.onX d fun w => AX.onMp d w f
abbrev AV.onFn (f : Fn → List AV → List AV → R) : R := v.onX d fun w => AX.onFn d w f
abbrev AV.onTup (f : List AV → R) : R := v.onX d fun w => AX.onTup d w f
abbrev AV.onStr (f : List UInt8 → R) : R := v.onX d fun w => AX.onStr d w f
end

/-- Blocks of abstract memory. -/
inductive Blk where
  | cells (t : TypeId) (sz : Nat) (rows : List (List AV))
  | map (es : List (AV × AV))
  | loop (fn : FuncId) (T : Tr AV) (n : Nat) (ps : Array Tmp) (assign body : Code) (st : LoopState) (pend : Option Code)

structure AH where
  next : Nat
  prot : Nat
  tr : Tr Blk

/-- How deep the trees of blocks are. -/
def maxH : Nat := 65536
def pathH (b : Nat) : List Q := path 8 b []

def AH.get (H : AH) (b : Nat) : Option Blk := Tr.get (pathH b) H.tr
def blkTr (x : Option Blk) : Tr Blk := opt x .nil .leaf
def AH.upd (H : AH) (b : Nat) (x : Tr Blk) : AH := ⟨H.next, H.prot, Tr.put x (pathH b) H.tr⟩

/-- Results of operations and calls. -/
inductive RV where
  | no
  | ok (v : AV) (H : AH)
  deriving Inhabited

/-- How code is left. -/
inductive AE where
  | normal
  | exit (id : Nat)
  | ret
  deriving Inhabited

inductive Res where
  | no
  | go (e : AE) (T : Tr AV) (H : AH)

abbrev ob {α β : Type} (x : Option α) (f : α → Option β) : Option β := opt x none f
abbrev rb {α : Type} (x : Option α) (f : α → RV) : RV := opt x .no f
abbrev sb {α : Type} (x : Option α) (f : α → Res) : Res := opt x .no f
abbrev vb (x : RV) (f : AV → AH → Res) : Res := @RV.rec (fun _ => Res) .no f x
abbrev vv (x : RV) (f : AV → AH → RV) : RV := @RV.rec (fun _ => RV) .no f x

/-- A new block. -/
def AH.new (H : AH) (x : Tr Blk) (f : Nat → AH → RV) : RV :=
  cnd (Nat.ble maxH H.next) .no (f H.next ⟨Nat.succ H.next, H.prot, Tr.put x (pathH H.next) H.tr⟩)
/-- A block is written; it must not be protected. -/
def AH.set (H : AH) (b : Nat) (x : Tr Blk) : Option AH := cnd (Nat.ble H.prot b) (some (H.upd b x)) none

def undefA : AV := ⟨.x .und⟩

/-- The temporaries that a function keeps from region to region, and how deep their tree is. -/
structure Kp where
  l : List Nat
  k : Nat
def posIn (l : List Nat) (i : Nat) : Option Nat := @List.rec Nat (fun _ => Nat → Option Nat) (fun _ => none) (fun a _ ih n => cnd (Nat.beq a i) (some n) (ih (Nat.succ n))) l 0
/-- A tree holds what is kept; what a region alone knows stands in a list, the newest first. -/
abbrev Rl := List (Nat × AV)
def look (i : Nat) (R : Rl) : AV := @List.rec (Nat × AV) (fun _ => AV) .any (fun p _ r => cnd (Nat.beq p.1 i) p.2 r) R
def getP (p : List Q) (T : Tr AV) : AV := opt (Tr.get p T) .any fun a => a
def fits (kp : Kp) (j : Nat) : Bool := Nat.ble (Nat.succ j) (4 ^ kp.k)
def getS (kp : Kp) (i : Nat) : Box (Rl → Tr AV → AV) :=
  match posIn kp.l i with
  | some j => cnd (fits kp j) ⟨fun _ T => getP (path kp.k j []) T⟩ ⟨fun _ _ => .any⟩
  | none => ⟨fun R _ => look i R⟩

abbrev AX.cells (v : AV) (w : AX AV) : List AV := @AX.rec AV (fun _ => List AV) [] (fun _ => [v]) (fun _ => [v]) [v] [v] [v] (fun _ => [v]) [v] (fun _ _ _ => [v]) (fun _ => [v]) (fun _ _ _ => [v]) (fun _ => []) [] w
/-- The cells of a value; none: they are not known. -/
abbrev AV.cells (v : AV) : List AV := @AF.rec AV (fun _ => List AV) (fun _ _ => [v]) (fun _ => [v]) (fun _ _ _ => [v]) (fun _ _ _ _ _ => [v]) (fun cs => cs) (AX.cells v) v.f

def ofVal1 : Value → AV
  | .int k n => .num k n
  | .bool b => .bool b
  | .string s => .str s.data.toList
  | .slice none 0 0 => .nils
  | .pointer none => .nilp
  | .nilFunc => .nilf
  | v => cnd v.oneCell' (.oth v) .any
def ofVal : Value → AV
  | .agg cs => cnd (cs.toList.all Value.oneCell') (.agg (cs.toList.map ofVal1)) .any
  | v => ofVal1 v

abbrev Ev := Rl → Tr AV → AV
/-- What an operand says. -/
def opd (kp : Kp) : Operand → Box Ev
  | .tmp t => getS kp t
  | .const v => ⟨fun _ _ => ofVal v⟩
  | .global g => ⟨fun _ _ => .oth (.pointer (some ⟨g, 0, none⟩))⟩
  | .func f => ⟨fun _ _ => .fn (.func f) [] []⟩

/-- What is known of the program's types and functions. -/
structure Tab where
  und : TypeId → Option TypeDesc
  size : TypeId → Option Nat
  bytes : TypeId → Nat
  zero : TypeId → Option (List AV)
  fn : FuncId → Option Func
  flat : TypeId → Option (List (Option IntKind)) -- the kinds of the cells, if numbers and bools are all

def isAggD : TypeDesc → Bool
  | .struct _ => true
  | .array _ _ => true
  | _ => false

/-! ### Lists -/
def len {α : Type} (l : List α) : Nat := @List.rec α (fun _ => Nat) 0 (fun _ _ n => Nat.succ n) l
def drp {α : Type} (l : List α) : Nat → List α :=
  @List.rec α (fun _ => Nat → List α) (fun _ => []) (fun a t ih n => @Nat.rec (fun _ => List α) (a :: t) (fun m _ => ih m) n) l
def tak {α : Type} (l : List α) : Nat → List α :=
  @List.rec α (fun _ => Nat → List α) (fun _ => []) (fun a _ ih n => @Nat.rec (fun _ => List α) [] (fun m _ => a :: ih m) n) l
def app {α : Type} (l m : List α) : List α := @List.rec α (fun _ => List α) m (fun a _ r => a :: r) l
def nth {α : Type} (l : List α) : Nat → Option α :=
  @List.rec α (fun _ => Nat → Option α) (fun _ => none) (fun a _ ih n => @Nat.rec (fun _ => Option α) (some a) (fun m _ => ih m) n) l
def mapO {α β : Type} (f : α → Option β) (l : List α) : Option (List β) :=
  @List.rec α (fun _ => Option (List β)) (some []) (fun a _ r => ob (f a) fun b => ob r fun l => some (b :: l)) l
def setAt {α : Type} (l : List α) (x : α) : Nat → List α :=
  @List.rec α (fun _ => Nat → List α) (fun _ => []) (fun a t ih n => @Nat.rec (fun _ => List α) (x :: t) (fun m _ => a :: ih m) n) l
/-- From a place on a list is written over. -/
def over {α : Type} (l : List α) : Nat → List α → List α :=
  @List.rec α (fun _ => Nat → List α → List α) (fun _ _ => [])
    (fun a t ih n xs => @Nat.rec (fun _ => List α) (lst xs (a :: t) fun x xs => x :: ih 0 xs) (fun m _ => a :: ih m xs) n) l
def rep {α : Type} (x : α) (n : Nat) : List α := @Nat.rec (fun _ => List α) [] (fun _ l => x :: l) n
/-- n lists of so many elements. -/
def chunk {α : Type} (sz n : Nat) : List α → List (List α) :=
  @Nat.rec (fun _ => List α → List (List α)) (fun _ => []) (fun _ ih l => tak l sz :: ih (drp l sz)) n
/-- The values of a function from a number on. -/
def tabl {α : Type} (f : Nat → α) (n : Nat) : Nat → List α := @Nat.rec (fun _ => Nat → List α) (fun _ => []) (fun _ ih i => f i :: ih (Nat.succ i)) n

/-- So many cells of a row from a place on. -/
def lenIs {α : Type} (n : Nat) (l : List α) : Option (List α) := cnd (Nat.beq (len l) n) (some l) none
def kindNo : IntKind → Nat
  | .i8 => 0 | .i16 => 1 | .i32 => 2 | .i64 => 3 | .u8 => 4 | .u16 => 5 | .u32 => 6 | .u64 => 7
def kindEq (j k : IntKind) : Bool := Nat.beq (kindNo j) (kindNo k)
/-- Cells are numbers of these kinds, and bools. -/
def kdOk (k : Option IntKind) (x : AV) : Bool := @Option.rec IntKind (fun _ => Bool) (x.onBool false fun _ => true) (fun k => x.onNum false fun j _ => kindEq j k) k
def kdsOk (ks : List (Option IntKind)) : List AV → Bool :=
  @List.rec (Option IntKind) (fun _ => List AV → Bool) (fun l => lst l true fun _ _ => false) (fun k _ ih l => lst l false fun a l => cnd (kdOk k a) (ih l) false) ks
def kdIs (ks : List (Option IntKind)) (l : List AV) : Option (List AV) := cnd (kdsOk ks l) (some l) none
def cut {α : Type} (l : List α) (o n : Nat) : Option (List α) := lenIs n (tak (drp l o) n)

/-! ### Numbers -/
abbrev onInt {R : Type} (x : Int) (f g : Nat → R) : R := @Int.rec (fun _ => R) f g x
def inI64 (x : Int) : Bool := onInt x (fun m => Nat.ble (Nat.succ m) 9223372036854775808) (fun m => Nat.ble (Nat.succ m) 9223372036854775808)
def isI64 : IntKind → Bool
  | .i64 => true
  | _ => false
def wrapF (k : IntKind) (n : Int) : Int := cnd (isI64 k) (cnd (inI64 n) n (IntKind.wrap k n)) (IntKind.wrap k n)
def addF (x y : Int) : Int := onInt x (fun a => onInt y (fun b => .ofNat (Nat.add a b)) fun _ => x + y) fun _ => x + y
def subF (x y : Int) : Int := onInt x (fun a => onInt y (fun b => cnd (Nat.ble b a) (.ofNat (Nat.sub a b)) (x - y)) fun _ => x - y) fun _ => x - y
def intLt (x y : Int) : Bool := onInt x (fun a => onInt y (fun b => Nat.ble (Nat.succ a) b) fun _ => false) fun a => onInt y (fun _ => true) fun b => Nat.ble (Nat.succ b) a
def intEq (x y : Int) : Bool := onInt x (fun a => onInt y (fun b => Nat.beq a b) fun _ => false) fun a => onInt y (fun _ => false) fun b => Nat.beq a b
def not' (b : Bool) : Bool := cnd b false true
def boolEq (a b : Bool) : Bool := cnd a b (not' b)


def bitsOp (op : BinOp) (k : IntKind) (a b : Int) : Option AV :=
  let x := BitVec.ofInt k.bits a
  let y := BitVec.ofInt k.bits b
  match op with
  | .and => some (.num k (k.wrap (x &&& y).toNat))
  | .or => some (.num k (k.wrap (x ||| y).toNat))
  | .xor => some (.num k (k.wrap (x ^^^ y).toNat))
  | _ => some (.num k (k.wrap (x &&& ~~~y).toNat))

abbrev NumF := IntKind → Int → Int → Option AV
/-- Operations on two numbers of one kind. -/
def intOp (op : BinOp) : Box NumF :=
  match op with
  | .add => ⟨fun k a b => some (.num k (wrapF k (addF a b)))⟩
  | .sub => ⟨fun k a b => some (.num k (wrapF k (subF a b)))⟩
  | .mul => ⟨fun k a b => some (.num k (wrapF k (a * b)))⟩
  | .quo => ⟨fun k a b => cnd (intEq b 0) none (some (.num k (wrapF k (a.tdiv b))))⟩
  | .rem => ⟨fun k a b => cnd (intEq b 0) none (some (.num k (a.tmod b)))⟩
  | .eql => ⟨fun _ a b => some (.bool (intEq a b))⟩
  | .neq => ⟨fun _ a b => some (.bool (not' (intEq a b)))⟩
  | .lss => ⟨fun _ a b => some (.bool (intLt a b))⟩
  | .leq => ⟨fun _ a b => some (.bool (not' (intLt b a)))⟩
  | .gtr => ⟨fun _ a b => some (.bool (intLt b a))⟩
  | .geq => ⟨fun _ a b => some (.bool (not' (intLt a b)))⟩
  | .shl => ⟨fun _ _ _ => none⟩
  | .shr => ⟨fun _ _ _ => none⟩
  | op => ⟨bitsOp op⟩
def shlF : NumF := fun k a b => cnd (intLt b 0) none (some (.num k (k.wrap (a * 2 ^ (min b.toNat k.bits)))))
def shrF : NumF := fun k a b => cnd (intLt b 0) none (some (.num k (a.fdiv (2 ^ (min b.toNat k.bits)))))

def bytesEq (x : List UInt8) : List UInt8 → Bool :=
  @List.rec UInt8 (fun _ => List UInt8 → Bool) (fun y => lst y true fun _ _ => false) (fun a _ ih y => lst y false fun b y => cnd (Nat.beq a.toNat b.toNat) (ih y) false) x

def eqOp (op : BinOp) : Box (Bool → Option AV) :=
  match op with
  | .eql => ⟨fun r => some (.bool r)⟩
  | .neq => ⟨fun r => some (.bool (not' r))⟩
  | _ => ⟨fun _ => none⟩

/-- Equality of cells that are numbers and bools. -/
def cellEq (x y : AV) : Option Bool :=
  @AF.rec AV (fun _ => Option Bool) (fun j a => y.onNum none fun k b => cnd (kindEq j k) (some (intEq a b)) none) (fun a => y.onBool none fun b => some (boolEq a b)) (fun _ _ _ => none) (fun _ _ _ _ _ => none) (fun _ => none) (fun _ => none) x.f
def flatEq (x : List AV) : List AV → Option Bool :=
  @List.rec AV (fun _ => List AV → Option Bool) (fun y => lst y (some true) fun _ _ => none)
    (fun a _ ih y => lst y none fun b y => ob (cellEq a b) fun e => ob (ih y) fun r => some (cnd e r false)) x

/-- What nil is not equal to, by the type. -/
def nilEqF (d : TypeDesc) (eq : Bool → Option AV) (x y : AF AV) : Option AV :=
  match d, x, y with
  | .pointer _, .x .nilp, .x .nilp => eq true
  | .pointer _, .ptr .., .x .nilp => eq false
  | .pointer _, .x (.ip _), .x .nilp => eq false
  | .pointer _, .x .nilp, .ptr .. => eq false
  | .pointer _, .x .nilp, .x (.ip _) => eq false
  | .slice _, .x .nils, .x .nils => eq true
  | .slice _, .sl .., .x .nils => eq false
  | .slice _, .x (.imm _ n f), .x .nils => cnd (Nat.beq n 0) (lst (f 0) none fun _ _ => eq false) (eq false)
  | .func _ _ _, .x .nilf, .x .nilf => eq true
  | .func _ _ _, .x (.fn ..), .x .nilf => eq false
  | .func _ _ _, .x .nilf, .x (.fn ..) => eq false
  | _, _, _ => none
abbrev F2 := AV → AV → Option AV
def binX (nl : AF AV → AF AV → Option AV) (eq : Bool → Option AV) (x y : AV) (w : AX AV) : Option AV := AX.onStr (nl x.f y.f) w fun s => y.onStr none fun r => eq (bytesEq s r)
def isBoolD : TypeDesc → Bool
  | .bool => true
  | _ => false
/-- d: the operands' type; nf: so many cells, if they are numbers and bools. -/
def binF (isB : Bool) (nf : Option (List (Option IntKind))) (nm : NumF) (eq : Bool → Option AV) (nl : AF AV → AF AV → Option AV) : F2 := fun x y =>
  @AF.rec AV (fun _ => Option AV) (fun j a => y.onNum none fun k b => cnd (kindEq j k) (nm j a b) none) (fun a => y.onBool none fun b => cnd isB (eq (boolEq a b)) none)
    (fun _ _ _ => nl x.f y.f) (fun _ _ _ _ _ => nl x.f y.f) (fun cs => y.onAgg none fun ds => ob nf fun n => ob (kdIs n cs) fun cs => ob (flatEq cs ds) eq) (binX nl eq x y) x.f
def shiftF (nm : NumF) : F2 := fun x y => x.onNum none fun k a => y.onNum none fun _ b => nm k a b
/-- Operations on two values. -/
def binA (d : TypeDesc) (nf : Option (List (Option IntKind))) (op : BinOp) : Box F2 :=
  match op with
  | .shl => ⟨shiftF shlF⟩
  | .shr => ⟨shiftF shrF⟩
  | op => ⟨binF (isBoolD d) nf (intOp op).f (eqOp op).f (nilEqF d (eqOp op).f)⟩

/-- Parts are written into a row: where, how many cells, what. -/
def fillA (ps : List ((Nat × Nat) × AV)) : List AV → Option (List AV) :=
  @List.rec ((Nat × Nat) × AV) (fun _ => List AV → Option (List AV)) (fun cs => some cs)
    (fun p _ ih cs => cnd (Nat.beq p.1.2 0) none (cnd (Nat.beq (len p.2.cells) p.1.2) (cnd (Nat.ble (Nat.add p.1.1 p.1.2) (len cs)) (ih (over cs p.1.1 p.2.cells)) none) none)) ps

def natOf (x : AV) : Option Nat := x.onNum none fun _ n => onInt n (fun m => some m) fun _ => none

/-- An index from 0 on, below a length. -/
def idx (x : AV) (n : Nat) : Option Nat := x.onNum none fun _ i => onInt i (fun m => cnd (Nat.ble (Nat.succ m) n) (some m) none) fun _ => none

/-- Cells as a value. -/
def one1 (cs : List AV) : Option AV := lst cs none fun v r => lst r (some v) fun _ _ => none
def aggC (cs : List AV) : Option AV := some (.agg cs)
/-- A part of cells: whether it is a struct or an array, and its size. -/
def partA (ty : Bool × Nat) : Box (List AV → Nat → Option AV) :=
  match ty with
  | (true, n) => ⟨fun cs o => ob (cut cs o n) aggC⟩
  | (false, 1) => ⟨fun cs o => nth cs o⟩
  | (false, n) => ⟨fun cs o => ob (cut cs o n) one1⟩

section
variable (t : Tab)

def aggSize (ty : TypeId) : Option (Bool × Nat) := ob (t.und ty) fun d => ob (t.size ty) fun s => some (isAggD d, s)

/-- The field of a struct. -/
def fieldOf (s : TypeId) (f : Nat) : Option Field :=
  match t.und s with
  | some (.struct fs) => nth fs.toList f
  | _ => none

def fieldsOf (s : TypeId) : Option (List (Nat × Nat)) :=
  match t.und s with
  | some (.struct fs) => mapO (fun g => ob (t.size g.type) fun s => some (g.offset, s)) fs.toList
  | _ => none

variable (kp : Kp)
/-! ### Operations that look at no memory -/
abbrev P1 := Rl → Tr AV → Option AV
def noP : Box P1 := ⟨fun _ _ => none⟩
def sP {α : Type} (x : Option α) (f : α → Box P1) : Box P1 := opt x noP f
def p1 (f : AV → Option AV) (x : Operand) : Box P1 := ⟨fun R T => f ((opd kp x).f R T)⟩
def p2 (f : F2) (x y : Operand) : Box P1 := ⟨fun R T => f ((opd kp x).f R T) ((opd kp y).f R T)⟩

def pickF (c a b : Operand) : P1 := fun R T => ((opd kp c).f R T).onBool none fun x => some (cnd x ((opd kp a).f R T) ((opd kp b).f R T))
def okFn : Fn → Bool
  | .func _ => true
  | .yield _ => true
  | _ => false
def nilCheckF (x : AV) : Option AV :=
  @AF.rec AV (fun _ => Option AV) (fun _ _ => none) (fun _ => none) (fun _ _ _ => some x) (fun _ _ _ _ _ => none) (fun _ => none)
    (fun w => AX.onIp (AX.onFn none w fun f _ _ => cnd (okFn f) (some x) none) w fun _ => some x) x.f
def unF (op : UnOp) : Box (AV → Option AV) :=
  match op with
  | .not => ⟨fun x => x.onBool none fun b => some (.bool (not' b))⟩
  | .neg => ⟨fun x => x.onNum none fun k n => some (.num k (wrapF k (subF 0 n)))⟩
  | _ => ⟨fun _ => none⟩
def faddrF (o : Nat) (x : AV) : Option AV := x.onAddr none (fun b r c => some (.ptr b r (Nat.add c o))) fun cs => some (.ip (drp cs o))
def iaddrF (s : Nat) (x i : AV) : Option AV := x.onSl none (fun b r n s' _ => cnd (Nat.beq s s') (ob (idx i n) fun k => some (.ptr b (Nat.add r k) 0)) none) (fun s' n f => cnd (Nat.beq s s') (ob (idx i n) fun k => some (.ip (f k))) none) none none
def iaddrArrF (ln s : Nat) (x i : AV) : Option AV :=
  ob (idx i ln) fun k => x.onAddr none (fun b r c => some (.ptr b r (Nat.add c (Nat.mul k s)))) fun cs => some (.ip (drp cs (Nat.mul k s)))
def fieldF (part : List AV → Nat → Option AV) (o : Nat) (x : AV) : Option AV := x.onAgg none fun cs => part cs o
def indexArrF (ln s : Nat) (part : List AV → Nat → Option AV) (x i : AV) : Option AV := x.onAgg none fun cs => ob (idx i ln) fun k => part cs (Nat.mul k s)
def byteAt (l : List UInt8) (k : Nat) : Option AV := ob (nth l k) fun c => some (.num .u8 (.ofNat c.toNat))
def indexStrF (x i : AV) : Option AV := x.onStr none fun s => ob (natOf i) (byteAt s)
def extractF (i : Nat) (x : AV) : Option AV := x.onTup none fun vs => nth vs i
def bnd (x : Option AV) (dflt : Nat) : Option Nat := opt x (some dflt) natOf
def sliceStrF (s : List UInt8) (lo hi : Option AV) : Option AV :=
  ob (bnd lo 0) fun l => ob (bnd hi (len s)) fun h => cnd (Nat.ble l h) (cnd (Nat.ble h (len s)) (some (.str (tak (drp s l) (Nat.sub h l)))) none) none
def sliceImmF (sz n : Nat) (f : Nat → List AV) (lo hi : Option AV) (s : Nat) : Option AV :=
  cnd (Nat.beq sz s) (ob (bnd lo 0) fun l => ob (bnd hi n) fun h => cnd (Nat.ble l h) (cnd (Nat.ble h n) (some (.imm sz (Nat.sub h l) fun i => f (Nat.add l i))) none) none) none
def slice0F (x : AV) (lo hi mx : Option AV) : Option AV :=
  ob (bnd lo 0) fun l => ob (bnd hi 0) fun h => ob (bnd mx 0) fun m => cnd (Nat.beq (Nat.add l (Nat.add h m)) 0) (some x) none
def num64 (n : Nat) : AV := .num .i64 (.ofNat n)
def capF (x : AV) : Option AV := x.onSl none (fun _ _ _ _ c => ob c fun n => some (num64 n)) (fun _ _ _ => none) (some (num64 0)) (some (num64 0))
def maxF (x y : AV) : Option AV := x.onNum none fun k a => y.onNum none fun j b => cnd (kindEq k j) (some (.num k (cnd (intLt a b) b a))) none
def minF (x y : AV) : Option AV := x.onNum none fun k a => y.onNum none fun j b => cnd (kindEq k j) (some (.num k (cnd (intLt b a) b a))) none
def convF (dst : TypeDesc) : Box (AV → Option AV) :=
  match dst with
  | .int k => ⟨fun x => x.onNum none fun _ n => some (.num k (wrapF k n))⟩
  | .string => ⟨fun x => x.onStr none fun s => some (.str s)⟩
  | _ => ⟨fun _ => none⟩

def evs : List Operand → Box (Rl → Tr AV → List AV)
  | [] => ⟨fun _ _ => []⟩
  | x :: l => ⟨fun R T => (opd kp x).f R T :: (evs l).f R T⟩
def evPs : List ((Nat × Nat) × Operand) → Box (Rl → Tr AV → List ((Nat × Nat) × AV))
  | [] => ⟨fun _ _ => []⟩
  | x :: l => ⟨fun R T => (x.1, (opd kp x.2).f R T) :: (evPs l).f R T⟩
def oev : Option Operand → Box (Rl → Tr AV → Option AV)
  | none => ⟨fun _ _ => none⟩
  | some x => ⟨fun R T => some ((opd kp x).f R T)⟩
def places (fs : List (Nat × Nat)) : List (Nat × Operand) → Option (List ((Nat × Nat) × Operand))
  | [] => some []
  | p :: l => ob (nth fs p.1) fun f => ob (places fs l) fun l => some ((f, p.2) :: l)

def buildF (zs : List AV) (ps : List ((Nat × Nat) × Operand)) : Box P1 := ⟨fun R T => ob (fillA ((evPs kp ps).f R T) zs) aggC⟩
def indexAddrS (ty : TypeId) (x i : Operand) : Box P1 :=
  match t.und ty with
  | some (.slice e) => sP (t.size e) fun s => p2 kp (iaddrF s) x i
  | some (.array ln e) => sP (t.size e) fun s => p2 kp (iaddrArrF ln s) x i
  | _ => noP
def indexS (xt : TypeId) (x i : Operand) : Box P1 :=
  match t.und xt with
  | some (.array ln e) => sP (aggSize t e) fun s => p2 kp (indexArrF ln s.2 (partA s).f) x i
  | some .string => p2 kp indexStrF x i
  | _ => noP
def buildS (ty : TypeId) (parts : List (Nat × Operand)) : Box P1 :=
  match t.und ty with
  | some (.struct _) => sP (fieldsOf t ty) fun fs => sP (t.zero ty) fun zs => sP (places fs parts) fun ps => buildF kp zs ps
  | some (.array ln e) => sP (t.size e) fun s => sP (t.zero ty) fun zs => sP (places (tabl (fun i => (i * s, s)) ln 0) parts) fun ps => buildF kp zs ps
  | _ => noP
def fieldAddrS (s : TypeId) (f : Nat) (x : Operand) : Box P1 :=
  sP (fieldOf t s f) fun g => sP (t.size g.type) fun n => match n with | 0 => noP | _ + 1 => p1 kp (faddrF g.offset) x
def builtinS (b : Builtin) (tys : List TypeId) (args : List Operand) : Box P1 :=
  match b, tys, args with
  | .cap, [ty], [x] => (match t.und ty with | some (.slice _) => p1 kp capF x | _ => noP)
  | .max, _, [x, y] => p2 kp maxF x y
  | .min, _, [x, y] => p2 kp minF x y
  | _, _, _ => noP
def convS (src dst : TypeId) (x : Operand) : Box P1 :=
  sP (t.und src) fun _ => sP (t.und dst) fun d => p1 kp (convF d).f x

/-- Operations that look at no memory. -/
def opPure (o : Op) : Box P1 :=
  match o with
  | .move x => ⟨fun R T => some ((opd kp x).f R T)⟩
  | .assign x => ⟨fun R T => some ((opd kp x).f R T)⟩
  | .pick c a b => ⟨pickF kp c a b⟩
  | .build ty parts => buildS t kp ty parts.toList
  | .nilCheck x => p1 kp nilCheckF x
  | .binOp op xt x y _ => sP (t.und xt) fun d => p2 kp (binA d (t.flat xt) op).f x y
  | .unOp op _ x => p1 kp (unF op).f x
  | .convert src dst x => convS t kp src dst x
  | .makeFunc (.func g) a b => ⟨fun R T => some (.fn (.func g) ((evs kp a.toList).f R T) ((evs kp b.toList).f R T))⟩
  | .fieldAddr s x f => fieldAddrS t kp s f x
  | .indexAddr ty x i => indexAddrS t kp ty x i
  | .field xt x f => sP (fieldOf t xt f) fun g => sP (aggSize t g.type) fun s => p1 kp (fieldF (partA s).f g.offset) x
  | .index xt x i => indexS t kp xt x i
  | .extract x i => p1 kp (extractF i) x
  | .call c => match c.callee with | .builtin b => builtinS t kp b c.argTypes.toList c.args.toList | _ => noP
  | _ => noP

/-! ### Operations that read memory -/
def cellsOf (x : Option Blk) : Option (List (List AV)) := ob x fun x => @Blk.rec (fun _ => Option (List (List AV))) (fun _ _ rows => some rows) (fun _ => none) (fun _ _ _ _ _ _ _ _ => none) x
def cells3 (x : Option Blk) (f : TypeId → Nat → List (List AV) → RV) : RV := rb x fun x => @Blk.rec (fun _ => RV) f (fun _ => .no) (fun _ _ _ _ _ _ _ _ => .no) x
def mapOf (x : Option Blk) : Option (List (AV × AV)) := ob x fun x => @Blk.rec (fun _ => Option (List (AV × AV))) (fun _ _ _ => none) (fun es => some es) (fun _ _ _ _ _ _ _ _ => none) x
abbrev KeyF := AV → AV → Option Bool
/-- Equality of keys, by their type; nf: so many cells, numbers and bools, of a struct. -/
def keyD (d : TypeDesc) (nf : Option (List (Option IntKind))) : Box KeyF :=
  match d with
  | .int _ => ⟨fun x y => x.onNum none fun j a => y.onNum none fun k b => cnd (kindEq j k) (some (intEq a b)) none⟩
  | .string => ⟨fun x y => x.onStr none fun a => y.onStr none fun b => some (bytesEq a b)⟩
  | .struct _ => opt nf ⟨fun _ _ => none⟩ fun n => ⟨fun x y => x.onAgg none fun a => y.onAgg none fun b => ob (kdIs n a) fun a => ob (kdIs n b) fun b => flatEq a b⟩
  | _ => ⟨fun _ _ => none⟩
def findA (eq : KeyF) (k : AV) (es : List (AV × AV)) : Option (Option AV) :=
  @List.rec (AV × AV) (fun _ => Option (Option AV)) (some none) (fun e _ r => ob (eq k e.1) fun b => cnd b (some (some e.2)) r) es
def putA (eq : KeyF) (k v : AV) (es : List (AV × AV)) : Option (List (AV × AV)) :=
  @List.rec (AV × AV) (fun _ => Option (List (AV × AV))) (some [(k, v)]) (fun e es r => ob (eq k e.1) fun b => cnd b (some ((k, v) :: es)) (ob r fun es => some (e :: es))) es
abbrev PR := Rl → Tr AV → AH → Option AV
def noR : Box PR := ⟨fun _ _ _ => none⟩
def sR {α : Type} (x : Option α) (f : α → Box PR) : Box PR := opt x noR f
def loadF (part : List AV → Nat → Option AV) (x : AV) (H : AH) : Option AV :=
  x.onAddr none (fun b r c => ob (cellsOf (H.get b)) fun rows => ob (nth rows r) fun row => part row c) fun cs => part cs 0
def found (ok : Bool) (zv : AV) (x : Option AV) : AV :=
  opt x (cnd ok (.tup [zv, .bool false]) zv) fun v => cnd ok (.tup [v, .bool true]) v
def lookupF (eq : KeyF) (ok : Bool) (zv : AV) (x k : AV) (H : AH) : Option AV :=
  ob (eq k k) fun _ => x.onMp none fun b => ob (mapOf (H.get b)) fun es => ob (findA eq k es) fun r => some (found ok zv r)
def mkSl (b r l h s : Nat) (cap : Option Nat) : AV :=
  opt cap (.sl b (Nat.add r l) (Nat.sub h l) s none) fun m => cnd (Nat.beq m l) .z (.sl b (Nat.add r l) (Nat.sub h l) s (some (Nat.sub m l)))
def sliceSlF (s b r n : Nat) (c : Option Nat) (lo hi mx : Option AV) (rows : List (List AV)) : Option AV :=
  let known := opt c (Nat.sub (len rows) r) fun m => m
  ob (bnd lo 0) fun l => ob (bnd hi n) fun h =>
    opt mx
      (cnd (Nat.ble l h) (cnd (Nat.ble h known) (cnd (Nat.ble (Nat.add r h) (len rows))
        (some (mkSl b r l h s c)) none) none) none)
      fun m => ob (natOf m) fun m => cnd (Nat.ble l h) (cnd (Nat.ble h m) (cnd (Nat.ble m known) (some (mkSl b r l h s (some m))) none) none) none
def sliceF (s : Nat) (x : AV) (lo hi mx : Option AV) (H : AH) : Option AV :=
  x.onSl none (fun b r n s' c => cnd (Nat.beq s s') (ob (cellsOf (H.get b)) (sliceSlF s b r n c lo hi mx)) none) (fun sz n f => opt mx (sliceImmF sz n f lo hi s) fun _ => none) (slice0F x lo hi mx) (slice0F x lo hi mx)
def sliceS (xt : TypeId) (x : Operand) (lo hi mx : Option Operand) : Box PR :=
  match t.und xt, mx with
  | some .string, none => ⟨fun R T _ => ((opd kp x).f R T).onStr none fun s => sliceStrF s ((oev kp lo).f R T) ((oev kp hi).f R T)⟩
  | some (.slice e), _ => cnd (cnd mx.isSome hi.isNone false) noR (sR (t.size e) fun s => ⟨fun R T H => sliceF s ((opd kp x).f R T) ((oev kp lo).f R T) ((oev kp hi).f R T) ((oev kp mx).f R T) H⟩)
  | _, _ => noR
/-- Lengths, by the type. -/
def lenD (d : TypeDesc) : Box (AV → AH → Option AV) :=
  match d with
  | .string => ⟨fun x _ => x.onStr none fun s => some (num64 (len s))⟩
  | .slice _ => ⟨fun x _ => x.onSl none (fun _ _ n _ _ => some (num64 n)) (fun _ n _ => some (num64 n)) (some (num64 0)) (some (num64 0))⟩
  | .map _ _ => ⟨fun x H => x.onMp none fun b => ob (mapOf (H.get b)) fun es => some (num64 (len es))⟩
  | _ => ⟨fun _ _ => none⟩
def lookupS (xt : TypeId) (ok : Bool) (x k : Operand) : Box PR :=
  match t.und xt with
  | some (.map kt e) => sR (t.und kt) fun d => sR (aggSize t e) fun s => sR (t.zero e) fun zs => sR ((partA s).f zs 0) fun zv => ⟨fun R T H => lookupF (keyD d (t.flat kt)).f ok zv ((opd kp x).f R T) ((opd kp k).f R T) H⟩
  | _ => noR
def loadS (part : List AV → Nat → Option AV) (x : Operand) : Box PR := ⟨fun R T H => loadF part ((opd kp x).f R T) H⟩
def lenS (f : AV → AH → Option AV) (x : Operand) : Box PR := ⟨fun R T H => f ((opd kp x).f R T) H⟩
/-- Operations that read memory. -/
def opRead (o : Op) : Box PR :=
  match o with
  | .load ty x => sR (aggSize t ty) fun s => loadS kp (partA s).f x
  | .lookup xt x i ok => lookupS t kp xt ok x i
  | .slice xt x lo hi mx => sliceS t kp xt x lo hi mx
  | .call c => (match c.callee, c.argTypes.toList, c.args.toList with | .builtin .len, [ty], [x] => sR (t.und ty) fun d => lenS kp (lenD d).f x | _, _, _ => noR)
  | _ => noR

/-! ### Operations that make a block, and look at no memory -/
abbrev NewF := Option (Tr Blk × (Nat → AV))
abbrev PN := Rl → Tr AV → NewF
def noN : Box PN := ⟨fun _ _ => none⟩
def sN {α : Type} (x : Option α) (f : α → Box PN) : Box PN := opt x noN f
def ptr0 (b : Nat) : AV := .ptr b 0 0
def boxF (e : TypeId) (x : AV) : NewF := lst x.cells none fun _ _ => some (.leaf (.cells e (len x.cells) [x.cells]), ptr0)
def slNew (n s : Nat) (b : Nat) : AV := .sl b 0 n s (some n)
def buildSliceF (e : TypeId) (s ln : Nat) (zs : List AV) (ps : List ((Nat × Nat) × AV)) : NewF :=
  ob (fillA ps zs) fun cs => some (.leaf (.cells e s (chunk s ln cs)), slNew ln s)
def makeSliceF (e : TypeId) (by_ s : Nat) (zs : List AV) (l c : AV) : NewF :=
  ob (natOf l) fun n => ob (natOf c) fun m =>
    cnd (Nat.ble n m) (cnd (Nat.ble m 16777216) (cnd (Nat.ble (Nat.mul by_ m) 281474976710656) (some (.leaf (.cells e s (rep zs m)), fun b => .sl b 0 n s (some m))) none) none) none
def byteRow (l : List UInt8) (i : Nat) : List AV := opt (nth l i) [] fun c => [.num .u8 (.ofNat c.toNat)]
def bytesImm (l : List UInt8) : AV := .imm 1 (len l) (byteRow l)
def convNewF (x : AV) : NewF := x.onStr none fun s => some (.nil, fun _ => bytesImm s)
def flat {α : Type} (l : List (List α)) : List α := @List.rec (List α) (fun _ => List α) [] (fun a _ r => app a r) l
def buildSliceS (ty : TypeId) (ln : Nat) (parts : List (Nat × Operand)) : Box PN :=
  match t.und ty with
  | some (.slice e) => sN (t.size e) fun s => sN (t.zero e) fun zs => sN (places (tabl (fun i => (i * s, s)) ln 0) parts) fun ps =>
      cnd (Nat.ble (ln * s) 16777216) (cnd (Nat.beq (len zs) s) ⟨fun R T => buildSliceF e s ln (flat (rep zs ln)) ((evPs kp ps).f R T)⟩ noN) noN
  | _ => noN
def makeSliceS (ty : TypeId) (l c : Operand) : Box PN :=
  match t.und ty with
  | some (.slice e) => sN (t.size e) fun s => sN (t.zero e) fun zs => cnd (Nat.beq (len zs) s) ⟨fun R T => makeSliceF e (t.bytes e) s zs ((opd kp l).f R T) ((opd kp c).f R T)⟩ noN
  | _ => noN
def convNewS (src dst : TypeId) (x : Operand) : Box PN :=
  match t.und src, t.und dst with
  | some .string, some (.slice e) => (match t.und e with | some (.int .u8) => ⟨fun R T => convNewF ((opd kp x).f R T)⟩ | _ => noN)
  | _, _ => noN
def newMap : NewF := some (.leaf (.map []), fun b => .mp b)
def makeMapS (ty : TypeId) (r : Option Operand) : Box PN :=
  match t.und ty with
  | some (.map _ _) => ⟨fun R T => opt ((oev kp r).f R T) newMap fun x => ob (natOf x) fun _ => newMap⟩
  | _ => noN
/-- Operations that make a block. -/
def opNew (o : Op) : Box PN :=
  match o with
  | .alloc e => sN (t.zero e) fun zs => ⟨fun _ _ => some (.leaf (.cells e (len zs) [zs]), ptr0)⟩
  | .box e x => ⟨fun R T => boxF e ((opd kp x).f R T)⟩
  | .buildSlice ty ln parts => buildSliceS t kp ty ln parts.toList
  | .makeSlice ty l c => makeSliceS t kp ty l c
  | .makeMap ty r => makeMapS t kp ty r
  | .convert src dst x => convNewS t kp src dst x
  | _ => noN

/-! ### Operations that write memory -/
def rowsIn (rows : List (List AV)) (r n : Nat) : Option (List (List AV)) := lenIs n (tak (drp rows r) n)
/-- The rows of a slice's elements. -/
def rowsOf (s : Nat) (H : AH) (x : AV) : Option (List (List AV)) :=
  x.onSl none (fun b r n s' _ => cnd (Nat.beq s s') (ob (cellsOf (H.get b)) fun rows => rowsIn rows r n) none) (fun s' n f => cnd (Nat.beq s s') (some (tabl f n 0)) none) (some []) (some [])
def setRow (rows : List (List AV)) (r c : Nat) (cs : List AV) : Option (List (List AV)) :=
  ob (nth rows r) fun row => cnd (Nat.ble (Nat.add c (len cs)) (len row)) (some (setAt rows (over row c cs) r)) none

def freshA (e : TypeId) (sz : Nat) (rows : List (List AV)) (H : AH) : RV := cnd (Nat.ble (len rows) 4194304) (H.new (.leaf (.cells e sz rows)) fun b H => .ok (.sl b 0 (len rows) sz none) H) .no
/-- Rows are written into a block where it stands. -/
def inPlace (b : Nat) (e : TypeId) (sz : Nat) (rows : List (List AV)) (at_ : Nat) (new : List (List AV)) (v : AV) (H : AH) : RV :=
  cnd (Nat.ble (Nat.add at_ (len new)) (len rows)) (rb (H.set b (.leaf (.cells e sz (over rows at_ new)))) fun H => .ok v H) .no
def appendSl (e : TypeId) (sz b r n : Nat) (c : Option Nat) (new : List (List AV)) (H : AH) (rows : List (List AV)) : RV :=
  opt c
    (cnd (Nat.ble (Nat.add r (Nat.add n (len new))) (len rows)) (inPlace b e sz rows (Nat.add r n) new (.sl b r (Nat.add n (len new)) sz c) H)
      (rb (rowsIn rows r n) fun old => rb (H.set b .nil) fun H => freshA e sz (app old new) H))
    fun m => cnd (Nat.ble (Nat.add n (len new)) m) (inPlace b e sz rows (Nat.add r n) new (.sl b r (Nat.add n (len new)) sz c) H)
      (rb (rowsIn rows r n) fun old => freshA e sz (app old new) H)
/-- Append to a slice. -/
def appendA (e : TypeId) (sz : Nat) (H : AH) (s : AV) (new : List (List AV)) : RV :=
  s.onSl .no (fun b r n s' c => cnd (Nat.beq sz s') (rb (cellsOf (H.get b)) (appendSl e sz b r n c new H)) .no) (fun _ _ _ => lst new (.ok s H) fun _ _ => .no)
    (lst new (.ok s H) fun _ _ => freshA e sz new H) (lst new (.ok s H) fun _ _ => freshA e sz new H)
def storeF (s : Nat) (a x : AV) (H : AH) : RV :=
  a.onPtr .no fun b r c => cells3 (H.get b) fun e sz rows => rb (lenIs s x.cells) fun cs => lst cs .no fun _ _ => rb (setRow rows r c cs) fun rows => rb (H.set b (.leaf (.cells e sz rows))) fun H => .ok undefA H
def mapPutF (eq : KeyF) (m k x : AV) (H : AH) : RV :=
  rb (eq k k) fun _ => m.onMp .no fun b => rb (mapOf (H.get b)) fun es => rb (putA eq k x es) fun es => rb (H.set b (.leaf (.map es))) fun H => .ok undefA H
def minN (a b : Nat) : Nat := cnd (Nat.ble a b) a b
def copyF (sz : Nat) (d s : AV) (H : AH) : RV :=
  rb (rowsOf sz H s) fun rows =>
    d.onSl .no (fun b r n s' _ => cnd (Nat.beq sz s') (cells3 (H.get b) fun e sz old => let m := minN (len rows) n; inPlace b e sz old r (tak rows m) (num64 m) H) .no) (fun _ _ _ => .no) (.ok (num64 0) H) (.ok (num64 0) H)
def clearF (zs : List AV) (x : AV) (H : AH) : RV :=
  x.onSl .no (fun b r n s' _ => cnd (Nat.beq (len zs) s') (cells3 (H.get b) fun e sz rows => inPlace b e sz rows r (rep zs n) (.tup []) H) .no) (fun _ n _ => cnd (Nat.beq n 0) (.ok (.tup []) H) .no) (.ok (.tup []) H) (.ok (.tup []) H)
abbrev PW := Rl → Tr AV → AH → RV
def noW : Box PW := ⟨fun _ _ _ => .no⟩
def sW {α : Type} (x : Option α) (f : α → Box PW) : Box PW := opt x noW f
def appendMk (e : TypeId) (sz : Nat) (zs : List AV) (s x : AV) (H : AH) : RV :=
  rb (natOf x) fun n => cnd (Nat.ble n 1048576) (appendA e sz H s (rep zs n)) .no
def appendS (ty xt : TypeId) (s x : Operand) : Box PW :=
  match t.und ty, t.und xt with
  | some (.slice e), some (.slice _) => sW (t.size e) fun sz => sW (t.zero e) fun _ => cnd (Nat.ble (t.bytes e) 16777216) ⟨fun R T H => rb (rowsOf sz H ((opd kp x).f R T)) fun new => appendA e sz H ((opd kp s).f R T) new⟩ noW
  | some (.slice e), some (.int _) => sW (t.size e) fun sz => sW (t.zero e) fun zs => cnd (Nat.ble (t.bytes e) 16777216) (cnd (Nat.beq (len zs) sz) ⟨fun R T H => appendMk e sz zs ((opd kp s).f R T) ((opd kp x).f R T) H⟩ noW) noW
  | _, _ => noW
def builtinW (b : Builtin) (tys : List TypeId) (args : List Operand) : Box PW :=
  match b, tys, args with
  | .append, [ty, xt], [s, x] => appendS t kp ty xt s x
  | .copy, ty :: _, [d, s] => (match t.und ty with | some (.slice e) => sW (t.size e) fun sz => ⟨fun R T H => copyF sz ((opd kp d).f R T) ((opd kp s).f R T) H⟩ | _ => noW)
  | .clear, [ty], [x] => (match t.und ty with | some (.slice e) => sW (t.zero e) fun zs => ⟨fun R T H => clearF zs ((opd kp x).f R T) H⟩ | _ => noW)
  | _, _, _ => noW
def mapPutS (ty : TypeId) (m k x : Operand) : Box PW :=
  match t.und ty with
  | some (.map kt _) => sW (t.und kt) fun d => ⟨fun R T H => mapPutF (keyD d (t.flat kt)).f ((opd kp m).f R T) ((opd kp k).f R T) ((opd kp x).f R T) H⟩
  | _ => noW
/-- Operations that write memory. -/
def opWrite (o : Op) : Box PW :=
  match o with
  | .store ty a x => sW (t.size ty) fun s => ⟨fun R T H => storeF s ((opd kp a).f R T) ((opd kp x).f R T) H⟩
  | .mapUpdate ty m k x => mapPutS t kp ty m k x
  | .insert ty m k x => mapPutS t kp ty m k x
  | .call c => match c.callee with | .builtin b => builtinW t kp b c.argTypes.toList c.args.toList | _ => noW
  | _ => noW

/-! ### All operations -/
/-- The classes of operations. -/
inductive Cls where
  | pure | read | new | write | call
  deriving Inhabited

def clsConv (dst : TypeId) : Cls := match t.und dst with | some (.slice _) => .new | _ => .pure
def clsB : Builtin → Cls
  | .append => .write
  | .copy => .write
  | .clear => .write
  | .len => .read
  | _ => .pure
def clsOf (o : Op) : Cls :=
  match o with
  | .load .. => .read
  | .lookup .. => .read
  | .slice .. => .read
  | .alloc .. => .new
  | .box .. => .new
  | .buildSlice .. => .new
  | .makeSlice .. => .new
  | .makeMap .. => .new
  | .convert _ dst _ => clsConv t dst
  | .store .. => .write
  | .mapUpdate .. => .write
  | .insert .. => .write
  | .call c => match c.callee with | .builtin b => clsB b | _ => .call
  | _ => .pure

abbrev Rec := FuncId → List AV → AH → RV
/-- What happens behind code, and behind an operation. -/
abbrev Nx := Tr AV → AH → Res
abbrev Nr := Rl → Tr AV → AH → Res
abbrev PutF := AV → Rl → Tr AV → (Rl → Tr AV → Res) → Res

/-- A value is put into a temporary; how many there are. -/
def putD (n : Nat) (d : Option Tmp) : Box PutF :=
  match d with
  | none => ⟨fun _ R T k => k R T⟩
  | some i => cnd (Nat.ble (Nat.succ i) n)
      (match posIn kp.l i with
       | some j => cnd (fits kp j) ⟨fun v R T k => k R (Tr.put (.leaf v) (path kp.k j []) T)⟩ ⟨fun _ _ _ _ => .no⟩
       | none => ⟨fun v R T k => k ((i, v) :: R) T⟩)
      ⟨fun _ _ _ _ => .no⟩

/-- A parameter is put into a temporary: what is not kept is forgotten. -/
def putK (n : Nat) (i : Nat) : Box (AV → Tr AV → Option (Tr AV)) :=
  cnd (Nat.ble (Nat.succ i) n)
    (match posIn kp.l i with
     | some j => cnd (fits kp j) ⟨fun v T => some (Tr.put (.leaf v) (path kp.k j []) T)⟩ ⟨fun _ _ => none⟩
     | none => ⟨fun _ T => some T⟩)
    ⟨fun _ _ => none⟩
def fillPs (n : Nat) : List Tmp → List AV → Tr AV → Option (Tr AV)
  | [], [], T => some T
  | p :: ps, v :: vs, T => ob ((putK kp n p).f v T) (fillPs n ps vs)
  | _, _, _ => none

/-- The guard of an operation: the temporary and what it must hold. -/
def guardOf (ops : List Oper) (j : Nat) (want : Bool) : Option (Tmp × Bool) := ob (nth ops j) fun g => ob g.dst fun d => some (d, want)

def wanted (want : Bool) (x : AV) : Option Bool :=
  @AF.rec AV (fun _ => Option Bool) (fun _ _ => none) (fun b => some (boolEq b want)) (fun _ _ _ => none) (fun _ _ _ _ _ => none) (fun _ => none) (fun w => match w with | .und => some false | _ => none) x.f

def loopJump : Option Code → Option AE
  | none => some .normal
  | some .ret => some .ret
  | some (.exit id) => some (.exit id)
  | _ => none

def newF (f : PN) : PW := fun R T H => rb (f R T) fun x => H.new x.1 fun b H => .ok (x.2 b) H

/-- Freezing: what a value leads to becomes immutable. -/
def rowF (l : List (List AV)) (i : Nat) : List AV := opt (nth l i) [] fun x => x
/-- A slice without elements that is not nil has a row that nobody reads. -/
def mark0 (l : List (List AV)) : List (List AV) := lst l [[⟨.x .und⟩]] fun _ _ => l
def freezeB (fz : AV → Option AV) (r n : Nat) (x : Blk) : Option AV :=
  @Blk.rec (fun _ => Option AV) (fun _ sz rows => ob (rowsIn rows r n) fun rows => ob (mapO (mapO fz) rows) fun l => some (.imm sz n (rowF (mark0 l)))) (fun _ => none) (fun _ _ _ _ _ _ _ _ => none) x
def freezeV (m k : Nat) : AH → AV → Option AV :=
  @Nat.rec (fun _ => AH → AV → Option AV) (fun _ _ => none) (fun _ ih H v =>
    @AF.rec AV (fun _ => Option AV) (fun _ _ => some v) (fun _ => some v) (fun _ _ _ => some v) (fun b r n _ _ => cnd (Nat.ble m b) (ob (H.get b) (freezeB (ih H) r n)) (some v)) (fun cs => ob (mapO (ih H) cs) fun l => some (.agg l))
      (fun w => AX.onTup (some v) w fun cs => ob (mapO (ih H) cs) fun l => some (.tup l)) v.f) k

inductive Mode where
  | keep      -- nothing is done behind the call
  | scalar    -- what came goes away
  | pure      -- the result is frozen, and what came goes away
  deriving Inhabited

def AH.prune (H : AH) (n : Nat) : AH := ⟨H.next, H.prot, Tr.low (pathH n) H.tr⟩

def afterCall (m : Mode) : Box (Nat → AV → AH → RV) :=
  match m with
  | .keep => ⟨fun _ v H => .ok v H⟩
  | .scalar => ⟨fun n v H => cnd (Nat.ble maxH n) .no (.ok v (H.prune n))⟩
  | .pure => ⟨fun n v H => cnd (Nat.ble maxH n) .no (rb (freezeV n 40 H v) fun v => .ok v (H.prune n))⟩

def resCell (part : List AV → Nat → Option AV) (x : AV) (H : AH) : Option AV :=
  x.onPtr none fun b r c => ob (cellsOf (H.get b)) fun rows => ob (nth rows r) fun row => part row c
abbrev PE := Tr AV → AH → Option AV
def res1 (r : ResultVar) : Box PE :=
  match r with
  | .tmp i => ⟨fun T _ => some ((getS kp i).f [] T)⟩
  | .cell a ty => opt (aggSize t ty) ⟨fun _ _ => none⟩ fun s => ⟨fun T H => resCell (partA s).f ((getS kp a).f [] T) H⟩
def resL : List ResultVar → Box (Tr AV → AH → Option (List AV))
  | [] => ⟨fun _ _ => some []⟩
  | r :: l => ⟨fun T H => ob ((res1 t kp r).f T H) fun v => ob ((resL l).f T H) fun vs => some (v :: vs)⟩
def resA (l : List ResultVar) : Box PE :=
  match l with
  | [r] => res1 t kp r
  | l => ⟨fun T H => ob ((resL t kp l).f T H) fun vs => some (.tup vs)⟩

def fillT (n : Nat) (vs : List AV) : Nat → Tr AV → Option (Tr AV) :=
  @List.rec AV (fun _ => Nat → Tr AV → Option (Tr AV)) (fun _ T => some T) (fun v _ ih i T => ob ((putK kp n i).f v T) (ih (Nat.succ i))) vs

/-! ### Code -/
abbrev onRes (r : Res) (f : AE → Tr AV → AH → Res) : Res := @Res.rec (fun _ => Res) .no f r
abbrev onAE {R : Type} (e : AE) (n : R) (x : Nat → R) (r : R) : R := @AE.rec (fun _ => R) n x r e
/-- Loops, as long as there is fuel. -/
def loopN (a : Nx) (k : Nat) : Nx :=
  @Nat.rec (fun _ => Nx) (fun _ _ => .no) (fun _ ih T H => onRes (a T H) fun e T H => onAE e (ih T H) (fun id => .go (.exit id) T H) (.go .ret T H)) k
def seqF (r : Res) (b : Nx) : Res := onRes r fun e T H => onAE e (b T H) (fun id => .go (.exit id) T H) (.go .ret T H)
def blockF (id : Nat) (r : Res) : Res := onRes r fun e T H => onAE e (.go .normal T H) (fun j => .go (cnd (Nat.beq id j) .normal (.exit j)) T H) (.go .ret T H)
def condF (c : AV) (a b : Nx) : Nx := fun T H => c.onBool .no fun x => cnd x (a T H) (b T H)

abbrev Ops := Rec → Nx
abbrev Run := FuncId → Nat → Code → Box Ops
variable (kps : FuncId → Kp)

/-- A loop's state is changed. -/
def setLoop (l : Nat) (H : AH) (f : LoopState → Option Code → Option (LoopState × Option Code)) : Option AH :=
  match H.get l with
  | some (.loop fn tr n ps as body st pend) => ob (f st pend) fun p => H.set l (.leaf (.loop fn tr n ps as body p.1 p.2))
  | _ => none
def isReady : LoopState → Option Code → Option (LoopState × Option Code)
  | .ready, pend => some (.busy, pend)
  | _, _ => none
/-- Behind a round. -/
def roundEnd (l : Nat) (r : Res) : RV :=
  match r with
  | .go .normal _ H => rb (setLoop l H fun _ _ => some (.ready, none)) fun H => .ok (.bool true) H
  | .go .ret _ H => rb (setLoop l H fun _ _ => some (.done, some .ret)) fun H => .ok (.bool false) H
  | .go (.exit id) _ H => rb (setLoop l H fun _ _ => some (.done, some (.exit id))) fun H => .ok (.bool false) H
  | .no => .no

/-- A round of a range over a function. -/
def roundF (run : Run) (rec : Rec) (l : Nat) (args : List AV) (H : AH) : RV :=
  match H.get l with
  | some (.loop fn tr n ps as body _ _) =>
    rb (fillPs (kps fn) n ps.toList args tr) fun T1 =>
      match (run fn n as).f rec T1 H with
      | .go .normal T2 H => rb (setLoop l H isReady) fun H => roundEnd l ((run fn n body).f rec T2 H)
      | _ => .no
  | _ => .no

def calleeF (run : Run) (rec : Rec) (f : AV) (args : List AV) (H : AH) : RV :=
  f.onFn .no fun f first cap => match f with
    | .func g => rec g (app first (app args cap)) H
    | .yield l => lst (app first cap) (roundF kps run rec l args H) fun _ _ => .no
    | _ => .no

def callS (run : Run) (c : Call) : Box (Rec → PW) :=
  match c.callee with
  | .value (.func g) => ⟨fun rec R T H => rec g ((evs kp c.args.toList).f R T) H⟩
  | .value f => ⟨fun rec R T H => calleeF kps run rec ((opd kp f).f R T) ((evs kp c.args.toList).f R T) H⟩
  | _ => ⟨fun _ => noW.f⟩

/-- One operation, and what comes behind it. -/
abbrev Cont := Rec → Nr → Nr
def pureC (put : PutF) (f : P1) : Cont := fun _ k R T H => sb (f R T) fun v => put v R T fun R T => k R T H
def readC (put : PutF) (f : PR) : Cont := fun _ k R T H => sb (f R T H) fun v => put v R T fun R T => k R T H
def writeC (put : PutF) (f : PW) : Cont := fun _ k R T H => vb (f R T H) fun v H => put v R T fun R T => k R T H
def callC (put : PutF) (f : Rec → PW) : Cont := fun rec k R T H => vb (f rec R T H) fun v H => put v R T fun R T => k R T H
def opCall (run : Run) (o : Op) : Box (Rec → PW) :=
  match o with
  | .call c => callS kp kps run c
  | _ => ⟨fun _ => noW.f⟩
def oneOp (run : Run) (n : Nat) (o : Oper) : Box Cont :=
  match clsOf t o.op with
  | .pure => ⟨pureC (putD kp n o.dst).f (opPure t kp o.op).f⟩
  | .read => ⟨readC (putD kp n o.dst).f (opRead t kp o.op).f⟩
  | .new => ⟨writeC (putD kp n o.dst).f (newF (opNew t kp o.op).f)⟩
  | .write => ⟨writeC (putD kp n o.dst).f (opWrite t kp o.op).f⟩
  | .call => ⟨callC (putD kp n o.dst).f (opCall kp kps run o.op).f⟩

def skipC (put : PutF) : Cont := fun _ k R T H => put undefA R T fun R T => k R T H
def guardC (get : Rl → Tr AV → AV) (want : Bool) (a b : Cont) : Cont := fun rec k R T H => sb (wanted want (get R T)) fun w => cnd w (a rec k R T H) (b rec k R T H)
/-- .. under its guard. -/
def guardS (run : Run) (ops : List Oper) (n : Nat) (o : Oper) : Box Cont :=
  match o.guard with
  | none => oneOp t kp kps run n o
  | some (j, want) =>
    match guardOf ops j want with
    | some g => ⟨guardC (getS kp g.1).f g.2 (oneOp t kp kps run n o).f (skipC (putD kp n o.dst).f)⟩
    | none => ⟨skipC (putD kp n o.dst).f⟩

def done : Nr := fun _ T H => .go .normal T H

/-- Operations in the order of the text. -/
def evOps (run : Run) (n : Nat) (ops : List Oper) : List Oper → Box (Rec → Nr)
  | [] => ⟨fun _ => done⟩
  | o :: rest => ⟨fun rec => (guardS t kp kps run ops n o).f rec ((evOps run n ops rest).f rec)⟩

/-- Behind the function that was ranged over. -/
def endLoopF (l : Nat) (T : Tr AV) (H : AH) : Res :=
  match H.get l with
  | some (.loop _ _ _ _ _ _ .busy _) => .no
  | some (.loop _ _ _ _ _ _ _ pend) => sb (loopJump pend) fun e => sb (H.set l .nil) fun H => .go e T H
  | _ => .no
/-- The statement of a range over a function. -/
def rangeF (fn : FuncId) (n : Nat) (f : Ev) (ps : Array Tmp) (as body : Code) (rec : Rec) (T : Tr AV) (H : AH) : Res :=
  vb (H.new (.leaf (.loop fn T n ps as body .ready none)) fun l H => (f [] T).onFn .no fun g first cap =>
    match g with
    | .func g => vv (rec g (app first (.fn (.yield l) [] [] :: cap)) H) fun _ H => .ok (.fn (.yield l) [] []) H
    | _ => .no) fun v H => v.onFn .no fun g _ _ => match g with
    | .yield l => endLoopF l T H
    | _ => .no

def noO : Box Ops := ⟨fun _ _ _ => .no⟩
abbrev Draw := Kp → Run → Nat → List Oper → Box (Rec → Nr)
def seqS (a b : Box Ops) : Box Ops := ⟨fun rec T H => seqF (a.f rec T H) (b.f rec)⟩
def condS (c : Operand) (a b : Box Ops) : Box Ops := ⟨fun rec T H => condF ((opd kp c).f [] T) (a.f rec) (b.f rec) T H⟩
def blockS (id : Nat) (a : Box Ops) : Box Ops := ⟨fun rec T H => blockF id (a.f rec T H)⟩
def loopS (a : Box Ops) : Box Ops := ⟨fun rec => loopN (a.f rec) 100000⟩
def opsS (a : Box (Rec → Nr)) : Box Ops := ⟨fun rec T H => a.f rec [] T H⟩
def regionS (draw : Draw) (run : Run) (n : Nat) (ops : Array Oper) (d : Bool) : Box Ops := opsS (cnd d (draw kp run n ops.toList) (evOps t kp kps run n ops.toList ops.toList))
/-- Code. -/
def ev (draw : Draw) (run : Run) (rng : Bool) (fn : FuncId) (n : Nat) (c : Code) : Box Ops :=
  @Code.rec (fun _ => Box Ops) ⟨fun _ T H => .go .normal T H⟩ (fun _ ops d => regionS t kp kps draw run n ops d) (fun _ _ a b => seqS a b) (fun c _ _ a b => condS kp c a b) (fun id _ a => blockS id a) (fun _ a => loopS a)
    (fun f ps as body _ _ => cnd rng ⟨rangeF fn n (opd kp f).f ps as body⟩ noO) (fun id => ⟨fun _ T H => .go (.exit id) T H⟩) (fun _ _ => noO) (fun _ => noO) (fun _ => noO) ⟨fun _ T H => .go .ret T H⟩ (fun _ => noO) c

def runN (draw : Draw) : Nat → Run
  | 0 => fun _ _ _ => noO
  | k + 1 => fun fn n c => ev t (kps fn) kps draw (runN draw k) false fn n c

abbrev CallF := Rec → List AV → AH → RV
def endCall (after : Nat → AV → AH → RV) (b : Nat) (res : PE) (r : Res) : RV :=
  @Res.rec (fun _ => RV) .no (fun e T H => onAE e (rb (res T H) fun v => after b v H) (fun _ => .no) (rb (res T H) fun v => after b v H)) r
def callBody (draw : Draw) (m : Mode) (f : FuncId) (fn : Func) : Box CallF :=
  match fn.body with
  | some c => ⟨fun rec args H => rb (fillT (kps f) fn.ntmps args 0 .nil) fun T => endCall (afterCall m).f H.next (resA t (kps f) fn.results.toList).f ((ev t (kps f) kps draw (runN t kps draw 8) true f fn.ntmps c).f rec T H)⟩
  | none => ⟨fun _ _ _ => .no⟩
def callFn (draw : Draw) (mode : FuncId → Mode) (f : FuncId) : Box CallF :=
  match t.fn f with
  | some fn => callBody t kps draw (mode f) f fn
  | none => ⟨fun _ _ _ => .no⟩
def orElse (r : RV) (x : RV) : RV := @RV.rec (fun _ => RV) x (fun v H => .ok v H) r
/-- Calls, so deep. -/
def callN (draw : Draw) (mode : FuncId → Mode) (G : Rec) (k : Nat) : Rec :=
  @Nat.rec (fun _ => Rec) (fun _ _ _ => .no) (fun _ ih f args H => orElse (G f args H) ((callFn t kps draw mode f).f ih args H)) k
def draw0 : Draw := fun kp run n ops => evOps t kp kps run n ops ops
end
end Go.Drip
end

